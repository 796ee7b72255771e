/- Several texts in one. -/
import Derived.Test.YtmdokbohofchgaaGreatDoorMrg5
set_option linter.unusedSimpArgs false
set_option linter.unusedVariables false
set_option maxHeartbeats 4000000
set_option maxRecDepth 20000
namespace Go.Proofs.YtmdokbohofchgaaGreatDoor.E
open Go
theorem xR {n b:Nat} (hn:n<=2000000001) (hb:b<=1000):room n b:=by
 have:n * b<=2000000001 * 1000:=Nat.mul_le_mul hn hb;exact⟨by omega,by unfold maxLen;omega⟩
theorem XU:(eb Tryz.prog 43).isSome=true:=by kernel_rfl
attribute [go_sem] XU
theorem PD (l:List Pc) (la:Option Addr) (lc:Nat) (m:Mem) (h:ax m la l.length 4 (flat Pc.cs l)) (hb:l.length<=2000000000):
  FnH Tryz.prog 223 [.v (.slice la l.length lc)] ⟨[],[]⟩ m
   fun r H' m' =>ah m m' /\((la=none/\r= .v (.slice none 0 0)/\H' =⟨[],[]⟩)\/(la≠none/\∃u,r= .vec 0 u/\H' =⟨[],[⟨0,u,95,4,l.length,flat Pc.cs l⟩]⟩)):=by
 refine br aq Tryz.func223 ?_
 ·cases la with
  |none=>
   simp only[go_sem];exact fun h=>by cases h
  |some ad=>
   simp only[go_sem];refine⟨fun h=>(by cases h),fun _=>⟨_,h,fun u hu=> ?_,xR (by omega) (by decide),nofun,1,rfl,by rw[Nat.zero_add]⟩⟩;unfold flat at hu;obtain⟨p,_,hp⟩:=List.mem_flatMap.1 hu;simp only[Pc.cs,List.mem_cons,List.not_mem_nil,or_false] at hp;rcases hp with rfl |rfl |rfl |rfl<;>rfl
section
variable {S:Sc} {E:List Cd} {ad:Addr} {da:Option Addr} {dc:Nat} {la:Option Addr} {lc:Nat} {b:Nat} {a:Option Addr} {c:Nat} {L:List Cc}
theorem Jg (t:Ty) (s:Nm) {m m1:Mem} (hT:Tp m S E ad da dc la lc b a c L) (hl:S.loc.length<2000000000) (hm:ah m m1) {a' :Option Addr} {n' c' :Nat} {xs:List Value} (hr:ax m1 a' n' 4 xs) (hn:n' =S.loc.length+1) (hx:xs=flat Pc.cs (S.loc++[⟨t,s⟩])) (hc:n' <=c'):
  Tp m1 (gG S t s) E ad da dc a' c' b a c L:=by
 have h:=hT.up hm;subst hn hx;have e:(gG S t s).loc.length=S.loc.length+1:=by show(S.loc++[_]).length=_;rw[aZ];rfl
 exact⟨h.ck,h.pr,h.ci,by rw[e];exact hr,by rw[e];exact hc,by rw[e];omega⟩
theorem Dj (t:Ty) (s:Nm):(gG S t s).loc.length=S.loc.length+1:=by show(S.loc++[_]).length=_;rw[aZ];rfl
theorem HZ (t:Ty) (s:Nm) (m:Mem) (hT:Tp m S E ad da dc la lc b a c L) (hl:S.loc.length<2000000000):
  FnH Tryz.prog 123 [.v (.agg ⟨au ad da dc S la lc⟩),.v (.agg ⟨aD t⟩),.v (.string (bs s))] ⟨[],[]⟩ m
   fun r H' m' =>ah m m' /\H' =⟨[],[]⟩/\∃wz wy,r= .agg ((au ad da dc (gG S t s) wz wy).map .v)/\Tp m' (gG S t s) E ad da dc wz wy b a c L:=by
 refine nL ?_;have hC:=fun m' (hle:ah m m')=>PD S.loc la lc m' (hT.up hle).loc (by omega)
 refine enter bj aq Tryz.func123 rfl rfl (by kernel_rfl) rfl ?_ ?_
 ·clear hC;simp only[go_sem,au,aD]
 ·simp only[go_sem,au,aD];refine bX (.hoist 0 (.hoist 1 (.hoist 2 (.hoist 4 (.hoist 5 (.hoist 6 (.alt 3 [6,5,4] (.alt 7 [] (.alt 8 [] (.hoist 9 (.hoist 10 (.alt 11 [] .done .stop))) .stop) .stop) (.alt 7 [2,1,0] (.alt 3 [] (.alt 8 [] (.hoist 9 (.hoist 10 (.alt 11 [] .done .stop))) .stop) .stop) .stop)))))))) aq (by kernel_rfl) (by kernel_rfl) ?_;simp only[go_sem];refine⟨⟨by kernel_rfl,?_⟩,by kernel_rfl,?_⟩;all_goals
   refine bF ((hC m (.inl rfl)).mono ?_);clear hC;rintro r H' m1 aQ ⟨l1,⟨hn,rfl,rfl⟩ |⟨hn,u,rfl,rfl⟩⟩
   ·simp only[go_sem];have h0:S.loc=[]:=by
     have h:=hT.loc.2;rw[hn] at h;cases hc:S.loc with
     |nil=>rfl
     |cons x y=>
      rw[hc] at h;obtain⟨_,h,_⟩:=h (Nat.succ_pos _);cases h
    have hQ:=fun(a' :Option Addr) (c' :Nat) (m2:Mem) (h1:m1.le m2) (h2:1<=c') (h3:ax m2 a' 1 4 [.int .i64 t.dim,.int .u8 t.base,.string (bs t.name),.string (bs s)])=>Jg t s hT hl (ae l1 (.inr h1)) h3 (by rw[h0];rfl) (by rw[h0];rfl) h2
    have hW:=Dj (S:=S) t s;have fv:S.loc.length=0:=by rw[h0];rfl
    first
     |refine⟨⟨l1,l1,l1⟩,xR (by omega) (by decide),s8 8 rfl rfl ⟨[],[]⟩ (List.nil_sublist _) (List.nil_sublist _) fun a' c' m2 h1 h2 h3=>⟨ae l1 (.inr h1),rfl,a',c',?_,hQ a' c' m2 h1 h2 h3⟩⟩
      rw[hW,fv];rfl
     |refine⟨xR (by omega) (by decide),s8 8 rfl rfl ⟨[],[]⟩ (List.nil_sublist _) (List.nil_sublist _) fun a' c' m2 h1 h2 h3=>⟨ae l1 (.inr h1),rfl,a',c',?_,hQ a' c' m2 h1 h2 h3⟩⟩
      rw[hW,fv];rfl
   ·simp only[go_sem];have hQ:=fun(a' :Option Addr) (c' :Nat) (m2:Mem) (h1:m1.le m2) (h2:S.loc.length+1<=c') (h3:ax m2 a' (S.loc.length+1) 4 (flat Pc.cs S.loc++[.int .i64 t.dim,.int .u8 t.base,.string (bs t.name),.string (bs s)]))=>Jg t s hT hl (ae l1 (.inr h1)) h3 rfl (by rw[xg];rfl) h2
    have hW:=Dj (S:=S) t s;first
     |refine⟨⟨l1,l1,l1⟩,xR (by omega) (by decide),s8 (b:=⟨3,u+1,95,4,S.loc.length+1,flat Pc.cs S.loc++[.int .i64 t.dim,.int .u8 t.base,.string (bs t.name),.string (bs s)]⟩) 8 rfl (by simp [cq]) ⟨[],[]⟩ (List.nil_sublist _) (List.nil_sublist _) fun a' c' m2 h1 h2 h3=>⟨ae l1 (.inr h1),rfl,a',c',?_,hQ a' c' m2 h1 h2 h3⟩⟩
      rw[hW];rfl
     |refine⟨xR (by omega) (by decide),s8 (b:=⟨4,u+1,95,4,S.loc.length+1,flat Pc.cs S.loc++[.int .i64 t.dim,.int .u8 t.base,.string (bs t.name),.string (bs s)]⟩) 8 rfl (by simp [cq]) ⟨[],[]⟩ (List.nil_sublist _) (List.nil_sublist _) fun a' c' m2 h1 h2 h3=>⟨ae l1 (.inr h1),rfl,a',c',?_,hQ a' c' m2 h1 h2 h3⟩⟩
      rw[hW];rfl
end
section
variable {S:Sc} {E:List Cd} {ad:Addr} {da:Option Addr} {dc:Nat} {la:Option Addr} {lc:Nat} {b:Nat} {a:Option Addr} {c:Nat} {L:List Cc}
theorem Tp.su {m:Mem} (h:Tp m S E ad da dc la lc b a c L):Tp m {S with su:=true} E ad da dc la lc b a c L:=⟨h.ck,h.pr,h.ci,h.loc,h.lcp,h.ll⟩
theorem DO (hE:dr E) (hS:dO S.loc) (l:List Ex) (xs:List Value) (ea:Option Addr) (n cp:Nat) (m:Mem) (hT:Tp m S E ad da dc la lc b a c L) (hr:ax m ea n 8 xs) (hn:n=l.length) (hb:n<=aw) (cF:dB m l xs) (hv:kE l=true):
  FnH Tryz.prog 166 [.v (.agg ⟨au ad da dc S la lc⟩),.v (.slice ea n cp)] ⟨[],[]⟩ m
   fun r H' m' =>ah m m' /\H' =⟨[],[]⟩/\r= .v (.int .i64 (gr E S l)):=by
 have hO:=MX (S:={S with su:=true}) hE hS l xs ea n cp m hT.su hr hn hb cF hv;have hR:gr E S l=if S.st=true then 72 else if(bS E {S with su:=true} l).2=0 then mJ E S (cB S).super (bS E {S with su:=true} l).1 else(bS E {S with su:=true} l).2:=rfl
 revert hO hR;generalize bS E {S with su:=true} l=K
 generalize gr E S l=R
 unfold au;intro hO hR;refine enter bj aq Tryz.func166 rfl rfl (by kernel_rfl) rfl ?_ ?_
 ·clear hO;simp only[go_sem]
 ·by_cases hs:S.st=true
  ·rw[ai hs] at hR;clear hO;simp only[go_sem,hs,fM,and_self];exact hR.symm
  ·rw[aa hs] at hR;have hs:=(Bool.not_eq_true _).mp hs;simp only[go_sem,hs];simp only[hs] at hO;refine ak ((aC hO fun V=>rfl).mono ?_);clear hO;rintro r H' m1 aQ ⟨l1,rfl,ta,tc,ht,rfl⟩;have bE:=eq_true l1;by_cases hz:K.2=0
   ·rw[ai hz] at hR;simp only[go_sem,hz,bE,and_self];refine bX (.hoist 0 (.hoist 1 (.hoist 4 (.alt 2 [4,0] (.hoist 3 (.alt 5 [] (.hoist 6 .done) .stop)) .stop)))) aq (by kernel_rfl) (by kernel_rfl) ?_;simp only[go_sem];have gg:=Gu m1 (hT.up l1);have qP:=I4 (cB S).super K.1 ta K.1.length tc m1 (hT.up l1) ht;unfold au at gg qP;simp only[hs] at gg qP;refine ak ((aC gg fun V=>rfl).mono ?_);clear gg;rintro r H' m2 aJ ⟨rfl,rfl,X,rfl,hX⟩;simp only[go_sem,Cc.cs];rw[<- hX.sup] at qP hR;refine ak ((aC qP fun V=>rfl).mono ?_);clear qP;rintro r H' m3 dx ⟨l3,rfl,rfl⟩;have qN:=eq_true (ae l1 l3);simp only[go_sem,qN,and_self];exact hR.symm
   ·rw[aa hz] at hR;simp only[go_sem,hz,bE,and_self];exact hR.symm
end
def jf (m:Mem) (v:Int) (r:SV) (H' :Hp) (m' :Mem):Prop:=ah m m' /\H' =⟨[],[]⟩/\r= .v (.int .i64 v)
def BlkC (m:Mem) (E:List Cd) (S:Sc) (ad:Addr) (da:Option Addr) (dc:Nat) (b:Nat) (a:Option Addr) (c:Nat) (L:List Cc) (l:List St) (sa:Option Addr) (n sc:Nat):Prop:=
 ∀la lc m',ah m m' ->Tp m' S E ad da dc la lc b a c L->FnH Tryz.prog 167 [.v (.agg ⟨au ad da dc S la lc⟩),.v (.slice sa n sc)] ⟨[],[]⟩ m' (jf m' (bT E S false l))
theorem BlkC.up {m m1:Mem} {E:List Cd} {S:Sc} {ad:Addr} {da:Option Addr} {dc:Nat} {b:Nat} {a:Option Addr} {c:Nat} {L:List Cc} {l:List St} {sa:Option Addr} {n sc:Nat} (hle:ah m m1)
  (h:BlkC m E S ad da dc b a c L l sa n sc):BlkC m1 E S ad da dc b a c L l sa n sc:=fun la lc m' h1 h2=>h la lc m' (ae hle h1) h2
section
variable {S:Sc} {E:List Cd} {ad:Addr} {da:Option Addr} {dc:Nat} {la:Option Addr} {lc:Nat} {b:Nat} {a:Option Addr} {c:Nat} {L:List Cc}
theorem Oa (X:Sd) (body alt:List St) (m:Mem) (hT:Tp m S E ad da dc la lc b a c L) (hB:BlkC m E S ad da dc b a c L body X.a X.l X.cp) (hA:BlkC m E S ad da dc b a c L alt X.b X.l2 X.cp2):
  FnH Tryz.prog 271 [.v (.agg ⟨au ad da dc S la lc⟩),.v (.agg ⟨X.cs⟩)] ⟨[],[]⟩ m (jf m (if bT E S false body=0 then bT E S false alt else bT E S false body)):=by
 have hB:=hB la lc m (.inl rfl) hT;have hA:=fun m' (hle:ah m m')=>hA la lc m' hle (hT.up hle)
 revert hB hA;generalize bT E S false body=B
 generalize bT E S false alt=A
 unfold au;intro hB hA;refine enter bj aq Tryz.func271 rfl rfl (by kernel_rfl) rfl ?_ ?_
 ·clear hB hA;simp only[go_sem,Sd.cs]
 ·simp only[go_sem,Sd.cs];refine ak ((aC hB fun V=>rfl).mono ?_);clear hB;rintro r H' m1 aQ ⟨l1,rfl,rfl⟩;by_cases hz:B=0
  ·have hA:=hA m1 l1;simp only[go_sem,hz];refine ak ((aC hA fun V=>rfl).mono ?_);clear hA;rintro r H' m2 aJ ⟨l2,rfl,rfl⟩;simp only[go_sem];exact⟨ae l1 l2,rfl,by first |rfl |rw[ai hz]⟩
  ·clear hA;simp only[go_sem,hz];exact⟨l1,rfl,by first |rfl |rw[aa hz]⟩
theorem Nj (X:Sd) (body alt:List St) (m:Mem) (hT:Tp m S E ad da dc la lc b a c L) (hl:S.loc.length<2000000000) (hB:BlkC m E S ad da dc b a c L body X.a X.l X.cp) (hA:BlkC m E (gG S X.ty X.name) ad da dc b a c L alt X.b X.l2 X.cp2):
  FnH Tryz.prog 220 [.v (.agg ⟨au ad da dc S la lc⟩),.v (.agg ⟨X.cs⟩)] ⟨[],[]⟩ m
   (jf m (if fR E S X.ty X.name=0 then(if ew E X.ty (eY iU)=true then(if bT E S false body=0 then bT E (gG S X.ty X.name) false alt else bT E S false body) else 73) else fR E S X.ty X.name)):=by
 have hV:=Jh X m hT;have hB:=fun m' (hle:ah m m')=>hB la lc m' hle (hT.up hle)
 have hW:=fun m' (hle:ah m m')=>HZ X.ty X.name m' (hT.up hle) hl
 have aR:=fun m' (hle:ah m m')=>(hT.up hle).ck.chk
 have hR:(if fR E S X.ty X.name=0 then(if ew E X.ty (eY iU)=true then(if bT E S false body=0 then bT E (gG S X.ty X.name) false alt else bT E S false body) else 73) else fR E S X.ty X.name)=_:=rfl;revert hB hA hW hV hR;generalize hRR:(if fR E S X.ty X.name=0 then(if ew E X.ty (eY iU)=true then(if bT E S false body=0 then bT E (gG S X.ty X.name) false alt else bT E S false body) else 73) else fR E S X.ty X.name)=R
 unfold BlkC;revert hRR;generalize bT E S false body=B
 generalize bT E (gG S X.ty X.name) false alt=A
 generalize fR E S X.ty X.name=v
 unfold au;intro hR hA hV hB hW _;refine enter (cK S E) (bI S E) Tryz.func220 rfl rfl (by kernel_rfl) rfl ?_ ?_
 ·clear hV hB hA hW;simp only[go_sem,Sd.cs]
 ·simp only[go_sem,Sd.cs];refine ak ((aC hV fun V=>rfl).mono ?_);clear hV;rintro r H' m1 aQ ⟨l1,rfl,rfl⟩;by_cases hz:v=0
  ·rw[ai hz] at hR;have aR:=aR m1 l1;simp only[go_sem,hz];refine vf (bI S E) (by kernel_rfl) (by kernel_rfl) (by kernel_rfl) ?_;simp only[go_sem,aR,aD,eY];refine⟨fun h0=> ?_,fun h0=> ?_⟩
   ·clear hB hA hW;rw[aa (by rw[show ew E X.ty (eY iU)=false from h0];decide)] at hR;exact⟨l1,rfl,by rw[hR]⟩
   ·rw[ai (show ew E X.ty (eY iU)=true from h0)] at hR;have hB:=hB m1 l1;refine ak ((aC hB fun V=>rfl).mono ?_);clear hB;rintro r H' m2 aJ ⟨l2,rfl,rfl⟩;have ji:=ae l1 l2;by_cases hw:B=0
    ·rw[ai hw] at hR;have hW:=hW m2 ji;simp only[go_sem,hw];refine bX (.hoist 0 (.hoist 1 (.hoist 2 (.hoist 3 (.hoist 4 (.hoist 6 (.hoist 7 (.alt 5 [7,6] (.alt 8 [] (.hoist 9 .done) .stop) .stop)))))))) (bI S E) (by kernel_rfl) (by kernel_rfl) ?_;simp only[go_sem];refine ak ((aC hW fun V=>rfl).mono ?_);clear hW;rintro r H' m3 dx ⟨l3,rfl,wz,wy,rfl,hT'⟩;have hA:=hA wz wy m3 (ae ji l3) hT';simp only[go_sem,au,aG,List.map_nil];refine⟨⟨l3,l3⟩,by kernel_rfl,bF ((aC hA fun V=>rfl).mono ?_)⟩;clear hA;rintro r H' m4 iF ⟨l4,rfl,rfl⟩;simp only[go_sem];exact⟨ae (ae ji l3) l4,rfl,by rw[hR]⟩
    ·clear hA hW;rw[aa hw] at hR;simp only[go_sem,hw];exact⟨ji,rfl,by rw[hR]⟩
  ·clear hB hA hW;rw[aa hz] at hR;simp only[go_sem,hz];exact⟨l1,rfl,by rw[hR]⟩
theorem PB (X:Sd) (body:List St) (m:Mem) (hT:Tp m S E ad da dc la lc b a c L) (hk:X.k=10) (hB:BlkC m E S ad da dc b a c L body X.a X.l X.cp):
  FnH Tryz.prog 221 [.v (.agg ⟨au ad da dc S la lc⟩),.v (.agg ⟨X.cs⟩)] ⟨[],[]⟩ m (jf m (bT E S false body)):=by
 have d10:decide (X.k=10)=true:=aP hk;have hB:=hB la lc m (.inl rfl) hT;revert hB;generalize bT E S false body=B
 unfold au;intro hB;refine enter (cK S E) (bI S E) Tryz.func221 rfl rfl (by kernel_rfl) rfl ?_ ?_
 ·clear hB;simp only[go_sem,Sd.cs]
 ·simp only[go_sem,Sd.cs,d10];refine ak ((aC hB fun V=>rfl).mono ?_);clear hB;rintro r H' m1 aQ ⟨l1,rfl,rfl⟩;simp only[go_sem];exact⟨l1,rfl,rfl⟩
theorem T8 (hE:dr E) (hS:dO S.loc) (X:Sd) (ex:Ex) (body alt:List St) (m:Mem) (hT:Tp m S E ad da dc la lc b a c L) (hk:X.k≠10) (hex:aW m ex X.ex.cs) (hv:cY ex=true) (hB:BlkC m E S ad da dc b a c L body X.a X.l X.cp) (hA:BlkC m E S ad da dc b a c L alt X.b X.l2 X.cp2):
  FnH Tryz.prog 221 [.v (.agg ⟨au ad da dc S la lc⟩),.v (.agg ⟨X.cs⟩)] ⟨[],[]⟩ m
   (jf m (if(bJ E S ex).2=0 then
    (if(if X.k=9 then eM (bJ E S ex).1 else Ty.eq (bJ E S ex).1 b8)=true then(if bT E S false body=0 then bT E S false alt else bT E S false body) else 73)
   else(bJ E S ex).2)):=by
 have d10:decide (X.k=10)=false:=ab hk;have hX:=sX hE hS ex X.ex.cs m hT hex hv;have hC:=fun m' (hle:ah m m')=>Oa X body alt m' (hT.up hle) (hB.up hle) (hA.up hle)
 generalize hRR:(if(bJ E S ex).2=0 then
    (if(if X.k=9 then eM (bJ E S ex).1 else Ty.eq (bJ E S ex).1 b8)=true then(if bT E S false body=0 then bT E S false alt else bT E S false body) else 73)
   else(bJ E S ex).2)=R
 revert hX hC hRR;generalize (if bT E S false body=0 then bT E S false alt else bT E S false body)=v
 generalize bJ E S ex=x
 clear hB hA;unfold au;intro hX hC hR;refine enter (cK S E) (bI S E) Tryz.func221 rfl rfl (by kernel_rfl) rfl ?_ ?_
 ·clear hX hC;simp only[go_sem,Sd.cs,Nd.cs]
 ·simp only[go_sem,Sd.cs,Nd.cs,d10];refine ak ((aC hX fun V=>rfl).mono ?_);clear hX;rintro r H' m1 aQ ⟨l1,rfl,rfl⟩;have bE:=eq_true l1;simp only[go_sem,bE,and_self];refine vf (bI S E) (by kernel_rfl) (by kernel_rfl) (by kernel_rfl) ?_;have hC:=hC m1 l1;by_cases k9:X.k=9
  ·have d9:decide (X.k=9)=true:=aP k9;rw[ai k9] at hR;simp only[go_sem,aD,dC,b8,d9,bE,and_self];refine⟨fun h=>⟨fun _=> ?_,fun q=>absurd q (by decide)⟩,fun h=>⟨fun hn=> ?_,fun h0=>ak ((aC hC fun V=>rfl).mono ?_)⟩⟩
   ·clear hC;rw[ai h.1,aa (by rw[show eM x.1=false from h.2];decide)] at hR;exact⟨l1,rfl,by rw[<- hR]⟩
   ·clear hC;rw[aa hn] at hR;exact⟨l1,rfl,by rw[<- hR]⟩
   ·clear hC;rw[ai h0,ai (show eM x.1=true from h.resolve_left fun q=>q h0)] at hR;rintro r H' m2 aJ ⟨l2,rfl,rfl⟩;have cg:=eq_true (ae l1 l2);simp only[go_sem,cg,bE,and_self];exact⟨ae l1 l2,rfl,by rw[<- hR]⟩
  ·have d9:decide (X.k=9)=false:=ab k9;rw[aa k9] at hR;simp only[go_sem,aD,dC,b8,d9,bE,and_self];refine⟨fun h=>⟨fun _=> ?_,fun q=>absurd q (by decide)⟩,fun h=>⟨fun hn=> ?_,fun h0=>ak ((aC hC fun V=>rfl).mono ?_)⟩⟩
   ·clear hC;rw[ai h.1,aa (by rw[xN (vy h.2)];decide)] at hR;exact⟨l1,rfl,by rw[<- hR]⟩
   ·clear hC;rw[aa hn] at hR;exact⟨l1,rfl,by rw[<- hR]⟩
   ·clear hC;rw[ai h0,ai ((rS _ _).2 (h.resolve_left fun q=>q h0))] at hR;rintro r H' m2 aJ ⟨l2,rfl,rfl⟩;have cg:=eq_true (ae l1 l2);simp only[go_sem,cg,bE,and_self];exact⟨ae l1 l2,rfl,by rw[<- hR]⟩
end
section
variable {S:Sc} {E:List Cd} {ad:Addr} {da:Option Addr} {dc:Nat} {la:Option Addr} {lc:Nat} {b:Nat} {a:Option Addr} {c:Nat} {L:List Cc}
theorem X9 (hE:dr E) (hS:dO S.loc) (X:Sd) (m:Mem) (hT:Tp m S E ad da dc la lc b a c L) (hk:X.k=2) (tg ex:Ex) (cP:aW m tg X.tg.cs) (hex:aW m ex X.ex.cs) (v1:cY tg=true) (v2:cY ex=true):
  FnH Tryz.prog 120 [.v (.agg ⟨au ad da dc S la lc⟩),.v (.agg ⟨X.cs⟩)] ⟨[],[]⟩ m (jf m (if(bJ E S tg).2=0 then ib E S ex (bJ E S tg).1 else(bJ E S tg).2)):=by
 have d2:decide (X.k=2)=true:=aP hk;have hX:=sX hE hS tg X.tg.cs m hT cP v1;have hV:=fun m' (hle:ah m m')=>C2 hE hS ex X.ex (bJ E S tg).1 m' (hT.up hle) (bV hle hex) v2
 revert hX hV;generalize ib E S ex (bJ E S tg).1=v
 generalize bJ E S tg=x
 unfold au;intro hX hV;refine enter (cK S E) (bI S E) Tryz.func120 rfl rfl (by kernel_rfl) rfl ?_ ?_
 ·clear hX hV;simp only[go_sem,Sd.cs,Nd.cs]
 ·simp only[go_sem,Sd.cs,Nd.cs,d2];refine ak ((aC hX fun V=>rfl).mono ?_);clear hX;rintro r H' m1 aQ ⟨l1,rfl,rfl⟩;by_cases hz:x.2=0
  ·have hV:=hV m1 l1;simp only[go_sem,hz];refine ak ((aC hV fun V=>rfl).mono ?_);clear hV;rintro r H' m2 aJ ⟨l2,rfl,rfl⟩;simp only[go_sem];exact⟨ae l1 l2,rfl,by first |rfl |rw[ai hz]⟩
  ·clear hV;simp only[go_sem,hz];exact⟨l1,rfl,by first |rfl |rw[aa hz]⟩
theorem X8 (hE:dr E) (hS:dO S.loc) (X:Sd) (m:Mem) (hT:Tp m S E ad da dc la lc b a c L) (hk:X.k=3) (ex:Ex) (hex:aW m ex X.ex.cs) (v2:cY ex=true):
  FnH Tryz.prog 120 [.v (.agg ⟨au ad da dc S la lc⟩),.v (.agg ⟨X.cs⟩)] ⟨[],[]⟩ m (jf m ((bJ E S ex).2)):=by
 have d2:decide (X.k=2)=false:=ab (by omega);have d3:decide (X.k=3)=true:=aP hk;have hX:=sX hE hS ex X.ex.cs m hT hex v2;revert hX;generalize bJ E S ex=x
 unfold au;intro hX;refine enter (cK S E) (bI S E) Tryz.func120 rfl rfl (by kernel_rfl) rfl ?_ ?_
 ·clear hX;simp only[go_sem,Sd.cs,Nd.cs]
 ·simp only[go_sem,Sd.cs,Nd.cs,d2,d3];refine ak ((aC hX fun V=>rfl).mono ?_);clear hX;rintro r H' m1 aQ ⟨l1,rfl,rfl⟩;simp only[go_sem];exact⟨l1,rfl,rfl⟩
theorem X6 (hE:dr E) (hS:dO S.loc) (X:Sd) (m:Mem) (hT:Tp m S E ad da dc la lc b a c L) (hk:X.k=7) (ex:Ex) (hex:aW m ex X.ex.cs) (v2:cY ex=true):
  FnH Tryz.prog 120 [.v (.agg ⟨au ad da dc S la lc⟩),.v (.agg ⟨X.cs⟩)] ⟨[],[]⟩ m (jf m (ib E S ex (eY iU))):=by
 have d2:decide (X.k=2)=false:=ab (by omega);have d3:decide (X.k=3)=false:=ab (by omega);have d7:decide (X.k=7)=true:=aP hk;have hV:=fun m' (hle:ah m m')=>C2 hE hS ex X.ex (eY iU) m' (hT.up hle) (bV hle hex) v2
 revert hV;generalize ib E S ex (eY iU)=v
 unfold au;intro hV;refine enter (cK S E) (bI S E) Tryz.func120 rfl rfl (by kernel_rfl) rfl ?_ ?_
 ·clear hV;simp only[go_sem,Sd.cs,Nd.cs]
 ·simp only[go_sem,Sd.cs,Nd.cs,d2,d3,d7];refine bX (.hoist 0 (.hoist 1 (.hoist 2 (.alt 3 [2,1,0] (.alt 4 [] (.hoist 5 .done) .stop) .stop)))) (bI S E) (by kernel_rfl) (by kernel_rfl) ?_;simp only[go_sem];have hV:=hV m (.inl rfl);refine ak ((aC hV fun V=>rfl).mono ?_);clear hV;rintro r H' m1 aQ ⟨l1,rfl,rfl⟩;have bE:=eq_true l1;simp only[go_sem,bE,and_self];exact⟨l1,rfl,rfl⟩
theorem X7 (hE:dr E) (hS:dO S.loc) (X:Sd) (m:Mem) (hT:Tp m S E ad da dc la lc b a c L) (hk:X.k=6) (ex:Ex) (hex:aW m ex X.ex.cs) (v2:ex.kd=0\/cY ex=true):
  FnH Tryz.prog 120 [.v (.agg ⟨au ad da dc S la lc⟩),.v (.agg ⟨X.cs⟩)] ⟨[],[]⟩ m (jf m (tE E S ex)):=by
 have d2:decide (X.k=2)=false:=ab (by omega);have d3:decide (X.k=3)=false:=ab (by omega);have d7:decide (X.k=7)=false:=ab (by omega);have d6:decide (X.k=6)=true:=aP hk;have hX:=fun h=>sX hE hS ex X.ex.cs m hT hex h
 have wH:X.ex.k=ex.kd:=by
  cases ex with
  |mk k n s c ty args=>
   obtain⟨y,h1,h2,_⟩:=rh hex;rw[A0 h1,h2];rfl
 have aR:=fun m' (hle:ah m m')=>(hT.up hle).ck.chk
 have hR:tE E S ex=if ex.kd=0 then(if S.res.base=86 then 0 else 73) else if(bJ E S ex).2=0/\(S.res.base=86\/ew E (bJ E S ex).1 S.res=false) then 73 else(bJ E S ex).2:=rfl
 rw[<- wH] at hR v2;revert hX hR;generalize tE E S ex=R
 generalize bJ E S ex=x
 unfold au;intro hX hR;refine enter (cK S E) (bI S E) Tryz.func120 rfl rfl (by kernel_rfl) rfl ?_ ?_
 ·clear hX;simp only[go_sem,Sd.cs,Nd.cs]
 ·simp only[go_sem,Sd.cs,Nd.cs,d2,d3,d7,d6];by_cases hn:X.ex.k=0
  ·clear hX;rw[ai hn] at hR;have fv:decide (X.ex.k=0)=true:=aP hn;simp only[go_sem,hn];refine⟨fun h=> ?_,fun h=> ?_⟩
   ·rw[aa h] at hR;subst hR;exact⟨.inl rfl,rfl,rfl⟩
   ·rw[ai h] at hR;subst hR;exact⟨.inl rfl,rfl,rfl⟩
  ·have hX:=hX (v2.resolve_left hn);rw[aa hn] at hR;simp only[go_sem,hn];refine ak ((aC hX fun V=>rfl).mono ?_);clear hX;rintro r H' m1 aQ ⟨l1,rfl,rfl⟩;have aR:=aR m1 l1;have bE:=eq_true l1;simp only[go_sem,aR,bE,and_self];refine⟨fun h=> ?_,fun h=> ?_⟩
   ·rw[ai (show _/\(_\/ew E x.1 S.res=false) from h)] at hR;subst hR;exact⟨l1,rfl,rfl⟩
   ·rw[aa] at hR
    ·subst hR;exact⟨l1,rfl,rfl⟩
    ·rintro⟨q1,q2⟩;rcases h with h |⟨h1,h2⟩
     ·exact h q1
     ·rcases q2 with q2 |q2
      ·exact h1 q2
      ·rw[show ew E x.1 S.res=true from h2] at q2;cases q2
theorem X5 (hE:dr E) (hS:dO S.loc) (X:Sd) (m:Mem) (hT:Tp m S E ad da dc la lc b a c L) (hk:X.k=8) (v:Int) (hG:FnH Tryz.prog 220 [.v (.agg ⟨au ad da dc S la lc⟩),.v (.agg ⟨X.cs⟩)] ⟨[],[]⟩ m (jf m v)):
  FnH Tryz.prog 120 [.v (.agg ⟨au ad da dc S la lc⟩),.v (.agg ⟨X.cs⟩)] ⟨[],[]⟩ m (jf m (v)):=by
 have d2:decide (X.k=2)=false:=ab (by omega);have d3:decide (X.k=3)=false:=ab (by omega);have d7:decide (X.k=7)=false:=ab (by omega);have d6:decide (X.k=6)=false:=ab (by omega);have d8:decide (X.k=8)=true:=aP hk;revert hG;unfold au;intro hG;refine enter (cK S E) (bI S E) Tryz.func120 rfl rfl (by kernel_rfl) rfl ?_ ?_
 ·clear hG;simp only[go_sem,Sd.cs,Nd.cs]
 ·simp only[go_sem,Sd.cs,Nd.cs,d2,d3,d7,d6,d8];refine ak ((aC hG fun V=>rfl).mono ?_);clear hG;rintro r H' m1 aQ ⟨l1,rfl,rfl⟩;simp only[go_sem];exact⟨l1,rfl,rfl⟩
theorem WD (hE:dr E) (hS:dO S.loc) (X:Sd) (m:Mem) (hT:Tp m S E ad da dc la lc b a c L) (hk:X.k=11) (v:Int) (hG:FnH Tryz.prog 166 [.v (.agg ⟨au ad da dc S la lc⟩),.v (.slice X.ex.a X.ex.l X.ex.cp)] ⟨[],[]⟩ m (jf m v)):
  FnH Tryz.prog 120 [.v (.agg ⟨au ad da dc S la lc⟩),.v (.agg ⟨X.cs⟩)] ⟨[],[]⟩ m (jf m (v)):=by
 have d2:decide (X.k=2)=false:=ab (by omega);have d3:decide (X.k=3)=false:=ab (by omega);have d7:decide (X.k=7)=false:=ab (by omega);have d6:decide (X.k=6)=false:=ab (by omega);have d8:decide (X.k=8)=false:=ab (by omega);have d11:decide (X.k=11)=true:=aP hk;revert hG;unfold au;intro hG;refine enter (cK S E) (bI S E) Tryz.func120 rfl rfl (by kernel_rfl) rfl ?_ ?_
 ·clear hG;simp only[go_sem,Sd.cs,Nd.cs]
 ·simp only[go_sem,Sd.cs,Nd.cs,d2,d3,d7,d6,d8,d11];refine ak ((aC hG fun V=>rfl).mono ?_);clear hG;rintro r H' m1 aQ ⟨l1,rfl,rfl⟩;simp only[go_sem];exact⟨l1,rfl,rfl⟩
theorem K5 (hE:dr E) (hS:dO S.loc) (X:Sd) (m:Mem) (hT:Tp m S E ad da dc la lc b a c L) (hk:X.k≠2/\X.k≠3/\X.k≠7/\X.k≠6/\X.k≠8/\X.k≠11) (v:Int) (hG:FnH Tryz.prog 221 [.v (.agg ⟨au ad da dc S la lc⟩),.v (.agg ⟨X.cs⟩)] ⟨[],[]⟩ m (jf m v)):
  FnH Tryz.prog 120 [.v (.agg ⟨au ad da dc S la lc⟩),.v (.agg ⟨X.cs⟩)] ⟨[],[]⟩ m (jf m (v)):=by
 have d2:decide (X.k=2)=false:=ab (by omega);have d3:decide (X.k=3)=false:=ab (by omega);have d7:decide (X.k=7)=false:=ab (by omega);have d6:decide (X.k=6)=false:=ab (by omega);have d8:decide (X.k=8)=false:=ab (by omega);have d11:decide (X.k=11)=false:=ab (by omega);revert hG;unfold au;intro hG;refine enter (cK S E) (bI S E) Tryz.func120 rfl rfl (by kernel_rfl) rfl ?_ ?_
 ·clear hG;simp only[go_sem,Sd.cs,Nd.cs]
 ·simp only[go_sem,Sd.cs,Nd.cs,d2,d3,d7,d6,d8,d11];refine ak ((aC hG fun V=>rfl).mono ?_);clear hG;rintro r H' m1 aQ ⟨l1,rfl,rfl⟩;simp only[go_sem];exact⟨l1,rfl,rfl⟩
end
def LI (ad:Addr) (da:Option Addr) (dc:Nat) (S:Sc) (la:Option Addr) (lc:Nat):SV:=
 .agg [.v (.pointer (some ad)),.v (.slice da S.pr.length dc),.v (.int .i64 S.ci),.v (.bool S.st),.v (.bool S.su),.v (.int .i64 S.res.dim),.v (.int .u8 S.res.base),.v (.string (bs S.res.name)),.v (.slice la S.loc.length lc)]
attribute [go_sem] LI.eq_1
def yU (m:Mem) (E:List Cd) (ad:Addr) (da:Option Addr) (dc:Nat) (b:Nat) (a:Option Addr) (c:Nat) (L:List Cc) (x:Sc×Int) (r:SV) (H' :Hp) (m' :Mem):Prop:=
 ah m m' /\H' =⟨[],[]⟩/\∃la lc,Tp m' x.1 E ad da dc la lc b a c L/\r= .tup [LI ad da dc x.1 la lc,.v (.int .i64 x.2)]
section
variable {S:Sc} {E:List Cd} {ad:Addr} {da:Option Addr} {dc:Nat} {la:Option Addr} {lc:Nat} {b:Nat} {a:Option Addr} {c:Nat} {L:List Cc}
theorem Xj (X:Sd) (m:Mem) (hT:Tp m S E ad da dc la lc b a c L) (hk:X.k≠1) (v:Int) (hC:FnH Tryz.prog 120 [.v (.agg ⟨au ad da dc S la lc⟩),.v (.agg ⟨X.cs⟩)] ⟨[],[]⟩ m (jf m v)):
  FnH Tryz.prog 57 [.v (.agg ⟨au ad da dc S la lc⟩),.v (.agg ⟨X.cs⟩)] ⟨[],[]⟩ m (yU m E ad da dc b a c L (S,v)):=by
 have d1:decide (X.k=1)=false:=ab hk;revert hC;unfold au;intro hC;refine enter bj aq Tryz.func57 rfl rfl (by kernel_rfl) rfl ?_ ?_
 ·clear hC;simp only[go_sem,Sd.cs,Nd.cs]
 ·simp only[go_sem,Sd.cs,Nd.cs,d1];refine bX (.hoist 0 (.hoist 1 (.hoist 2 (.alt 3 [0] (.alt 4 [] (.hoist 5 .done) .stop) .stop)))) aq (by kernel_rfl) (by kernel_rfl) ?_;simp only[go_sem];refine ak ((aC hC fun V=>rfl).mono ?_);clear hC;rintro r H' m1 aQ ⟨l1,rfl,rfl⟩;have bE:=eq_true l1;simp only[go_sem,bE,and_self];exact⟨l1,rfl,la,lc,hT.up l1,rfl⟩
theorem Xk (hE:dr E) (hS:dO S.loc) (X:Sd) (ex:Ex) (m:Mem) (hT:Tp m S E ad da dc la lc b a c L) (hk:X.k=1) (hl:S.loc.length<2000000000) (hex:aW m ex X.ex.cs) (hv:cY ex=true):
  FnH Tryz.prog 57 [.v (.agg ⟨au ad da dc S la lc⟩),.v (.agg ⟨X.cs⟩)] ⟨[],[]⟩ m
   (yU m E ad da dc b a c L (if fR E S X.ty X.name=0 then(if ib E S ex X.ty=0 then(gG S X.ty X.name,0) else(S,ib E S ex X.ty)) else(S,fR E S X.ty X.name))):=by
 have d1:decide (X.k=1)=true:=aP hk;have hV:=Jh X m hT;have hX:=fun m' (hle:ah m m')=>C2 hE hS ex X.ex X.ty m' (hT.up hle) (bV hle hex) hv
 have hW:=fun m' (hle:ah m m')=>HZ X.ty X.name m' (hT.up hle) hl
 generalize hRR:(if fR E S X.ty X.name=0 then(if ib E S ex X.ty=0 then(gG S X.ty X.name,(0:Int)) else(S,ib E S ex X.ty)) else(S,fR E S X.ty X.name))=R
 revert hV hX hRR;generalize fR E S X.ty X.name=v
 generalize ib E S ex X.ty=x
 unfold au at hW ⊢;intro hV hX hR;refine enter bj aq Tryz.func57 rfl rfl (by kernel_rfl) rfl ?_ ?_
 ·clear hV hX hW;simp only[go_sem,Sd.cs,Nd.cs]
 ·simp only[go_sem,Sd.cs,Nd.cs,d1];refine ak ((aC hV fun V=>rfl).mono ?_);clear hV;rintro r H' m1 aQ ⟨l1,rfl,rfl⟩;by_cases hz:v=0
  ·rw[ai hz] at hR;have hX:=hX m1 l1;simp only[go_sem,hz];refine ak ((aC hX fun V=>rfl).mono ?_);clear hX;rintro r H' m2 aJ ⟨l2,rfl,rfl⟩;have ji:=ae l1 l2;by_cases hw:x=0
   ·rw[ai hw] at hR;have hW:=hW m2 ji;simp only[go_sem,hw];refine ak ((aC hW fun V=>rfl).mono ?_);clear hW;rintro r H' m3 dx ⟨l3,rfl,wz,wy,rfl,hT'⟩;simp only[go_sem];subst hR;exact⟨ae ji l3,rfl,wz,wy,hT',rfl⟩
   ·clear hW;rw[aa hw] at hR;simp only[go_sem,hw];subst hR;exact⟨ji,rfl,la,lc,hT.up ji,rfl⟩
  ·clear hX hW;rw[aa hz] at hR;simp only[go_sem,hz];subst hR;exact⟨l1,rfl,la,lc,hT.up l1,rfl⟩
end
theorem Ld {a:Option Addr} {c h z:Nat}:gA a c 0 h z= .slice a h c:=by
 unfold gA;rw[Nat.zero_mul,Nat.sub_zero,Nat.sub_zero];split
 ·rfl
 ·cases a with
  |none=>rfl
  |some ad=>rw[Option.map_some];congr 2
theorem PS {m:Mem} {a:Option Addr} {n sz:Nat} {xs:List Value} (h:ax m a n sz xs) {i:Nat} (hi:i<=n):ax m a i sz (xs.take (i * sz)):=by
 have hm:i * sz<=n * sz:=Nat.mul_le_mul_right _ hi;refine⟨by rw[List.length_take,h.1];omega,fun h0=> ?_⟩;obtain⟨ad,h1,h2,h3⟩:=h.2 (by omega);exact⟨ad,h1,h2,fun j hj=>⟨by rw[List.getElem?_take,ai hj];exact(h3 j (by omega)).1,(h3 j (by omega)).2⟩⟩
theorem G8 {m:Mem}:∀{l:List St} {xs:List Value} {i:Nat},bG m l xs->bG m (l.take i) (xs.take (i * 23))
 |[],_,_,_=>by rw[List.take_nil,bG];trivial
 |_::_,_,0,_=>by rw[List.take_zero,bG];trivial
 |e::r,xs,i+1,h=>by
  rw[bG] at h;rw[List.take_succ_cons,bG];refine⟨?_,?_⟩
  ·rw[List.take_take,show min 23 ((i+1) * 23)=23 by omega];exact h.1
  ·rw[List.drop_take,show(i+1) * 23 - 23=i * 23 by omega];exact G8 h.2
theorem Ow {l:List St} {i:Nat} (hi:i<l.length):iQ (l.take (i+1))=vz l[i]:=by
 have h0:(l.take (i+1)).length=i+1:=by rw[List.length_take];omega
 rw[CM _ (by omega)];congr 1
 simp only[h0,Nat.add_sub_cancel];rw[List.getElem_take]
section
variable {S:Sc} {E:List Cd} {ad:Addr} {da:Option Addr} {dc:Nat} {la:Option Addr} {lc:Nat} {b:Nat} {a:Option Addr} {c:Nat} {L:List Cc}
theorem WE (B:Nat) (l:List St) (xs:List Value) (sa:Option Addr) (n sc:Nat) (m:Mem) (hr:ax m sa n 23 xs) (hn:n=l.length) (bN:n<=sc) (hb:n<=aw) (cF:bG m l xs)
  (hI:∀(i:Nat) (hi:i<l.length) (S:Sc) (la:Option Addr) (lc:Nat) (m' :Mem) (cs:List Value),ah m m' ->Tp m' S E ad da dc la lc b a c L->dO S.loc->S.loc.length<=B+i->eg m' l[i] cs->
   FnH Tryz.prog 57 [.v (.agg ⟨au ad da dc S la lc⟩),.v (.agg ⟨cs⟩)] ⟨[],[]⟩ m' (yU m' E ad da dc b a c L (gu E S l[i])))
  (hD:∀(i:Nat) (hi:i<l.length) (S:Sc),dO S.loc->dO (gu E S l[i]).1.loc/\(gu E S l[i]).1.loc.length<=S.loc.length+1)
  (hT:Tp m S E ad da dc la lc b a c L) (hS:dO S.loc) (hlen:S.loc.length<=B):
  FnH Tryz.prog 167 [.v (.agg ⟨au ad da dc S la lc⟩),.v (.slice sa n sc)] ⟨[],[]⟩ m (jf m (bT E S false l)):=by
 have hM:=fun(i:Nat) (hi:i<=n) (m' :Mem) (hle:ah m m')=>AA (b9 (l.take i)) (l.take i) (xs.take (i * 23)) sa i sc m' (aA _) (PS (aM hle hr) hi) (by rw[List.length_take];omega) (G8 (cG hle cF)) (by omega)
 have qT:bT E S (iQ (l.take 0)) (l.drop 0)=bT E S false l:=by rw[List.drop_zero,List.take_zero,iQ]
 revert qT;generalize bT E S false l=K
 intro qT;refine enter bj aq Tryz.func167 rfl rfl (by kernel_rfl) rfl ?_ ?_
 ·clear hI hM;simp only[go_sem,au]
 ·unfold au at hI;simp only[go_sem,au];refine ct aq (fun y:Nat×Sc×Option Addr×Nat×Mem=>⟨[⟨4,[],.v (.int .i64 0)⟩,⟨11,[],.v (.int .i64 y.1)⟩,⟨10,[],.v (.int .i64 n)⟩,⟨9,[],.v (.slice sa n sc)⟩,⟨1,[],.v (.slice sa n sc)⟩,⟨2,[],.box 0 0⟩],[],[⟨0,87,[.v (.pointer (some ad)),.v (.slice da y.2.1.pr.length dc),.v (.int .i64 y.2.1.ci),.v (.bool y.2.1.st),.v (.bool y.2.1.su),.v (.int .i64 y.2.1.res.dim),.v (.int .u8 y.2.1.res.base),.v (.string (bs y.2.1.res.name)),.v (.slice y.2.2.1 y.2.1.loc.length y.2.2.2.1)]⟩],[],1,y.2.2.2.2⟩)
   (fun y=>ah m y.2.2.2.2/\y.1<=n/\Tp y.2.2.2.2 y.2.1 E ad da dc y.2.2.1 y.2.2.2.1 b a c L/\dO y.2.1.loc/\y.2.1.loc.length<=B+y.1/\bT E y.2.1 (iQ (l.take y.1)) (l.drop y.1)=K) (fun y=>n - y.1) (0,S,la,lc,m) (by kernel_rfl) (fun _ _=>aU rfl) (fun y hy=>hy.1) (fun _=> ?_) ?_ ⟨.inl rfl,aF _,hT,hS,hlen,qT⟩ ?_
  ·clear hI hM;simp only[go_sem]
  ·clear hI hM;simp only[go_sem];exact rfl
  ·rintro⟨i,S1,Ff,Fe,mm⟩ ⟨q1,q2,q3,q4,q5,q6⟩;dsimp only at q1 q2 q3 q4 q5 q6;by_cases an:i<l.length
   ·have hc:((i:Int)<(n:Int))=True:=eq_true (by omega);rw[List.drop_eq_getElem_cons an,bT] at q6;have hD:=hD i an S1 q4;have hM:=hM i q2 mm q1;refine Exists.elim (DQ (aM q1 hr) hn (cG q1 cF) an) fun X hX=> ?_
    have hI:=fun m' (hle:ah mm m')=>hI i an S1 Ff Fe m' X.cs (ae q1 hle) (q3.up hle) q4 q5 (xb hle hX.2.2)
    have aL:bO sa n (i:Int)=True:=eq_true ⟨by omega,by omega,hX.2.1⟩;have av:= @cz _ _ _ 23 hX.1 rfl;have eH:((i:Int)<=(sc:Int))=True:=eq_true (by omega);have Ft:=Ow an;simp only[Sd.cs,Nd.cs] at av hI;revert hI hM hD q6;rw[<- Ft];generalize gu E S1 l[i]=x
    generalize iQ (l.take i)=t
    intro q6 hD hM hI;simp only[go_sem,hc,aL,av,eH,Ld];refine⟨⟨Int.le_refl _,Int.natCast_nonneg _⟩,by kernel_rfl,bF (hM.mono ?_)⟩;clear hM;rintro r H' m1 aQ ⟨rfl,rfl⟩;cases t with
    |true=>
     rw[ai rfl] at q6;clear hI;simp only[go_sem];exact⟨ae q1 (.inr aQ),rfl,by rw[q6]⟩
    |false=>
     rw[aa (by decide)] at q6;have hI:=hI m1 (.inr aQ);simp only[go_sem,av];refine ak ((aC hI fun V=>rfl).mono ?_);clear hI;rintro r H' m2 aJ ⟨l2,rfl,la2,lc2,qR,rfl⟩;have ji:=ae q1 (ae (.inr aQ) l2);by_cases hz:x.2=0
     ·rw[ai hz] at q6;simp only[go_sem,hz];refine⟨by unfold aB;unfold aw at hb;omega,(i+1,x.1,la2,lc2,m2),?_,⟨ji,by omega,qR,hD.1,by have:=hD.2;dsimp only;omega,q6⟩,by omega⟩;exact⟨rfl,⟨rfl,rfl,rfl,rfl,rfl,rfl,rfl,rfl⟩,.inl rfl⟩
     ·rw[aa hz] at q6;simp only[go_sem,hz];exact⟨ji,rfl,by rw[q6]⟩
   ·have hc:((i:Int)<(n:Int))=False:=eq_false (by omega);rw[List.drop_of_length_le (by omega),bT] at q6;clear hI hM;simp only[go_sem,hc];exact⟨q1,rfl,by rw[q6]⟩
end
theorem KO {k:Int} {nm:List UInt8} {ty:Ty} {tg ex:Ex} {body alt:List St} (h:fj (.mk k nm ty tg ex body alt)=true):
  jQ k nm ty tg ex (decide (body.length<=32)&&ez false body&&(decide (alt.length<=32)&&ez false alt))=true:=by
 rw[fj,bw] at h;exact h.1
theorem w9 {t:Ty} (h:iK t.dim t.base t.name=true):dH t:=by
 unfold iK pN at h;simp only[bw] at h;have h4:=h.1.1;split at h4
 ·cases h4
 ·constructor<;>omega
theorem Sk {E:List Cd} {s:St} (hv:fj s=true) {S:Sc} (hS:dO S.loc):dO (gu E S s).1.loc/\(gu E S s).1.loc.length<=S.loc.length+1:=by
 cases s with
 |mk k nm ty tg ex body alt=>
  have hk:=KO hv;rw[gu];by_cases k1:k=1
  ·rw[ai k1];unfold jQ at hk;rw[ai k1] at hk;simp only[bw] at hk;have hd:=w9 hk.1.2;split
   ·split
    ·refine⟨fun p hp=> ?_,?_⟩
     ·have hp:p∈S.loc++[⟨ty,nm⟩]:=hp;rcases List.mem_append.1 hp with hp |hp
      ·exact hS p hp
      ·rw[List.mem_singleton.1 hp];exact hd
     ·show(S.loc++[_]).length<=_;rw[aZ];exact aA _
    ·exact⟨hS,Nat.le_succ _⟩
   ·exact⟨hS,Nat.le_succ _⟩
  ·rw[aa k1];exact⟨hS,Nat.le_succ _⟩
theorem Pu {S:Sc} (hS:dO S.loc) {ty:Ty} (hd:dH ty) (nm:Nm):dO (gG S ty nm).loc:=fun p hp=>by
 have hp:p∈S.loc++[⟨ty,nm⟩]:=hp;rcases List.mem_append.1 hp with hp |hp
 ·exact hS p hp
 ·rw[List.mem_singleton.1 hp];exact hd
theorem Cu:∀{l:List St} {b:Bool},ez b l=true->∀s∈l,fj s=true
 |[],_,_,s,hs=>by cases hs
 |x::r,b,h,s,hs=>by
  rw[ez,bw,bw] at h;rcases List.mem_cons.1 hs with rfl |hs
  ·exact h.1.2
  ·exact Cu h.2 s hs
section
variable {E:List Cd} {ad:Addr} {da:Option Addr} {dc:Nat} {b:Nat} {a:Option Addr} {c:Nat} {L:List Cc}
theorem xM (hE:dr E) (h:Nat) (B:Nat) (hI:∀(s:St) (S:Sc) (la:Option Addr) (lc:Nat) (m:Mem) (cs:List Value),fN s<=h->Tp m S E ad da dc la lc b a c L->dO S.loc->S.loc.length+33 * h<=B->eg m s cs->fj s=true->
   FnH Tryz.prog 57 [.v (.agg ⟨au ad da dc S la lc⟩),.v (.agg ⟨cs⟩)] ⟨[],[]⟩ m (yU m E ad da dc b a c L (gu E S s)))
  (l:List St) (xs:List Value) (sa:Option Addr) (n sc:Nat) (m:Mem) (hr:ax m sa n 23 xs) (hn:n=l.length) (bN:n<=sc) (hb:n<=32) (cF:bG m l xs) (hd:b9 l<=h) {sup:Bool} (hv:ez sup l=true) (S:Sc) (hS:dO S.loc) (hlen:S.loc.length+33 * h+32<=B):
  BlkC m E S ad da dc b a c L l sa n sc:=fun la lc m' hle hT=>by
 refine WE S.loc.length l xs sa n sc m' (aM hle hr) hn bN (by unfold aw;omega) (cG hle cF) (fun i hi S1 Ff Fe m1 cs l1 j7 jj bE bU=> ?_) (fun i hi S1 jj=>Sk (Cu hv _ (List.getElem_mem hi)) jj) hT hS (aA _);exact hI l[i] S1 Ff Fe m1 cs (dk (qY (List.getElem_mem hi)) hd) j7 jj (by omega) bU (Cu hv _ (List.getElem_mem hi))
theorem xQ (hE:dr E):∀(h:Nat) (s:St) (S:Sc) (la:Option Addr) (lc:Nat) (m:Mem) (cs:List Value),fN s<=h->Tp m S E ad da dc la lc b a c L->dO S.loc->S.loc.length+33 * h<=1999999990->eg m s cs->fj s=true->
   FnH Tryz.prog 57 [.v (.agg ⟨au ad da dc S la lc⟩),.v (.agg ⟨cs⟩)] ⟨[],[]⟩ m (yU m E ad da dc b a c L (gu E S s))
 |0,.mk k nm ty tg ex body alt,_,_,_,_,_,hd,_,_,_,_,_=>by simp [fN] at hd
 |h+1,.mk k nm ty tg ex body alt,S,la,lc,m,cs,hd,hT,hS,hl,bU,hv=>by
  have hk:=KO hv;obtain⟨X,rfl,rfl,rfl,rfl,p1,p2,p3,p4,p5,p6,p7,ys,zs,p8,p9,j0,jz⟩:=u7 bU;simp only[fN] at hd;have hB:body.length<=32->ez false body=true->BlkC m E S ad da dc b a c L body X.a X.l X.cp:=fun q1 q2=>
   xM hE h 1999999990 (xQ hE h) body ys X.a X.l X.cp m p8 p3 p4 (by omega) j0 (by omega) q2 S hS (by omega)
  have hA:alt.length<=32->ez false alt=true->BlkC m E S ad da dc b a c L alt X.b X.l2 X.cp2:=fun q1 q2=>
   xM hE h 1999999990 (xQ hE h) alt zs X.b X.l2 X.cp2 m p9 p5 p6 (by omega) jz (by omega) q2 S hS (by omega)
  have hW:dH X.ty->alt.length<=32->ez false alt=true->BlkC m E (gG S X.ty X.name) ad da dc b a c L alt X.b X.l2 X.cp2:=fun q0 q1 q2=>
   xM hE h 1999999990 (xQ hE h) alt zs X.b X.l2 X.cp2 m p9 p5 p6 (by omega) jz (by omega) q2 _ (Pu hS q0 X.name) (by rw[Dj];omega)
  have eH:S.loc.length<2000000000:=by omega
  rw[gu];unfold jQ at hk;by_cases k1:X.k=1
  ·rw[ai k1] at hk ⊢;simp only[bw] at hk;exact Xk hE hS X ex m hT k1 eH p2 hk.2
  rw[aa k1] at hk ⊢;refine Xj X m hT k1 _ ?_;by_cases k2:X.k=2
  ·rw[ai k2] at hk ⊢;simp only[bw] at hk;have ht:=hk.1;unfold pO at ht;rw[bw] at ht;exact X9 hE hS X m hT k2 tg ex p1 p2 ht.2 hk.2
  rw[aa k2] at hk ⊢;by_cases k3:X.k=3
  ·rw[ai k3] at hk ⊢;unfold qg at hk;rw[bw] at hk;exact X8 hE hS X m hT k3 ex p2 hk.2
  rw[aa k3] at hk ⊢;by_cases k4:X.k=4\/X.k=5\/X.k=9
  ·rw[ai k4] at hk;simp only[bw,cS] at hk;obtain⟨⟨⟨b1,b2⟩,b3,b4⟩,b5⟩:=hk;rw[aa (by omega),aa (by omega),aa (by omega),aa (by omega),aa (by omega)];exact K5 hE hS X m hT (by omega) _ (T8 hE hS X ex body alt m hT (by omega) p2 b5 (hB b1 b2) (hA b3 b4))
  rw[aa k4] at hk;by_cases k6:X.k=6
  ·rw[ai k6] at hk;rw[aa (by omega),ai k6];refine X7 hE hS X m hT k6 ex p2 ?_;rw[Bool.or_eq_true] at hk;rcases hk with hk |hk
   ·left;cases ex with
    |mk k n s c ty args=>
     unfold A4 ya at hk;simp only[bw,cS] at hk;exact hk.1.1.1.1.2
   ·exact .inr hk
  rw[aa k6] at hk;by_cases k7:X.k=7
  ·rw[ai k7] at hk;rw[ai k7];exact X6 hE hS X m hT k7 ex p2 hk
  rw[aa k7] at hk;rw[aa k7,aa k6];by_cases k8:X.k=8
  ·rw[ai k8] at hk ⊢;simp only[bw,cS] at hk;obtain⟨⟨⟨⟨b1,b2⟩,b3,b4⟩,b5⟩,b6⟩:=hk;exact X5 hE hS X m hT k8 _ (Nj X body alt m hT eH (hB b1 b2) (hW (w9 b6) b3 b4))
  rw[aa k8] at hk ⊢;by_cases k10:X.k=10
  ·rw[ai k10] at hk;simp only[bw,cS] at hk;obtain⟨⟨b1,b2⟩,b3,b4⟩:=hk;rw[aa (by omega),ai k10];exact K5 hE hS X m hT (by omega) _ (PB X body m hT k10 (hB b1 b2))
  rw[aa k10] at hk;by_cases k11:X.k=11
  ·rw[ai k11] at hk ⊢;cases ex with
   |mk k n s c ty args=>
    unfold xO at hk;simp only[bw,cS] at hk;obtain⟨y,e1,e2,e3,e4,e5,e6,e7,e8,e9,xs,bZ,cj⟩:=rh p2;have ey:=A0 e1;subst ey;exact WD hE hS X m hT k11 _ (DO hE hS args xs X.ex.a X.ex.l X.ex.cp m hT bZ e7 e9 cj hk.2)
  ·rw[aa k11] at hk;cases hk
end
theorem Qn (fl:Int) (m:Mem):FnH Tryz.prog 163 [.v (.int .i64 fl)] ⟨[],[]⟩ m fun r H' _=>r= .v (.int .i64 (rI fl))/\H' =⟨[],[]⟩:=by
 have hR:rI fl=if hasB fl 1=true then 3 else if hasB fl 4=true then 2 else if hasB fl 2=true then 0 else 1:=rfl
 have q:=fun k=>show hasB fl k= !decide (bits .and .i64 fl k=0) from rfl
 revert hR;generalize rI fl=R
 intro hR;refine br aq Tryz.func163 ?_
 ·simp only[go_sem];refine⟨fun h=> ?_,fun h1=>⟨fun h=> ?_,fun h2=>⟨fun h=> ?_,fun h=> ?_⟩⟩⟩
  ·rw[hR,q 1,ab h];rfl
  ·rw[hR,q 1,q 4,aP h1,ab h];rfl
  ·rw[hR,q 1,q 4,q 2,aP h1,aP h2,ab h];rfl
  ·rw[hR,q 1,q 4,q 2,aP h1,aP h2,aP h];rfl
theorem Dw {m:Mem} {a:Option Addr} {n:Nat} {l:List Pc} (h:ax m a n 4 (flat Pc.cs l)) (hn:n=l.length) {i:Nat} (hi:i<l.length):Rd m (bc a (i * 4)) l[i].cs/\a≠none:=by
 have hc:=dK h (by omega:i<n);rwa [my (f:=Pc.cs) (sz:=4) (fun _=>rfl) hi] at hc
theorem Jd {α:Type} {e:α->α->Bool}:∀{l l2:List α},l.length≠l2.length->fu e l l2=false
 |[],[],h=>absurd rfl h
 |[],_::_,_=>rfl
 |_::_,[],_=>rfl
 |a::r,b::t,h=>by rw[fu,Jd (fun q=>h (by simp [q])),Bool.and_false]
theorem OD (p q:Pc) (m:Mem):FnH Tryz.prog 242 [.v (.agg ⟨p.cs⟩),.v (.agg ⟨q.cs⟩)] ⟨[],[]⟩ m fun r H' _=>r= .v (.bool (Ty.eq p.ty q.ty))/\H' =⟨[],[]⟩:=by
 refine enter bj aq Tryz.func242 rfl rfl (by kernel_rfl) rfl ?_ ?_
 ·simp only[go_sem,Pc.cs]
 ·simp only[go_sem,Pc.cs,dC];rfl
theorem TX (l1 l2:List Pc) (a1 a2:Option Addr) (n1 n2 c1 c2:Nat) (m:Mem) (h1:ax m a1 n1 4 (flat Pc.cs l1)) (fv:n1=l1.length) (h2:ax m a2 n2 4 (flat Pc.cs l2)) (B8:n2=l2.length) (hb:n1<=aw):
  FnH Tryz.prog 241 [.v (.slice a1 n1 c1),.v (.slice a2 n2 c2),.v (.func (.func 242) ⟨[]⟩ ⟨[]⟩)] ⟨[],[]⟩ m
   fun r H' _=>r= .v (.bool (fu (fun(x y:Pc)=>Ty.eq x.ty y.ty) l1 l2))/\H' =⟨[],[]⟩:=by
 generalize hK:fu (fun(x y:Pc)=>Ty.eq x.ty y.ty) l1 l2=K
 refine br aq Tryz.func241 ?_
 ·simp only[go_sem];by_cases hl:n1=n2
  ·have hle:((n1:Int)=(n2:Int))=True:=eq_true (by omega);simp only[go_sem,hle];refine ct aq (fun x:Nat×Mem=>⟨[⟨17,[],.v (.int .i64 x.1)⟩,⟨16,[],.v (.int .i64 n1)⟩,⟨15,[],.v (.slice a1 n1 c1)⟩,⟨1,[],.v (.slice a2 n2 c2)⟩,⟨2,[],.v (.func (.func 242) ⟨[]⟩ ⟨[]⟩)⟩,⟨6,[],.v (.bool false)⟩],[],[],[],0,x.2⟩)
    (fun x=>ah m x.2/\x.1<=n1/\fu (fun(x y:Pc)=>Ty.eq x.ty y.ty) (l1.drop x.1) (l2.drop x.1)=K) (fun x=>n1 - x.1) (0,m) (by kernel_rfl) (fun _ _=>aU rfl) (fun x hx=>hx.1) (fun _=> ?_) ?_ ⟨.inl rfl,aF _,hK⟩ ?_
   ·simp only[go_sem]
   ·simp only[go_sem];exact rfl
   ·rintro⟨i,mm⟩ ⟨q1,q2,q3⟩;dsimp only at q1 q2 q3;by_cases an:i<l1.length
    ·have hc:((i:Int)<(n1:Int))=True:=eq_true (by omega);have yK:i<l2.length:=by omega
     rw[List.drop_eq_getElem_cons an,List.drop_eq_getElem_cons yK,fu] at q3;have p1:=Dw (aM q1 h1) fv an;have p2:=Dw (aM q1 h2) B8 yK;have ix1:bO a1 n1 (i:Int)=True:=eq_true ⟨by omega,by omega,p1.2⟩;have ix2:bO a2 n2 (i:Int)=True:=eq_true ⟨by omega,by omega,p2.2⟩;have LV:= @cz _ _ _ 4 p1.1 rfl;have LU:= @cz _ _ _ 4 p2.1 rfl;have hS:=OD l1[i] l2[i] mm;simp only[Pc.cs] at LV LU hS;revert hS q3;generalize Ty.eq l1[i].ty l2[i].ty=B
     intro q3 hS;simp only[go_sem,hc,ix1,ix2,LV,LU];refine ak ((aC hS fun V=>rfl).mono ?_);clear hS;rintro r H' m2 aJ ⟨rfl,rfl⟩;cases B with
     |true=>
      simp only[go_sem];exact⟨by unfold aB;unfold aw at hb;omega,(i+1,m2),⟨by simp,.inl rfl⟩,⟨ae q1 (.inr aJ),by omega,by rwa [Bool.true_and] at q3⟩,by omega⟩
     |false=>
      simp only[go_sem];rw[<- q3,Bool.false_and]
    ·have hc:((i:Int)<(n1:Int))=False:=eq_false (by omega);rw[List.drop_of_length_le (by omega),List.drop_of_length_le (by omega),fu] at q3;simp only[go_sem,hc];exact q3
  ·have hle:((n1:Int)=(n2:Int))=False:=eq_false (by omega);simp only[go_sem,hle];rw[<- hK,Jd (by omega)]
theorem Hb (x y:Md) (X Y:Mc) (m:Mem) (hX:MdX m x X) (hY:MdX m y Y):FnH Tryz.prog 162 [.v (.agg ⟨X.cs⟩),.v (.agg ⟨Y.cs⟩)] ⟨[],[]⟩ m fun r H' m' =>ah m m' /\r= .v (.bool (mD x y))/\H' =⟨[],[]⟩:=by
 have hE:=fun m' (hle:ah m m')=>TX x.params y.params X.pa Y.pa X.pl Y.pl X.pc Y.pc m' (aM hle hX.par) hX.pl (aM hle hY.par) hY.pl (by rw[hX.pl];exact hX.ok.pl)
 have hR:mD x y=(Ty.eq x.res y.res&&fu (fun(x y:Pc)=>Ty.eq x.ty y.ty) x.params y.params):=rfl;rw[<- hX.res,<- hY.res] at hR;revert hE hR;generalize mD x y=R
 generalize fu (fun(x y:Pc)=>Ty.eq x.ty y.ty) x.params y.params=A
 intro hE hR;refine enter bj aq Tryz.func162 rfl rfl (by kernel_rfl) rfl ?_ ?_
 ·clear hE;simp only[go_sem,Mc.cs]
 ·simp only[go_sem,Mc.cs,dC];refine⟨fun h=>ak ((hE m (.inl rfl)).mono ?_),fun h=> ?_⟩
  ·clear hE;rintro r H' m1 aQ ⟨rfl,rfl⟩;rw[(rS _ _).2 h,Bool.true_and] at hR;simp only[go_sem];exact⟨.inr aQ,hR.symm⟩
  ·rw[xN (vy h),Bool.false_and] at hR;first |exact hR.symm |exact⟨.inl rfl,hR.symm⟩
def lZ (m:Mem) (v:CR) (r:SV) (H' :Hp) (m' :Mem):Prop:=ah m m' /\H' =⟨[],[]⟩/\r= .tup [.v (.string (bs v.1)),.v (.int .i64 v.2)]
section
variable {ad:Addr} {pr E:List Cd} {b:Nat} {a:Option Addr} {c:Nat} {L:List Cc}
theorem Vis.ctx {E:List Cd} {l:List Nm} (h:Vis E l) {pr:List Cd} {m:Mem} {ad:Addr} {b:Nat} {a:Option Addr} {c:Nat} {L:List Cc} (hC:Ck m ad pr E b a c L):l.length<=1100000:=dk h.len hC.fw
theorem RM (d:Cd) (X:Cc) (m:Mem) (hC:Ck m ad pr E b a c L) (hX:CdX m d X):FnH Tryz.prog 68 [.v (.pointer (some ad)),.v (.agg ⟨X.cs⟩)] ⟨[],[]⟩ m (lZ m (n7 E d)):=by
 have hS:=qX X.super m hC;have fe:=(ir E X.super).ctx hC;have hI:=fun m' (hle:ah m m')=>OH d.ifs X.ia X.ic m' (hC.up hle) (by rw[<- hX.il];exact aM hle hX.ifs) hX.ok.il
 have jD:=(Ab (l:=d.ifs) (Vis.nil E)).ctx hC;have hK:n7 E d=if((bP E d.super).contains d.name||(gU E [] d.ifs).contains d.name)=true then([],31) else([],0):=rfl
 rw[<- hX.sup,<- hX.name] at hK;rw[<- hX.il] at hI;revert hS fe hI jD hK;generalize n7 E d=K
 generalize bP E X.super=sl
 generalize gU E [] d.ifs=il
 intro hS fe hI jD hK;refine enter EZ yy Tryz.func68 rfl rfl (by kernel_rfl) rfl ?_ ?_
 ·clear hS hI;simp only[go_sem,Cc.cs]
 ·simp only[go_sem,Cc.cs];refine bX (.hoist 0 (.hoist 1 (.hoist 2 (.hoist 4 (.hoist 5 (.alt 3 [5,4] (.alt 6 [] (.hoist 7 (.hoist 8 (.hoist 9 (.hoist 10 (.hoist 12 (.hoist 13 (.alt 11 [13,12] (.alt 14 [] (.hoist 15 .done) .stop) .stop))))))) .stop) .stop)))))) yy (by kernel_rfl) (by kernel_rfl) ?_;simp only[go_sem];refine ak (hS.mono ?_);clear hS;rintro r H' m1 aQ ⟨l1,rfl,sa,sc,rfl,h1,h2⟩;have jF:=A6 h2;have py:=xS h2;have bE:=eq_true l1;have lW:(sl.length<=4611686018427387904)=True:=eq_true (by clear hI;omega);by_cases bg:sl.contains X.name=true
  ·clear hI;rw[bg,Bool.true_or,ai rfl] at hK;simp only[go_sem,jF,py,lW,bg,bE,and_self];subst hK;exact⟨l1,rfl,rfl⟩
  ·have bg:=(Bool.not_eq_true _).mp bg;rw[bg,Bool.false_or] at hK;have hI:=hI m1 l1;simp only[go_sem,jF,py,lW,bg,bE,and_self];refine ak (hI.mono ?_);clear hI;rintro r H' m2 aJ ⟨l2,rfl,ia,ic,rfl,g1,g2⟩;have jF:=A6 g2;have py:=xS g2;have lW:(il.length<=4611686018427387904)=True:=eq_true (by omega);have ji:=ae l1 l2;have Lm:=eq_true ji;have cg:=eq_true l2;by_cases bg:il.contains X.name=true
   ·rw[bg,ai rfl] at hK;simp only[go_sem,jF,py,lW,bg,Lm,cg,bE,and_self];subst hK;exact⟨ji,rfl,rfl⟩
   ·have bg:=(Bool.not_eq_true _).mp bg;rw[bg,aa (by decide)] at hK;simp only[go_sem,jF,py,lW,bg,Lm,cg,bE,and_self];subst hK;exact⟨ji,rfl,rfl⟩
theorem Rt (d:Cd) (X:Cc) (m:Mem) (hC:Ck m ad pr E b a c L) (hX:CdX m d X):FnH Tryz.prog 69 [.v (.pointer (some ad)),.v (.agg ⟨X.cs⟩)] ⟨[],[]⟩ m (lZ m (nU E d)):=by
 have hK:nU E d=if(hasB (cd E d.super).fl 528||d.ifs.any fun s=> !hasB (cd E s).fl 512)=true then([],33) else([],0):=rfl
 obtain⟨Y,hY,hYX⟩:=hC.get X.super;have bq:=hY;simp only[Cc.cs] at bq;rw[<- hX.sup,<- hYX.fl] at hK;have pB:=hX.ifs;have dp:=hX.il;have j6:=hX.ok.il;have zB:=fun s=>hC.get s
 revert hK pB dp j6;generalize nU E d=K
 generalize d.ifs=il
 intro hK pB dp j6;have hA:(il.drop 0).any (fun s=> !hasB (cd E s).fl 512)=(il.any fun s=> !hasB (cd E s).fl 512):=by rw[List.drop_zero]
 have qT:(if(hasB Y.fl 528||(il.drop 0).any fun s=> !hasB (cd E s).fl 512)=true then(([],33):CR) else([],0))=K:=by rw[hA,hK]
 refine enter bj aq Tryz.func69 rfl rfl (by kernel_rfl) rfl ?_ ?_
 ·simp only[go_sem,Cc.cs]
 ·simp only[go_sem,Cc.cs];refine bX (.hoist 0 (.hoist 1 (.hoist 2 (.hoist 3 (.hoist 4 (.hoist 5 (.hoist 6 (.hoist 7 (.hoist 8 (.hoist 9 (.hoist 10 .done))))))))))) aq (by kernel_rfl) (by kernel_rfl) ?_;simp only[go_sem,bY (j:=0) hC.rd rfl,bY (j:=1) hC.rd rfl,fG hC.rm,nI,↓oq,eV,Cc.cs,bq];refine ct aq (fun y:Nat×Bool=>⟨[⟨6,[],.v (.bool y.2)⟩,⟨22,[],.v (.int .i64 y.1)⟩,⟨21,[],.v (.int .i64 X.il)⟩,⟨20,[],.v (.slice X.ia X.il X.ic)⟩,⟨0,[],.v (.pointer (some ad))⟩,⟨3,[],.box 0 0⟩,⟨4,[],.v (.string (bs []))⟩,⟨5,[],.v (.int .i64 0)⟩],[],[⟨0,33,[.v (.int .i64 X.fl),.v (.string (bs X.name)),.v (.string (bs X.super)),.v (.slice X.ia X.il X.ic),.v (.slice X.fa X.fn X.fc),.v (.slice X.ma X.ml X.mc),.v (.slice X.sa X.sl X.sc)]⟩],[],1,m⟩)
   (fun y=>y.1<=il.length/\(if(y.2||(il.drop y.1).any fun s=> !hasB (cd E s).fl 512)=true then(([],33):CR) else([],0))=K) (fun y=>il.length - y.1) (0,hasB Y.fl 528) (by kernel_rfl) (fun _ _=>aU rfl) (fun x hx=> .inl rfl) (fun _=> ?_) ?_ ⟨aF _,qT⟩ ?_
  ·simp only[go_sem]
  ·simp only[go_sem];exact⟨rfl,rfl⟩
  ·rintro⟨i,B⟩ ⟨i1,i2⟩;dsimp only at i1 i2;by_cases an:i<il.length
   ·have hc:((i:Int)<(X.il:Int))=True:=eq_true (by omega);have aL:=kQ pB (by omega:i<X.il);have av:= @ky _ _ _ _ pB _ (by omega:i<X.il) (.string (bs il[i])) (by unfold strs;rw[List.getElem?_map,List.getElem?_eq_getElem an];rfl);rw[List.drop_eq_getElem_cons an,List.any_cons] at i2;refine Exists.elim (zB il[i]) fun Z hZ=> ?_
    have bq:=hZ.1;simp only[Cc.cs] at bq;have gS:hasB (cd E il[i]).fl 512= !decide (bits .and .i64 Z.fl 512=0):=by rw[<- hZ.2.fl];rfl
    clear hZ;rw[gS,Bool.not_not] at i2;cases B with
    |true=>
     simp only[go_sem,hc,aL,av,bY (j:=0) hC.rd rfl,bY (j:=1) hC.rd rfl,fG hC.rm,nI,↓oq,eV,Cc.cs,bq];refine⟨.map (some b),kO L,hC.rm,?_⟩;simp only[go_sem,hc,aL,av,bY (j:=0) hC.rd rfl,bY (j:=1) hC.rd rfl,fG hC.rm,nI,↓oq,eV,Cc.cs,bq];refine⟨by unfold aB;unfold aw at j6;omega,(i+1,true),⟨by first |rfl |simp,by simp⟩,⟨by omega,?_⟩,by omega⟩;rw[<- i2];simp
    |false=>
     rw[Bool.false_or] at i2;simp only[go_sem,hc,aL,av,bY (j:=0) hC.rd rfl,bY (j:=1) hC.rd rfl,fG hC.rm,nI,↓oq,eV,Cc.cs,bq];refine⟨by unfold aB;unfold aw at j6;omega,(i+1,decide (bits .and .i64 Z.fl 512=0)),⟨rfl,by simp⟩,⟨by omega,?_⟩,by omega⟩;rw[<- i2];simp only[Bool.or_eq_true,cS]
   ·have hc:((i:Int)<(X.il:Int))=False:=eq_false (by omega);rw[List.drop_of_length_le (by omega),List.any_nil,Bool.or_false] at i2;cases B with
    |true=>
     simp only[go_sem,hc];exact⟨.inl rfl,rfl,by rw[<- i2];rfl⟩
    |false=>
     simp only[go_sem,hc];exact⟨.inl rfl,rfl,by rw[<- i2];rfl⟩
end
def rz (a b:List UInt8):Bool:=decide ((b.length:Int)<=a.length)&&decide (a.take b.length=b)
theorem AV {n b:Nat} (hn:n<=2000000001) (hb:b<=1000):room n b:=by
 have:n * b<=2000000001 * 1000:=Nat.mul_le_mul hn hb;exact⟨by omega,by unfold maxLen;omega⟩
theorem Ni (s:Nm):rz s mG=mG.isPrefixOf s:=by
 unfold rz;rw[Bool.eq_iff_iff,bw,cS,cS,List.isPrefixOf_iff_prefix,List.prefix_iff_eq_take];constructor
 ·rintro⟨_,h⟩;exact h.symm
 ·intro h;have:=congrArg List.length h;rw[List.length_take] at this;exact⟨by omega,h.symm⟩
def yC (F:List UInt8->List UInt8->Value):List Value->Option (Prop×Value)
 |[.string a,.string b]=>some (True,F (tl a) (tl b))
 |_=>none
attribute [go_sem] yC.eq_1
theorem Ju {P:Program} {f:FuncId} {F:List UInt8->List UInt8->Value} (h:∀(a b:List UInt8) (m:Mem),FnH P f [.v (.string (bs a)),.v (.string (bs b))] ⟨[],[]⟩ m fun r H' _=>r= .v (F a b)/\H' =⟨[],[]⟩):
  ∀aN y,yC F aN=some y->y.1->∀m,FnH P f (aN.map SV.v) ⟨[],[]⟩ m fun r H' _=>r= .v y.2/\H' =⟨[],[]⟩:=fun aN y hy hB m=>by
 unfold yC at hy;split at hy
 ·rename_i a b;cases hy;have:=h (tl a) (tl b) m;rwa [eW,eW] at this
 ·cases hy
theorem MI (a b:List UInt8) (m:Mem):FnH Tryz.prog 240 [.v (.string (bs a)),.v (.string (bs b))] ⟨[],[]⟩ m fun r H' _=>r= .v (.bool (rz a b))/\H' =⟨[],[]⟩:=by
 refine br wu Tryz.func240 ?_
 ·simp only[go_sem];refine⟨fun h=>⟨by omega,by omega,h⟩,?_⟩;rfl
abbrev Ya:Cfg:=fF (fun _=>false) [(240,yC fun a b=> .bool (rz a b))]
theorem Xn:cw Ya Tryz.prog:=pure_cons (by kernel_rfl) (Ju MI) pure_nil
theorem ML (a b:List UInt8) (m:Mem):FnH Tryz.prog 158 [.v (.string (bs a)),.v (.string (bs b))] ⟨[],[]⟩ m fun r H' _=>r= .v (.bool (rz a b))/\H' =⟨[],[]⟩:=by
 refine br Xn Tryz.func158 ?_
 ·simp only[go_sem]
abbrev Ly (pr E:List Cd):Cfg:=kI (fun _=>false) [(158,fun _=>yC fun a b=> .bool (rz a b)),(159,vR pr E fun t=> .bool (cu E t))]
theorem Bo (pr E:List Cd):cw (Ly pr E) Tryz.prog:=fz (by kernel_rfl) (fun m aN y hy hB=>Ju ML aN y hy hB m) (fz (by kernel_rfl) (DW fun p t m h=>GS p t m h) ra)
section
variable {ad:Addr} {pr E:List Cd} {b:Nat} {a:Option Addr} {c:Nat} {L:List Cc}
theorem Sg (s:Nm) (m:Mem) (hC:Ck m ad pr E b a c L):
  FnH Tryz.prog 157 [.v (.string (bs s)),.box 0 0] ⟨[⟨0,72,[.v (.pointer (some ad))]⟩],[]⟩ m
   fun r H' _=>r= .v (.bool (cls E s).isNone)/\H' =⟨[⟨0,72,[.v (.pointer (some ad))]⟩],[]⟩:=by
 cases hc:cls E s with
 |none=>
  have hf:=hC.none hc;refine br aq Tryz.func157 ?_
  ·simp only[go_sem,bY (j:=0) hC.rd rfl,bY (j:=1) hC.rd rfl,fG hC.rm,iN,Option.map_none,Option.map_some,cn,forall_eq',false_implies,and_true,true_and,eV,hf];rfl
 |some d=>
  obtain⟨X,hf,hX⟩:=hC.some hc;refine br aq Tryz.func157 ?_
  ·simp only[go_sem,bY (j:=0) hC.rd rfl,bY (j:=1) hC.rd rfl,fG hC.rm,iN,Option.map_none,Option.map_some,cn,forall_eq',false_implies,and_true,true_and,eV,hf,Cc.cs];rfl
def E8 (E:List Cd) (m:Md):Bool:=(m.params.any fun p=> !cu E p.ty)|| !cu E m.res
def qG (E:List Cd) (l:List Md):CR:=match l.find? (E8 E) with
 |some m=>(m.name,72)
 |none=>([],0)
def zf (E:List Cd) (l:List Fc) (R:CR):CR:=match l.find? fun f=> !cu E f.ty with
 |some f=>(f.name,72)
 |none=>R
theorem QN (E:List Cd) (m:Md) (r:List Md):qG E (m::r)=if E8 E m=true then(m.name,72) else qG E r:=by
 unfold qG;rw[List.find?_cons];cases E8 E m<;>rfl
theorem QO (E:List Cd) (f:Fc) (r:List Fc) (R:CR):zf E (f::r) R=if cu E f.ty=true then zf E r R else(f.name,72):=by
 unfold zf;rw[List.find?_cons];cases cu E f.ty<;>rfl
theorem Ou (E:List Cd) (d:Cd):rr E d=if(mG.isPrefixOf d.name||(d.super::d.ifs).any fun s=>(cls E s).isNone)=true then([],72) else zf E d.fields (qG E d.methods):=rfl
theorem O4 (d:Cd) (X:Cc) (m:Mem) (hC:Ck m ad pr E b a c L) (hX:CdX m d X):FnH Tryz.prog 67 [.v (.pointer (some ad)),.v (.agg ⟨X.cs⟩)] ⟨[],[]⟩ m (lZ m (rr E d)):=by
 have hK:=Ou E d;rw[<- Ni,<- hX.name,<- hX.sup] at hK;have hU:=fun(a1:Option Addr) (c1:Nat) (m1:Mem) (hle:ah m m1) (h:ax m1 a1 (X.super::d.ifs).length 1 (strs (X.super::d.ifs)))=>Tb 157 (by kernel_rfl) [.pointer (some ad)] a1 (X.super::d.ifs).length c1 m1 (by have:=hX.ok.il;unfold aw at this;simp only[cQ];omega) (fun i=> .string (bs ((X.super::d.ifs).getD i []))) (fun i hi=>G9 h hi) (fun i=>(cls E ((X.super::d.ifs).getD i [])).isNone) (fun i m' hi bD=>Sg _ m' (hC.up (ae hle bD)))
 have Lv:((List.range (X.super::d.ifs).length).any fun i=>(cls E ((X.super::d.ifs).getD i [])).isNone)=(X.super::d.ifs).any fun s=>(cls E s).isNone:=Aw (fun s=>(cls E s).isNone) [] (X.super::d.ifs)
 rw[Lv] at hU;rw[show(X.super::d.ifs).length=1+X.il by rw[cQ,hX.il,Nat.add_comm]] at hU;have aR:=fun m' (hle:ah m m')=>(hC.up hle).chk
 have pB:=hX.ifs;have dp:=hX.il;have j6:=hX.ok.il;have lU:=hX.fds;have ep:=hX.fn;have gC:=hX.ok.fn;have ox:=hX.mth;have dR:=hX.ml;have fY:=hX.ok.ml;clear Lv hX;revert hK hU pB dp j6 lU ep gC ox dR fY;generalize hAny:((X.super::d.ifs).any fun s=>(cls E s).isNone)=B
 generalize rr E d=K
 generalize d.fields=fl
 generalize d.methods=ml
 clear hAny;generalize d.ifs=il
 intro hK hU pB dp j6 lU ep gC ox dR fY;refine enter (Ly pr E) (Bo pr E) Tryz.func67 rfl rfl (by kernel_rfl) rfl ?_ ?_
 ·clear hU;simp only[go_sem,Cc.cs]
 ·simp only[go_sem,Cc.cs];refine⟨strs il,pB,?_,AV (by unfold aw at j6;omega) (by decide),fun hp=>⟨by kernel_rfl,fun a1 c1 m1 e1 e2 e3=>bF ((hU a1 c1 m1 (.inr e1) ?_).mono ?_)⟩,fun hp=> ?_⟩
  ·intro u hu;unfold strs at hu;obtain⟨x,_,rfl⟩:=List.mem_map.1 hu;rfl
  ·exact e3
  ·clear hU;rintro r H' m2 aJ ⟨rfl,rfl⟩;rw[show rz X.name mG=false from hp,Bool.false_or] at hK;have l2:ah m m2:=ae (.inr e1) (.inr aJ);have aR:=aR m2 l2;have lU:=aM l2 lU;by_cases hB:B=true
   ·rw[ai hB] at hK;simp only[go_sem,aG,List.map_nil,hB];exact⟨l2,rfl,by rw[hK]⟩
   ·rw[aa hB] at hK;have hB:=(Bool.not_eq_true _).mp hB;simp only[go_sem,aG,List.map_nil,hB];refine ct (Bo pr E) (fun i:Nat=>⟨[⟨32,[],.v (.int .i64 i)⟩,⟨31,[],.v (.int .i64 X.fn)⟩,⟨30,[],.v (.slice X.fa X.fn X.fc)⟩,⟨2,[],.box 0 0⟩,⟨3,[],.box 1 0⟩,⟨4,[],.v (.string (bs []))⟩,⟨5,[],.v (.int .i64 0)⟩],[],[⟨1,33,[.v (.int .i64 X.fl),.v (.string (bs X.name)),.v (.string (bs X.super)),.v (.slice X.ia X.il X.ic),.v (.slice X.fa X.fn X.fc),.v (.slice X.ma X.ml X.mc),.v (.slice X.sa X.sl X.sc)]⟩,⟨0,72,[.v (.pointer (some ad))]⟩],[],4,m2⟩)
     (fun i=>i<=fl.length/\zf E (fl.drop i) (qG E ml)=K) (fun i=>fl.length - i) 0 (by kernel_rfl) (fun _ _=>aU rfl) (fun x hx=> .inl rfl) (fun _=> ?_) ?_ ⟨aF _,by rw[List.drop_zero];exact hK.symm⟩ ?_
    ·simp only[go_sem]
    ·simp only[go_sem];exact rfl
    ·rintro i ⟨i1,i2⟩;by_cases an:i<fl.length
     ·have hc:((i:Int)<(X.fn:Int))=True:=eq_true (by omega);rw[List.drop_eq_getElem_cons an,QO] at i2;have lV:=dK lU (by omega:i<X.fn);rw[my (f:=Fc.cs) (sz:=5) (fun _=>rfl) an] at lV;have aL:bO X.fa X.fn (i:Int)=True:=eq_true ⟨by omega,by omega,lV.2⟩;have av:= @cz _ _ _ 5 lV.1 rfl;simp only[Fc.cs] at av;simp only[go_sem,hc,aL,av,aR];refine⟨fun h=> ?_,fun h=> ?_⟩
      ·rw[aa (by rw[show cu E fl[i].ty=false from h];decide)] at i2;subst i2;exact⟨l2,rfl,rfl⟩
      ·rw[ai (show cu E fl[i].ty=true from h)] at i2;exact⟨by unfold aB;unfold aw at gC;omega,i+1,by simp,⟨an,i2⟩,by omega⟩
     ·have hc:((i:Int)<(X.fn:Int))=False:=eq_false (by omega);rw[List.drop_of_length_le (by omega)] at i2;have i2:qG E ml=K:=i2;simp only[go_sem,hc];refine Exists.elim ox fun xs fX=> ?_
      refine ct (Bo pr E) (fun j:Nat=>⟨[⟨47,[],.v (.int .i64 j)⟩,⟨46,[],.v (.int .i64 X.ml)⟩,⟨45,[],.v (.slice X.ma X.ml X.mc)⟩,⟨2,[],.box 0 0⟩,⟨3,[],.box 1 0⟩,⟨4,[],.v (.string (bs []))⟩,⟨5,[],.v (.int .i64 0)⟩],[],[⟨1,33,[.v (.int .i64 X.fl),.v (.string (bs X.name)),.v (.string (bs X.super)),.v (.slice X.ia X.il X.ic),.v (.slice X.fa X.fn X.fc),.v (.slice X.ma X.ml X.mc),.v (.slice X.sa X.sl X.sc)]⟩,⟨0,72,[.v (.pointer (some ad))]⟩],[],4,m2⟩)
       (fun j=>j<=ml.length/\qG E (ml.drop j)=K) (fun j=>ml.length - j) 0 (by kernel_rfl) (fun _ _=>aU rfl) (fun x hx=> .inl rfl) (fun _=> ?_) ?_ ⟨aF _,by rw[List.drop_zero];exact i2⟩ ?_
      ·simp only[go_sem]
      ·simp only[go_sem];exact rfl
      ·rintro j ⟨j1,j2⟩;by_cases hjt:j<ml.length
       ·have hc:((j:Int)<(X.ml:Int))=True:=eq_true (by omega);rw[List.drop_eq_getElem_cons hjt,QN] at j2;refine Exists.elim (tz (aM l2 fX.1) dR (iT (fun _ _=>lg l2) fX.2) hjt) fun Y hY=> ?_
        have aL:bO X.ma X.ml (j:Int)=True:=eq_true ⟨by omega,by omega,hY.2.1⟩;have av:= @cz _ _ _ 8 hY.1 rfl;simp only[Mc.cs] at av;have ur:=hY.2.2.par;have gB:=hY.2.2.pl;have hpb:=hY.2.2.ok.pl;have hj0:(if((ml[j].params.drop 0).any (fun p=> !cu E p.ty)|| !cu E Y.res)=true then((Y.name,72):CR) else qG E (ml.drop (j+1)))=K:=by rw[hY.2.2.res,hY.2.2.name];exact j2
        simp only[go_sem,hc,aL,av];refine ct (Bo pr E) (fun k:Nat=>⟨[⟨54,[],.v (.int .i64 k)⟩,⟨53,[],.v (.int .i64 Y.pl)⟩,⟨52,[],.v (.slice Y.pa Y.pl Y.pc)⟩,⟨11,[],.box 4 0⟩,⟨47,[],.v (.int .i64 j)⟩,⟨46,[],.v (.int .i64 X.ml)⟩,⟨45,[],.v (.slice X.ma X.ml X.mc)⟩,⟨2,[],.box 0 0⟩,⟨3,[],.box 1 0⟩,⟨4,[],.v (.string (bs []))⟩,⟨5,[],.v (.int .i64 0)⟩],[],[⟨4,45,[.v (.int .i64 Y.fl),.v (.int .i64 Y.res.dim),.v (.int .u8 Y.res.base),.v (.string (bs Y.res.name)),.v (.string (bs Y.name)),.v (.slice Y.pa Y.pl Y.pc),.v (.bool Y.hb),.v (.slice Y.a Y.l Y.cp)]⟩,⟨1,33,[.v (.int .i64 X.fl),.v (.string (bs X.name)),.v (.string (bs X.super)),.v (.slice X.ia X.il X.ic),.v (.slice X.fa X.fn X.fc),.v (.slice X.ma X.ml X.mc),.v (.slice X.sa X.sl X.sc)]⟩,⟨0,72,[.v (.pointer (some ad))]⟩],[],5,m2⟩)
         (fun k=>k<=ml[j].params.length/\(if((ml[j].params.drop k).any (fun p=> !cu E p.ty)|| !cu E Y.res)=true then((Y.name,72):CR) else qG E (ml.drop (j+1)))=K) (fun k=>ml[j].params.length - k) 0 (by kernel_rfl) (fun _ _=>aU rfl) (fun x hx=> .inl rfl) (fun _=> ?_) ?_ ⟨aF _,hj0⟩ ?_
        ·simp only[go_sem]
        ·simp only[go_sem];exact rfl
        ·rintro k ⟨k1,k2⟩;by_cases lR:k<ml[j].params.length
         ·have uB:((k:Int)<(Y.pl:Int))=True:=eq_true (by omega);rw[List.drop_eq_getElem_cons lR,List.any_cons] at k2;have hp:=Dw ur gB lR;have zA:bO Y.pa Y.pl (k:Int)=True:=eq_true ⟨by omega,by omega,hp.2⟩;have wH:= @cz _ _ _ 4 hp.1 rfl;simp only[Pc.cs] at wH;simp only[go_sem,uB,zA,wH,aR];refine⟨fun h=> ?_,fun h=> ?_⟩
          ·rw[show cu E ml[j].params[k].ty=false from h,Bool.not_false,Bool.true_or,Bool.true_or,ai rfl] at k2;subst k2;exact⟨l2,rfl,rfl⟩
          ·rw[show cu E ml[j].params[k].ty=true from h,Bool.not_true,Bool.false_or] at k2;exact⟨by unfold aB;unfold aw at hpb;omega,k+1,by simp,⟨lR,by first |exact k2 |simpa only[Bool.or_eq_true,Bool.not_eq_true',Bool.not_eq_true] using k2⟩,by omega⟩
         ·have uB:((k:Int)<(Y.pl:Int))=False:=eq_false (by omega);rw[List.drop_of_length_le (by omega),List.any_nil,Bool.false_or] at k2;simp only[go_sem,uB,aR];refine⟨fun h=> ?_,fun h=> ?_⟩
          ·rw[show cu E Y.res=false from h,Bool.not_false,ai rfl] at k2;subst k2;exact⟨l2,rfl,rfl⟩
          ·rw[show cu E Y.res=true from h,Bool.not_true,aa (by decide)] at k2;exact⟨by unfold aB;unfold aw at fY;omega,j+1,by simp,⟨hjt,k2⟩,by omega⟩
       ·have hc:((j:Int)<(X.ml:Int))=False:=eq_false (by omega);rw[List.drop_of_length_le (by omega)] at j2;subst j2;simp only[go_sem,hc];exact⟨l2,rfl,rfl⟩
  ·rw[show rz X.name mG=true from hp,Bool.true_or,ai rfl] at hK;rw[hK];exact⟨.inl rfl,rfl,rfl⟩
end
section
variable {ad:Addr} {pr E:List Cd} {b:Nat} {a:Option Addr} {c:Nat} {L:List Cc}
theorem Rf (s:Nm) (g:Md) (G:Mc) (m:Mem) (hC:Ck m ad pr E b a c L) (hG:MdX m g G):FnH Tryz.prog 164 [.v (.pointer (some ad)),.v (.string (bs s)),.v (.agg ⟨G.cs⟩)] ⟨[],[]⟩ m
  fun r H' m' =>ah m m' /\H' =⟨[],[]⟩/\r= .v (.bool (kp E s g)):=by
 have hS:=qX s m hC;have fe:=(ir E s).ctx hC;have hI:=fun m' (hle:ah m m')=>uS s m' (hC.up hle)
 have jD:=(ld E s).ctx hC;have hF:=fun m' (hle:ah m m') sa sc (hr:ax m' sa (bP E s).length 1 (strs (bP E s)))=>wX (bP E s) sa sc G.name G.pl m' (hC.up hle) hr (by omega)
 have hM:=fun m' (hle:ah m m') sa sc (hr:ax m' sa (cH E s).length 1 (strs (cH E s)))=>Hr (cH E s) sa sc G.name G.pl m' (hC.up hle) hr (by omega)
 have hD:=fun m' (hle:ah m m') t=>uW t G.name G.pl m' (hC.up hle)
 have hT:=fun m' (hle:ah m m') (x:Md) (X:Mc) (hx:MdX m' x X)=>Hb x g X G m' hx (hG.up hle)
 have hK:kp E s g=(match eA E (bP E s) G.name G.pl with
  |some (_,m)=> !hasB m.fl 1034&&mD m g
  |none=>match gH E (cH E s) G.name G.pl with
   |[t]=>((cM E t G.name G.pl).getD mQ).hb&&mD ((cM E t G.name G.pl).getD mQ) g
   |_=>false):=by rw[hG.name,hG.pl];rfl
 revert hK hS fe hI jD hF hM hD;generalize eA E (bP E s) G.name G.pl=o
 generalize gH E (cH E s) G.name G.pl=w
 generalize kp E s g=K
 generalize bP E s=sl
 generalize cH E s=il
 intro hS fe hI jD hF hM hD hK;simp only[Mc.cs] at hT;refine enter bj aq Tryz.func164 rfl rfl (by kernel_rfl) rfl ?_ ?_
 ·clear hS hI hF hM hD hT;simp only[go_sem,Mc.cs]
 ·simp only[go_sem,Mc.cs];refine bX (.hoist 0 (.hoist 1 (.hoist 2 (.hoist 4 (.hoist 5 (.hoist 6 (.alt 3 [6,5,4,0] (.alt 7 [] (.hoist 8 (.hoist 9 (.hoist 10 (.hoist 11 (.alt 12 [11,10,9,8] (.hoist 13 (.alt 14 [11] (.hoist 15 .done) .stop)) .stop))))) (.alt 12 [6,5,4,0] (.alt 7 [] (.hoist 8 (.hoist 9 (.hoist 10 (.hoist 11 (.hoist 13 (.alt 14 [11] (.hoist 15 .done) .stop)))))) .stop) .stop)) (.alt 12 [6,5,4,2,1,0] (.alt 3 [6,5,4,0] (.alt 7 [] (.hoist 8 (.hoist 9 (.hoist 10 (.hoist 11 (.hoist 13 (.alt 14 [11] (.hoist 15 .done) .stop)))))) .stop) .stop) .stop)))))))) aq (by kernel_rfl) (by kernel_rfl) ?_;simp only[go_sem];refine⟨ak (hS.mono ?_),by kernel_rfl,bF (hS.mono ?_)⟩;all_goals
   clear hS;rintro r H' m1 aQ ⟨l1,rfl,sa,sc,rfl,h1,h2⟩;have hF:=hF m1 l1 sa sc h2;have bE:=eq_true l1;simp only[go_sem,bE,and_self,true_and];first
    |refine⟨ak (hF.mono ?_),by kernel_rfl,bF (hF.mono ?_)⟩
    |refine ak (hF.mono ?_)
  all_goals
   clear hF;rintro r H' m2 aJ ⟨rfl,rfl,o',Y,hA,rfl⟩;cases o with
   |some x=>
    obtain⟨o2,d⟩:=x;obtain⟨rfl,hY⟩:=hA;have hK:K=(!hasB d.fl 1034&&mD d g):=hK;have hq:hasB d.fl 1034= !decide (bits .and .i64 Y.fl 1034=0):=by rw[hY.fl];rfl
    rw[hq,Bool.not_not] at hK;have hT:=hT m2 l1 d Y hY;clear hI hM hD;simp only[go_sem,Mc.cs,bE,and_self];refine⟨fun h=>ak ((aC hT fun V=>rfl).mono ?_),fun h=> ?_⟩
    ·clear hT;rintro r H' m3 dx ⟨l3,rfl,rfl⟩;rw[aP h,Bool.true_and] at hK;have qN:=eq_true (ae l1 l3);simp only[go_sem,bE,qN,and_self];first |exact hK.symm |exact⟨ae l1 l3,rfl,by rw[hK]⟩
    ·clear hT;rw[ab h,Bool.false_and] at hK;first |exact hK.symm |exact⟨l1,rfl,by rw[hK]⟩
   |none=>
    have hI:=hI m2 l1;simp only[go_sem,Mc.cs,bE,and_self];refine bX (.hoist 0 (.hoist 1 (.hoist 2 (.hoist 4 (.hoist 5 (.hoist 6 (.alt 3 [6,5,4,0] (.alt 7 [] (.hoist 8 .done) .stop) .stop))))))) aq (by kernel_rfl) (by kernel_rfl) ?_;simp only[go_sem,bE,and_self];refine ak (hI.mono ?_);clear hI;rintro r H' m3 dx ⟨l3,rfl,ia,ic,rfl,g1,g2⟩;have Fg:=ae l1 l3;have ZA:=eq_true Fg;have qN:=eq_true l3;have hM:=hM m3 Fg ia ic g2;simp only[go_sem,ZA,qN,and_self];refine ak (hM.mono ?_);clear hM;rintro r H' m4 iF ⟨l4,rfl,wa,wc,rfl,w1,w2⟩;have lQ:=ae Fg l4;have qM:=eq_true l4;have yM:=eq_true lQ;by_cases hw:w.length=1
    ·refine Exists.elim (List.length_eq_one_iff.1 hw) fun t ht=> ?_
     have hD:=hD m4 lQ t;have Mv:0<w.length:=by omega
     have aL:bO wa w.length 0=True:=kQ w2 Mv;have av:= @ky _ _ _ _ w2 0 Mv (.string (bs t)) (by rw[ht];rfl);have hK:K=(((cM E t G.name G.pl).getD mQ).hb&&mD ((cM E t G.name G.pl).getD mQ) g):=by rw[hK,ht]
     have jX:((w.length:Int)=1)=True:=eq_true (by omega);simp only[go_sem,yM,qM,and_self,jX];refine bX (.hoist 0 (.hoist 1 (.hoist 2 (.hoist 3 (.hoist 4 (.hoist 5 (.hoist 6 (.alt 7 [] (.hoist 8 (.hoist 9 (.hoist 10 (.alt 11 [10,9,8] (.alt 12 [10] (.hoist 13 .done) .stop) .stop)))) (.alt 11 [6,5,4,3,2,1,0] (.alt 7 [] (.hoist 8 (.hoist 9 (.hoist 10 (.alt 12 [10] (.hoist 13 .done) .stop)))) .stop) .stop))))))))) aq (by kernel_rfl) (by kernel_rfl) ?_;simp only[go_sem,yM,qM,and_self,aL,av];refine⟨ak (hD.mono ?_),by kernel_rfl,bF (hD.mono ?_)⟩;all_goals
      clear hD;rintro r H' m5 oy ⟨rfl,rfl,Z,hA,rfl⟩;have hZ:=MdA.x hA;rw[<- hZ.hb] at hK;have hT:=hT m5 lQ _ Z hZ;simp only[go_sem,Mc.cs,yM,qM,and_self];refine⟨fun h=>ak ((aC hT fun V=>rfl).mono ?_),fun h=> ?_⟩
      ·clear hT;rintro r H' m6 uy ⟨l6,rfl,rfl⟩;rw[h,Bool.true_and] at hK;have wG:=eq_true (ae lQ l6);have Zz:=eq_true l6;simp only[go_sem,yM,wG,Zz,and_self];first |exact hK.symm |exact⟨ae lQ l6,rfl,by rw[hK]⟩
      ·clear hT;rw[h,Bool.false_and] at hK;first |exact hK.symm |exact⟨lQ,rfl,by rw[hK]⟩
    ·have hn:((w.length:Int)=1)=False:=eq_false (by omega);have Ms:K=false:=by
      rw[hK];match w,hw with
      |[],_=>rfl
      |[t],hw=>exact absurd rfl hw
      |_::_::_,_=>rfl
     clear hD;simp only[go_sem,yM,qM,and_self,hn];first |exact Ms.symm |exact⟨lQ,rfl,by rw[Ms]⟩
end
def fg (P:Md->Bool) (l:List Md) (R:CR):CR:=match l.find? P with
 |some m=>(m.name,74)
 |none=>R
theorem I3 (P:Md->Bool) (m:Md) (r:List Md) (R:CR):fg P (m::r) R=if P m=true then(m.name,74) else fg P r R:=by
 unfold fg;rw[List.find?_cons];cases P m<;>rfl
theorem J9 (P:Md->Bool) (l1 l2:List Md) (R:CR):fg P (l1++l2) R=fg P l1 (fg P l2 R):=by
 unfold fg;rw[List.find?_append];cases l1.find? P<;>rfl
def dv (E:List Cd) (s:Nm):List Md:=(cd E s).methods
def qU (E:List Cd) (n:Nm) (m:Md):Bool:=hasB m.fl 1024&& !kp E n m
def kZ (E:List Cd) (n:Nm) (m:Md):Bool:= !hasB m.fl 8&& !kp E n m
theorem Qd (E:List Cd) (d:Cd):nN E d=if hasB d.fl 1024=true then([],0) else fg (qU E d.name) ((bP E d.name).flatMap (dv E)) (fg (kZ E d.name) ((cH E d.name).flatMap (dv E)) ([],0)):=rfl
section
variable {ad:Addr} {pr E:List Cd} {b:Nat} {a:Option Addr} {c:Nat} {L:List Cc}
theorem PC (d:Cd) (X:Cc) (m:Mem) (hC:Ck m ad pr E b a c L) (hX:CdX m d X):FnH Tryz.prog 71 [.v (.pointer (some ad)),.v (.agg ⟨X.cs⟩)] ⟨[],[]⟩ m (lZ m (nN E d)):=by
 have hK:=Qd E d;have hS:=qX X.name m hC;have fe:=(ir E X.name).ctx hC;have hI:=fun m' (hle:ah m m')=>uS X.name m' (hC.up hle)
 have jD:=(ld E X.name).ctx hC;have hM:=fun m' (hle:ah m m') (x:Md) (Y:Mc) (hx:MdX m' x Y)=>Rf X.name x Y m' (hC.up hle) hx
 have zB:=fun m' (hle:ah m m') s=>(hC.up hle).get s
 rw[<- hX.name,<- hX.fl] at hK;revert hK hS fe hI jD;generalize nN E d=K
 generalize bP E X.name=sl
 generalize cH E X.name=il
 intro hK hS fe hI jD;simp only[Mc.cs] at hM;refine enter bj aq Tryz.func71 rfl rfl (by kernel_rfl) rfl ?_ ?_
 ·clear hS hI hM;simp only[go_sem,Cc.cs]
 ·by_cases hab:hasB X.fl 1024=true
  ·rw[ai hab] at hK;have hb:(bits .and .i64 X.fl 1024=0)=False:=eq_false fun q=>by rw[hasB,q] at hab;exact absurd hab (by decide)
   clear hS hI hM;simp only[go_sem,Cc.cs,hb];subst hK;exact⟨.inl rfl,rfl,rfl⟩
  ·rw[aa hab] at hK;have hb:(bits .and .i64 X.fl 1024=0)=True:=eq_true (Classical.byContradiction fun q=>hab (by rw[hasB,ab q];rfl));simp only[go_sem,Cc.cs,hb];refine ak (hS.mono ?_);clear hS;rintro r H' m1 aQ ⟨l1,rfl,sa,sc,rfl,h1,h2⟩;simp only[go_sem];refine ct aq (fun y:Nat×Mem=>⟨[⟨23,[],.v (.int .i64 y.1)⟩,⟨22,[],.v (.int .i64 sl.length)⟩,⟨21,[],.v (.slice sa sl.length sc)⟩,⟨0,[],.v (.pointer (some ad))⟩,⟨3,[],.box 0 0⟩,⟨4,[],.v (.string (bs []))⟩,⟨5,[],.v (.int .i64 0)⟩],[],[⟨0,33,[.v (.int .i64 X.fl),.v (.string (bs X.name)),.v (.string (bs X.super)),.v (.slice X.ia X.il X.ic),.v (.slice X.fa X.fn X.fc),.v (.slice X.ma X.ml X.mc),.v (.slice X.sa X.sl X.sc)]⟩],[],1,y.2⟩)
    (fun y=>ah m y.2/\ah m1 y.2/\y.1<=sl.length/\fg (qU E X.name) ((sl.drop y.1).flatMap (dv E)) (fg (kZ E X.name) (il.flatMap (dv E)) ([],0))=K) (fun y=>sl.length - y.1) (0,m1) (by kernel_rfl) (fun _ _=>aU rfl) (fun x hx=>hx.2.1) (fun _=> ?_) ?_ ⟨l1,.inl rfl,aF _,by rw[List.drop_zero];exact hK.symm⟩ ?_
   ·clear hI hM;simp only[go_sem]
   ·clear hI hM;simp only[go_sem];exact rfl
   ·rintro⟨i,mm⟩ ⟨q0,q1,q2,q3⟩;dsimp only at q0 q1 q2 q3;by_cases an:i<sl.length
    ·have hc:((i:Int)<(sl.length:Int))=True:=eq_true (by clear hI hM;omega);have aL:=kQ (aM q1 h2) an;have av:= @ky _ _ _ _ (aM q1 h2) _ an (.string (bs sl[i])) (by unfold strs;rw[List.getElem?_map,List.getElem?_eq_getElem an];rfl);rw[List.drop_eq_getElem_cons an,List.flatMap_cons,J9] at q3;have pE:=hC.up q0;refine Exists.elim (zB mm q0 sl[i]) fun Z hZ=> ?_
     have bq:=hZ.1;simp only[Cc.cs] at bq;refine Exists.elim hZ.2.mth fun xs fX=> ?_
     have dR:Z.ml=(dv E sl[i]).length:=hZ.2.ml;have fY:(dv E sl[i]).length<=aw:=hZ.2.ok.ml;have ot:=fX.1;have pw:eu (gW mm) 8 (dv E sl[i]) xs:=fX.2;simp only[go_sem,hc,aL,av,bY (j:=0) pE.rd rfl,bY (j:=1) pE.rd rfl,fG pE.rm,nI,↓oq,eV,Cc.cs,bq];refine ct aq (fun z:Nat×Mem=>⟨[⟨35,[],.v (.int .i64 z.1)⟩,⟨34,[],.v (.int .i64 Z.ml)⟩,⟨33,[],.v (.slice Z.ma Z.ml Z.mc)⟩,⟨7,[],.v (.string (bs sl[i]))⟩,⟨23,[],.v (.int .i64 i)⟩,⟨22,[],.v (.int .i64 sl.length)⟩,⟨21,[],.v (.slice sa sl.length sc)⟩,⟨0,[],.v (.pointer (some ad))⟩,⟨3,[],.box 0 0⟩,⟨4,[],.v (.string (bs []))⟩,⟨5,[],.v (.int .i64 0)⟩],[],[⟨0,33,[.v (.int .i64 X.fl),.v (.string (bs X.name)),.v (.string (bs X.super)),.v (.slice X.ia X.il X.ic),.v (.slice X.fa X.fn X.fc),.v (.slice X.ma X.ml X.mc),.v (.slice X.sa X.sl X.sc)]⟩],[],1,z.2⟩)
      (fun z=>ah m z.2/\ah mm z.2/\z.1<=(dv E sl[i]).length/\fg (qU E X.name) ((dv E sl[i]).drop z.1) (fg (qU E X.name) ((sl.drop (i+1)).flatMap (dv E)) (fg (kZ E X.name) (il.flatMap (dv E)) ([],0)))=K) (fun z=>(dv E sl[i]).length - z.1) (0,mm) (by kernel_rfl) (fun _ _=>aU rfl) (fun x hx=>hx.2.1) (fun _=> ?_) ?_ ⟨q0,.inl rfl,aF _,by rw[List.drop_zero];exact q3⟩ ?_
     ·clear hI hM;simp only[go_sem]
     ·clear hI hM;simp only[go_sem];exact rfl
     ·rintro⟨j,m2⟩ ⟨r0,r1,r2,r3⟩;dsimp only at r0 r1 r2 r3;by_cases hjt:j<(dv E sl[i]).length
      ·have j5:((j:Int)<(Z.ml:Int))=True:=eq_true (by clear hI hM;omega);rw[List.drop_eq_getElem_cons hjt,I3] at r3;refine Exists.elim (tz (aM r1 ot) dR (iT (fun _ _=>lg r1) pw) hjt) fun Y hY=> ?_
       have qO:bO Z.ma Z.ml (j:Int)=True:=eq_true ⟨by clear hI hM;omega,by clear hI hM;omega,hY.2.1⟩;have lS:= @cz _ _ _ 8 hY.1 rfl;simp only[Mc.cs] at lS;have hM:=hM m2 r0 _ Y hY.2.2;have hP:qU E X.name (dv E sl[i])[j]=(!decide (bits .and .i64 Y.fl 1024=0)&& !kp E X.name (dv E sl[i])[j]):=by rw[hY.2.2.fl];first |rfl |(unfold qU hasB;rw[Bool.not_not])
       rw[hP,<- hY.2.2.name] at r3;clear hI;simp only[go_sem,j5,qO,lS];refine⟨fun h0=> ?_,fun h0=> ?_⟩;all_goals
        first
         |refine ak ((aC hM fun V=>rfl).mono ?_)
          clear hM;rintro r H' m3 dx ⟨l3,rfl,rfl⟩;by_cases hB:kp E X.name (dv E sl[i])[j]=true
          ·rw[hB,Bool.not_true,Bool.and_false,aa (by decide)] at r3;simp only[go_sem,hB];exact⟨by unfold aB;unfold aw at fY;omega,(j+1,m3),⟨by simp,.inl rfl⟩,⟨ae r0 l3,ae r1 l3,hjt,r3⟩,by omega⟩
          ·have hB:=(Bool.not_eq_true _).mp hB;rw[hB,ab h0] at r3;have r3:(Y.name,74)=K:=r3;simp only[go_sem,hB];subst r3;exact⟨ae r0 l3,rfl,rfl⟩
         |clear hM
          rw[aP h0] at r3;have r3:fg (qU E X.name) ((dv E sl[i]).drop (j+1)) (fg (qU E X.name) ((sl.drop (i+1)).flatMap (dv E)) (fg (kZ E X.name) (il.flatMap (dv E)) ([],0)))=K:=r3;exact⟨by unfold aB;unfold aw at fY;omega,(j+1,m2),⟨by simp,.inl rfl⟩,⟨r0,r1,hjt,r3⟩,by omega⟩
      ·have j5:((j:Int)<(Z.ml:Int))=False:=eq_false (by clear hI hM;omega);rw[List.drop_of_length_le (by clear hI hM;omega)] at r3;have r3:fg (qU E X.name) ((sl.drop (i+1)).flatMap (dv E)) (fg (kZ E X.name) (il.flatMap (dv E)) ([],0))=K:=r3;clear hI hM;simp only[go_sem,j5];exact⟨by unfold aB;omega,(i+1,m2),⟨by simp,.inl rfl⟩,⟨r0,ae q1 r1,an,r3⟩,by omega⟩
    ·have hc:((i:Int)<(sl.length:Int))=False:=eq_false (by clear hI hM;omega);rw[List.drop_of_length_le (by clear hI hM;omega),List.flatMap_nil] at q3;have q3:(fg (kZ E X.name) (il.flatMap (dv E)) ([],0))=K:=q3;have hI:=hI mm q0;simp only[go_sem,hc];refine ak (hI.mono ?_);clear hI;rintro r H' m5 oy ⟨l5,rfl,ia,ic,rfl,g1,g2⟩;have l05:=ae q0 l5;have hI:=True.intro;simp only[go_sem];refine ct aq (fun y:Nat×Mem=>⟨[⟨60,[],.v (.int .i64 y.1)⟩,⟨59,[],.v (.int .i64 il.length)⟩,⟨58,[],.v (.slice ia il.length ic)⟩,⟨0,[],.v (.pointer (some ad))⟩,⟨3,[],.box 0 0⟩,⟨4,[],.v (.string (bs []))⟩,⟨5,[],.v (.int .i64 0)⟩],[],[⟨0,33,[.v (.int .i64 X.fl),.v (.string (bs X.name)),.v (.string (bs X.super)),.v (.slice X.ia X.il X.ic),.v (.slice X.fa X.fn X.fc),.v (.slice X.ma X.ml X.mc),.v (.slice X.sa X.sl X.sc)]⟩],[],1,y.2⟩)
      (fun y=>ah m y.2/\ah m5 y.2/\y.1<=il.length/\fg (kZ E X.name) ((il.drop y.1).flatMap (dv E)) (([],0):CR)=K) (fun y=>il.length - y.1) (0,m5) (by kernel_rfl) (fun _ _=>aU rfl) (fun x hx=>hx.2.1) (fun _=> ?_) ?_ ⟨l05,.inl rfl,aF _,by rw[List.drop_zero];exact q3⟩ ?_
     ·clear hI hM;simp only[go_sem]
     ·clear hI hM;simp only[go_sem];exact rfl
     ·rintro⟨i,mm⟩ ⟨q0,q1,q2,q3⟩;dsimp only at q0 q1 q2 q3;by_cases an:i<il.length
      ·have hc:((i:Int)<(il.length:Int))=True:=eq_true (by clear hI hM;omega);have aL:=kQ (aM q1 g2) an;have av:= @ky _ _ _ _ (aM q1 g2) _ an (.string (bs il[i])) (by unfold strs;rw[List.getElem?_map,List.getElem?_eq_getElem an];rfl);rw[List.drop_eq_getElem_cons an,List.flatMap_cons,J9] at q3;have pE:=hC.up q0;refine Exists.elim (zB mm q0 il[i]) fun Z hZ=> ?_
       have bq:=hZ.1;simp only[Cc.cs] at bq;refine Exists.elim hZ.2.mth fun xs fX=> ?_
       have dR:Z.ml=(dv E il[i]).length:=hZ.2.ml;have fY:(dv E il[i]).length<=aw:=hZ.2.ok.ml;have ot:=fX.1;have pw:eu (gW mm) 8 (dv E il[i]) xs:=fX.2;simp only[go_sem,hc,aL,av,bY (j:=0) pE.rd rfl,bY (j:=1) pE.rd rfl,fG pE.rm,nI,↓oq,eV,Cc.cs,bq];refine ct aq (fun z:Nat×Mem=>⟨[⟨72,[],.v (.int .i64 z.1)⟩,⟨71,[],.v (.int .i64 Z.ml)⟩,⟨70,[],.v (.slice Z.ma Z.ml Z.mc)⟩,⟨11,[],.v (.string (bs il[i]))⟩,⟨60,[],.v (.int .i64 i)⟩,⟨59,[],.v (.int .i64 il.length)⟩,⟨58,[],.v (.slice ia il.length ic)⟩,⟨0,[],.v (.pointer (some ad))⟩,⟨3,[],.box 0 0⟩,⟨4,[],.v (.string (bs []))⟩,⟨5,[],.v (.int .i64 0)⟩],[],[⟨0,33,[.v (.int .i64 X.fl),.v (.string (bs X.name)),.v (.string (bs X.super)),.v (.slice X.ia X.il X.ic),.v (.slice X.fa X.fn X.fc),.v (.slice X.ma X.ml X.mc),.v (.slice X.sa X.sl X.sc)]⟩],[],1,z.2⟩)
        (fun z=>ah m z.2/\ah mm z.2/\z.1<=(dv E il[i]).length/\fg (kZ E X.name) ((dv E il[i]).drop z.1) (fg (kZ E X.name) ((il.drop (i+1)).flatMap (dv E)) (([],0):CR))=K) (fun z=>(dv E il[i]).length - z.1) (0,mm) (by kernel_rfl) (fun _ _=>aU rfl) (fun x hx=>hx.2.1) (fun _=> ?_) ?_ ⟨q0,.inl rfl,aF _,by rw[List.drop_zero];exact q3⟩ ?_
       ·clear hI hM;simp only[go_sem]
       ·clear hI hM;simp only[go_sem];exact rfl
       ·rintro⟨j,m2⟩ ⟨r0,r1,r2,r3⟩;dsimp only at r0 r1 r2 r3;by_cases hjt:j<(dv E il[i]).length
        ·have j5:((j:Int)<(Z.ml:Int))=True:=eq_true (by clear hI hM;omega);rw[List.drop_eq_getElem_cons hjt,I3] at r3;refine Exists.elim (tz (aM r1 ot) dR (iT (fun _ _=>lg r1) pw) hjt) fun Y hY=> ?_
         have qO:bO Z.ma Z.ml (j:Int)=True:=eq_true ⟨by clear hI hM;omega,by clear hI hM;omega,hY.2.1⟩;have lS:= @cz _ _ _ 8 hY.1 rfl;simp only[Mc.cs] at lS;have hM:=hM m2 r0 _ Y hY.2.2;have hP:kZ E X.name (dv E il[i])[j]=(decide (bits .and .i64 Y.fl 8=0)&& !kp E X.name (dv E il[i])[j]):=by rw[hY.2.2.fl];first |rfl |(unfold kZ hasB;rw[Bool.not_not])
         rw[hP,<- hY.2.2.name] at r3;clear hI;simp only[go_sem,j5,qO,lS];refine⟨fun h0=> ?_,fun h0=> ?_⟩;all_goals
          first
           |refine ak ((aC hM fun V=>rfl).mono ?_)
            clear hM;rintro r H' m3 dx ⟨l3,rfl,rfl⟩;by_cases hB:kp E X.name (dv E il[i])[j]=true
            ·rw[hB,Bool.not_true,Bool.and_false,aa (by decide)] at r3;simp only[go_sem,hB];exact⟨by unfold aB;unfold aw at fY;omega,(j+1,m3),⟨by simp,.inl rfl⟩,⟨ae r0 l3,ae r1 l3,hjt,r3⟩,by omega⟩
            ·have hB:=(Bool.not_eq_true _).mp hB;rw[hB,aP h0] at r3;have r3:(Y.name,74)=K:=r3;simp only[go_sem,hB];subst r3;exact⟨ae r0 l3,rfl,rfl⟩
           |clear hM
            rw[ab h0] at r3;have r3:fg (kZ E X.name) ((dv E il[i]).drop (j+1)) (fg (kZ E X.name) ((il.drop (i+1)).flatMap (dv E)) (([],0):CR))=K:=r3;exact⟨by unfold aB;unfold aw at fY;omega,(j+1,m2),⟨by simp,.inl rfl⟩,⟨r0,r1,hjt,r3⟩,by omega⟩
        ·have j5:((j:Int)<(Z.ml:Int))=False:=eq_false (by clear hI hM;omega);rw[List.drop_of_length_le (by clear hI hM;omega)] at r3;have r3:fg (kZ E X.name) ((il.drop (i+1)).flatMap (dv E)) (([],0):CR)=K:=r3;clear hI hM;simp only[go_sem,j5];exact⟨by unfold aB;omega,(i+1,m2),⟨by simp,.inl rfl⟩,⟨r0,ae q1 r1,an,r3⟩,by omega⟩
      ·have hc:((i:Int)<(il.length:Int))=False:=eq_false (by clear hI hM;omega);rw[List.drop_of_length_le (by clear hI hM;omega),List.flatMap_nil] at q3;have q3:(([],0):CR)=K:=q3;clear hI hM;simp only[go_sem,hc];subst q3;exact⟨q0,rfl,rfl⟩
end
def oh (E:List Cd) (m:Md) (s:Nm):Bool:=match cM E s m.name m.params.length with
 |some g=> !hasB g.fl 2&&vC m g
 |none=>false
def BS (E:List Cd) (d:Cd) (m:Md):Bool:= !decide (m.name=bB)&&((bP E d.name).tail++cH E d.name).any (oh E m)
theorem H4 (E:List Cd) (d:Cd):pV E d=match d.fields.find? fun f=>(fk E d.super f.name).isSome with
 |some f=>(f.name,73)
 |none=>match d.methods.find? (BS E d) with
  |some m=>(m.name,73)
  |none=>([],0):=rfl
theorem tA {α:Type} {p:Prop} [Decidable p] {a b:α×Int} (h:(if p then a else b).2=0):(p/\a.2=0)\/(¬p/\b.2=0):=by
 by_cases hp:p
 ·rw[ai hp] at h;exact .inl ⟨hp,h⟩
 ·rw[aa hp] at h;exact .inr ⟨hp,h⟩
section
variable {E pr:List Cd}
theorem CB {n:Nat}:∀{l:List Nat},(kG E pr n l).2.2=0↔∀i∈l,(ei E pr n i).2=0
 |[]=>⟨fun _ i hi=>(by cases hi),fun _=>rfl⟩
 |i::r=>by
  rw[kG];by_cases h:(ei E pr n i).2=0
  ·rw[ai h,CB];exact⟨fun q j hj=>(List.mem_cons.1 hj).elim (fun e=>by rw[e];exact h) (q j),fun q j hj=>q j (bt _ hj)⟩
  ·rw[aa h];exact⟨fun q=>absurd q h,fun q=>absurd (q i (bL ..)) h⟩
theorem Hc:∀{l:List Nat},(mE E pr l).2.2=0↔∀n∈l,∀i,i<pr.length->(ei E pr n i).2=0
 |[]=>⟨fun _ n hn=>(by cases hn),fun _=>rfl⟩
 |n::r=>by
  rw[mE];by_cases h:(kG E pr n (List.range pr.length)).2.2=0
  ·rw[ai h,Hc];have h' :=CB.1 h;exact⟨fun q j hj=>(List.mem_cons.1 hj).elim (fun e=>by rw[e];exact fun i hi=>h' i (List.mem_range.2 hi)) (q j),fun q j hj=>q j (bt _ hj)⟩
  ·rw[aa h];exact⟨fun q=>absurd q h,fun q=>absurd (CB.2 fun i hi=>q n (bL ..) i (List.mem_range.1 hi)) h⟩
structure Acc (E pr:List Cd):Prop where
 p1:∀d∈pr,(rr E d).2=0
 p2:∀d∈pr,(n7 E d).2=0
 p3:∀d∈pr,(nU E d).2=0
 p4:∀d∈pr,(pV E d).2=0
 p5:∀d∈pr,(nN E d).2=0
 p6:∀i,i<pr.length->(qi E pr i).2=0
theorem nE {i:Nat} (hi:i<pr.length):pr.getD i ej=pr[i]:=by rw[List.getD_eq_getElem?_getD,List.getElem?_eq_getElem hi];rfl
theorem oO {P:Cd->Prop}:(∀i,i<pr.length->P (pr.getD i ej))↔∀d∈pr,P d:=by
 constructor
 ·intro h d hd;obtain⟨i,hi,rfl⟩:=List.getElem_of_mem hd;rw[<- nE hi];exact h i hi
 ·intro h i hi;rw[nE hi];exact h _ (List.getElem_mem hi)
theorem Ux:(mE E pr [1,2,3,4,5,6]).2.2=0↔Acc E pr:=by
 rw[Hc];constructor
 ·intro h;exact⟨oO.1 fun i hi=>h 1 (by simp) i hi,oO.1 fun i hi=>h 2 (by simp) i hi,oO.1 fun i hi=>h 3 (by simp) i hi,oO.1 fun i hi=>h 4 (by simp) i hi,oO.1 fun i hi=>h 5 (by simp) i hi,fun i hi=>h 6 (by simp) i hi⟩
 ·intro h n hn i hi;simp only[List.mem_cons,List.not_mem_nil,or_false] at hn;rcases hn with rfl |rfl |rfl |rfl |rfl |rfl
  ·exact oO.2 h.p1 i hi
  ·exact oO.2 h.p2 i hi
  ·exact oO.2 h.p3 i hi
  ·exact oO.2 h.p4 i hi
  ·exact oO.2 h.p5 i hi
  ·exact h.p6 i hi
theorem Gf {B:List Cd}:(lj B pr).2.2=0↔(dS [] pr).2=0/\Acc (pr++B) pr:=by
 unfold lj;by_cases h:(dS [] pr).2=0
 ·rw[ai h,Ux];exact⟨fun q=>⟨h,q⟩,fun q=>q.2⟩
 ·rw[aa h];exact⟨fun q=>absurd q h,fun q=>absurd q.1 h⟩
structure NmsOk (E:List Cd) (d:Cd):Prop where
 pre:mG.isPrefixOf d.name=false
 sup:(cls E d.super).isSome=true
 ifs:∀s∈d.ifs,(cls E s).isSome=true
 fld:∀f∈d.fields,cu E f.ty=true
 par:∀m∈d.methods,∀p∈m.params,cu E p.ty=true
 res:∀m∈d.methods,cu E m.res=true
theorem Ra {α:Type} {o:Option α} (h:o.isNone=false):o.isSome=true:=by cases o<;>simp_all
theorem xh {α:Type} {P:α->Bool} {l:List α}:l.find? P=none↔∀x∈l,P x=false:=by
 rw[List.find?_eq_none];exact⟨fun h x hx=>(Bool.not_eq_true _).mp (h x hx),fun h x hx=>by rw[h x hx];decide⟩
theorem wW {d:Cd}:(rr E d).2=0↔NmsOk E d:=by
 unfold rr;constructor
 ·intro h;rcases tA h with ⟨_,h⟩ |⟨h1,h⟩
  ·cases h
  ·have h1:=(Bool.not_eq_true _).mp h1;rw[Bool.or_eq_false_iff] at h1;split at h
   ·cases h
   ·rename_i hf;split at h
    ·cases h
    ·rename_i hm;rw[xh] at hf hm;have h2:=List.any_eq_false.1 h1.2;have h3:∀s∈d.super::d.ifs,(cls E s).isSome=true:=fun s hs=>Ra ((Bool.not_eq_true _).mp (h2 s hs))
     refine⟨h1.1,h3 _ (bL ..),fun s hs=>h3 s (bt _ hs),fun f q=>by simpa using hf f q,fun m q p hp=> ?_,fun m q=> ?_⟩
     ·have:=hm m q;rw[Bool.or_eq_false_iff] at this;have:=List.any_eq_false.1 this.1 p hp;simpa using this
     ·have:=hm m q;rw[Bool.or_eq_false_iff] at this;simpa using this.2
 ·intro h;have e1:(mG.isPrefixOf d.name||(d.super::d.ifs).any fun s=>(cls E s).isNone)=false:=by
   rw[Bool.or_eq_false_iff];refine⟨h.pre,List.any_eq_false.2 fun s hs=> ?_⟩;have:(cls E s).isSome=true:=by
    rcases List.mem_cons.1 hs with rfl |hs
    ·exact h.sup
    ·exact h.ifs s hs
   intro hn;rw[Option.isNone_iff_eq_none.1 hn] at this;cases this
  have e2:(d.fields.find? fun f=> !cu E f.ty)=none:=xh.2 fun f hf=>by rw[h.fld f hf];rfl
  have e3:(d.methods.find? fun m=>(m.params.any fun p=> !cu E p.ty)|| !cu E m.res)=none:=xh.2 fun m hm=>by
   rw[Bool.or_eq_false_iff];exact⟨List.any_eq_false.2 fun p hp=>by simp [h.par m hm p hp],by rw[h.res m hm];rfl⟩
  rw[e1,e2,e3];rfl
theorem CX {i:Nat}:∀{l:List Md},(mK E pr i l).2=0↔∀m∈l,m.hb=true->jO E pr i m=0
 |[]=>⟨fun _ m hm=>(by cases hm),fun _=>rfl⟩
 |m::r=>by
  rw[mK];by_cases h:m.hb=true/\jO E pr i m≠0
  ·rw[ai h];exact⟨fun q=>absurd q h.2,fun q=>absurd (q m (bL ..) h.1) h.2⟩
  ·rw[aa h,CX];refine⟨fun q x hx=> ?_,fun q x hx=>q x (bt _ hx)⟩;rcases List.mem_cons.1 hx with rfl |hx
   ·exact fun hb=>Classical.byContradiction fun h0=>h ⟨hb,h0⟩
   ·exact q x hx
structure BodsOk (E pr:List Cd) (i:Nat):Prop where
 mth:∀m∈(pr.getD i ej).methods,m.hb=true->jO E pr i m=0
 con:hasB (pr.getD i ej).fl 512=false->((pr.getD i ej).methods.any fun m=>decide (m.name=bB))=false->gr E ⟨pr,i,false,false,fQ,[]⟩ []=0
 ini:bT E ⟨pr,i,true,false,fQ,[]⟩ false (pr.getD i ej).init=0
theorem Dg {i:Nat}:(qi E pr i).2=0↔BodsOk E pr i:=by
 unfold qi;by_cases h:(mK E pr i (pr.getD i ej).methods).2=0
 ·rw[aa (by simpa using h)];by_cases h2:hasB (pr.getD i ej).fl 512=false/\((pr.getD i ej).methods.any fun m=>decide (m.name=bB))=false/\gr E ⟨pr,i,false,false,fQ,[]⟩ []≠0
  ·rw[ai h2];exact⟨fun q=>absurd q h2.2.2,fun q=>absurd (q.con h2.1 h2.2.1) h2.2.2⟩
  ·rw[aa h2];by_cases h3:bT E ⟨pr,i,true,false,fQ,[]⟩ false (pr.getD i ej).init=0
   ·rw[ai h3];exact⟨fun _=>⟨CX.1 h,fun q1 q2=>Classical.byContradiction fun h0=>h2 ⟨q1,q2,h0⟩,h3⟩,fun _=>rfl⟩
   ·rw[aa h3];exact⟨fun q=>absurd q h3,fun q=>absurd q.ini h3⟩
 ·rw[ai h];exact⟨fun q=>absurd q h,fun q=>absurd (CX.2 q.mth) h⟩
end
theorem aae (X:BitVec 64):X&&& 8#64=0#64↔X.getLsbD 3=false:=by
 have h:(8#64:BitVec 64)=BitVec.twoPow 64 3:=by decide
 rw[h,BitVec.and_twoPow];cases X.getLsbD 3 with
 |false=>simp
 |true=>
  simp only[if_true,reduceCtorEq,iff_false];decide
theorem Jf (V:BitVec 64):BitVec.ofInt 64 (IntKind.i64.wrap (V.toNat:Int))=V:=by
 apply BitVec.eq_of_toNat_eq
 rw[BitVec.toNat_ofInt];have h:=V.isLt;unfold IntKind.wrap;simp only[IntKind.bits,IntKind.signed];have e:((2:Int) ^ 64)=18446744073709551616:=by decide
 have e1:((2:Int) ^ (64 - 1))=9223372036854775808:=by decide
 have e2:((2:Nat) ^ 64)=18446744073709551616:=by decide
 rw[e2] at h;simp only[e,e1,Bool.true_and,cS];split<;>omega
theorem ED (x:Int):bits .and .i64 x 8=0↔(BitVec.ofInt 64 x).getLsbD 3=false:=by
 rw[<- aae];have h8:BitVec.ofInt 64 8=8#64:=by decide
 show IntKind.i64.wrap ((BitVec.ofInt 64 x&&& BitVec.ofInt 64 8).toNat:Int)=0↔_;rw[h8];constructor
 ·intro h;rw[<- Jf (BitVec.ofInt 64 x&&& 8#64),h];rfl
 ·intro h;rw[h];rfl
theorem Yb (a b:Int):bits .and .i64 (bits .xor .i64 a b) 8=0↔(bits .and .i64 a 8=0↔bits .and .i64 b 8=0):=by
 rw[ED,ED,ED];have:BitVec.ofInt 64 (bits .xor .i64 a b)=BitVec.ofInt 64 a ^^^ BitVec.ofInt 64 b:=Jf _;rw[this,BitVec.getLsbD_xor];cases (BitVec.ofInt 64 a).getLsbD 3<;>cases (BitVec.ofInt 64 b).getLsbD 3<;>simp
theorem Sa (a b:Int):(hasB a 8==hasB b 8)=decide (bits .and .i64 (bits .xor .i64 a b) 8=0):=by
 rw[Bool.eq_iff_iff,cS,Yb,beq_iff_eq];unfold hasB;by_cases h1:bits .and .i64 a 8=0<;>by_cases h2:bits .and .i64 b 8=0<;>simp [h1,h2]
def fvO:Option (Nm×Fc)->Nm |some x=>x.1 |none=>[]
def zI:Option (Nm×Fc)->Fc |some x=>x.2 |none=>⟨0,aj,[]⟩
theorem Pr (o:Option (Nm×Fc)):pR o= .tuple ⟨[.string (bs (fvO o)),.agg ⟨[.int .i64 (zI o).fl,.int .i64 (zI o).ty.dim,.int .u8 (zI o).ty.base,.string (bs (zI o).ty.name),.string (bs (zI o).name)]⟩,.bool o.isSome]⟩:=by
 cases o<;>rfl
def BP:List Value->Option (Prop×Value)
 |[.int .i64 k]=>some (True,.int .i64 (rI k))
 |_=>none
attribute [go_sem] BP.eq_1
theorem Vh:∀aN y,BP aN=some y->y.1->∀m,FnH Tryz.prog 163 (aN.map SV.v) ⟨[],[]⟩ m fun r H' _=>r= .v y.2/\H' =⟨[],[]⟩:=fun aN y hy hB m=>by
 unfold BP at hy;split at hy
 ·rename_i k;cases hy;exact Qn k m
 ·cases hy
abbrev Lx (pr E:List Cd):Cfg:=kI (fun _=>false) [(43,vB pr E fun s n=>pR (fk E s n)),(163,fun _=>BP)]
theorem yA (pr E:List Cd):cw (Lx pr E) Tryz.prog:=fz (by kernel_rfl) (Dx fun p s n m h=>by obtain⟨ad,b,a,c,L,rfl,hC⟩:=h;exact HG s n m hC) (fz (by kernel_rfl) (fun m aN y hy hB=>Vh aN y hy hB m) ra)
def ze (E:List Cd) (s:Nm) (l:List Fc) (R:CR):CR:=match l.find? fun f=>(fk E s f.name).isSome with
 |some f=>(f.name,73)
 |none=>R
theorem QM (E:List Cd) (s:Nm) (f:Fc) (r:List Fc) (R:CR):ze E s (f::r) R=if(fk E s f.name).isSome=true then(f.name,73) else ze E s r R:=by
 unfold ze;rw[List.find?_cons];cases (fk E s f.name).isSome<;>rfl
def og (E:List Cd) (W:List Nm) (l:List Md):CR:=match l.find? fun m=> !decide (m.name=bB)&&W.any (oh E m) with
 |some m=>(m.name,73)
 |none=>([],0)
theorem QL (E:List Cd) (W:List Nm) (m:Md) (r:List Md):og E W (m::r)=if(!decide (m.name=bB)&&W.any (oh E m))=true then(m.name,73) else og E W r:=by
 unfold og;rw[List.find?_cons];cases (!decide (m.name=bB)&&W.any (oh E m))<;>rfl
theorem Ot (E:List Cd) (d:Cd):pV E d=ze E d.super d.fields (og E ((bP E d.name).tail++cH E d.name) d.methods):=rfl
theorem GJ {E:List Cd}:∀{f:Nat} {out:List Nm} {s x:Nm},x∈out->x∈fT E f out s
 |0,_,_,_,h=>h
 |f+1,out,s,x,h=>by
  rw[fT];cases hc:cls E s with
  |none=>exact h
  |some d=>
   dsimp only;split
   ·exact h
   ·exact GJ (List.mem_append_left _ h)
section
variable {ad:Addr} {pr E:List Cd} {b:Nat} {a:Option Addr} {c:Nat} {L:List Cc}
theorem QK (d:Cd) (X:Cc) (m:Mem) (hC:Ck m ad pr E b a c L) (hX:CdX m d X) (Mn:(cls E d.name).isSome=true):FnH Tryz.prog 70 [.v (.pointer (some ad)),.v (.agg ⟨X.cs⟩)] ⟨[],[]⟩ m (lZ m (pV E d)):=by
 have hK:=Ot E d;have hS:=GI X.name m hC;have fe:=(ir E X.name).ctx hC;have hI:=fun m' (hle:ah m m')=>uS X.name m' (hC.up hle)
 have jD:=(ld E X.name).ctx hC;have hD:=fun m' (hle:ah m m') s n k=>uW s n k m' (hC.up hle)
 have aR:=fun m' (hle:ah m m')=>(hC.up hle).chk
 have hT:=fun m' (x y:Md) (Y Z:Mc) (hx:MdX m' x Y) (hy:MdX m' y Z)=>Hb x y Y Z m' hx hy
 have cv:1<=(bP E X.name).length:=by
  rw[hX.name];obtain⟨e,he⟩:=Option.isSome_iff_exists.1 Mn;unfold bP;rw[fT,he];dsimp only;rw[aa (by simp)];exact dk (by simp) (List.length_pos_of_mem (GJ (E:=E) (f:=E.length) (out:=[]++[d.name]) (s:=e.super) (x:=d.name) (by simp)))
 have lU:=hX.fds;have ep:=hX.fn;have gC:=hX.ok.fn;have ox:=hX.mth;have dR:=hX.ml;have fY:=hX.ok.ml;rw[<- hX.name,<- hX.sup] at hK;clear hX Mn;revert hK hS fe hI jD cv lU ep gC ox dR fY;generalize pV E d=K
 generalize bP E X.name=sl
 generalize cH E X.name=il
 generalize d.fields=fl
 generalize d.methods=ml
 intro hK hS fe hI jD cv lU ep gC ox dR fY;simp only[Mc.cs] at hT;refine enter (Lx pr E) (yA pr E) Tryz.func70 rfl rfl (by kernel_rfl) rfl ?_ ?_
 ·clear hS hI hD hT;simp only[go_sem,Cc.cs]
 ·simp only[go_sem,Cc.cs];refine ak (hS.mono ?_);clear hS;rintro r H' m1 aQ ⟨l1,u,rfl,rfl⟩;have ZE:=aR m1 l1;have ZD:=aM l1 lU;have Zy:((1:Int)<=(sl.length:Int))=True:=eq_true (by clear hI hD hT;omega);simp only[go_sem,Zy]
  refine⟨by decide,ct (yA pr E) (fun i:Nat=>⟨[⟨26,[],.v (.int .i64 i)⟩,⟨25,[],.v (.int .i64 X.fn)⟩,⟨24,[],.v (.slice X.fa X.fn X.fc)⟩,⟨6,[],.vo 1 u 1 1⟩,⟨0,[],.v (.pointer (some ad))⟩,⟨3,[],.box 0 0⟩,⟨4,[],.v (.string (bs []))⟩,⟨5,[],.v (.int .i64 0)⟩],[],[⟨0,33,[.v (.int .i64 X.fl),.v (.string (bs X.name)),.v (.string (bs X.super)),.v (.slice X.ia X.il X.ic),.v (.slice X.fa X.fn X.fc),.v (.slice X.ma X.ml X.mc),.v (.slice X.sa X.sl X.sc)]⟩],[⟨1,u,9,1,sl.length,strs sl⟩],2,m1⟩)
   (fun i=>i<=fl.length/\ze E X.super (fl.drop i) (og E (sl.tail++il) ml)=K) (fun i=>fl.length - i) 0 (by kernel_rfl) (fun _ _=>aU rfl) (fun x hx=> .inl rfl) (fun _=> ?_) ?_ ⟨aF _,by rw[List.drop_zero];exact hK.symm⟩ ?_⟩
  ·clear hI hD hT;simp only[go_sem]
  ·clear hI hD hT;simp only[go_sem];first |exact rfl |exact⟨rfl,rfl⟩
  ·rintro i ⟨i1,i2⟩;by_cases an:i<fl.length
   ·have hc:((i:Int)<(X.fn:Int))=True:=eq_true (by clear hI hD hT;omega);rw[List.drop_eq_getElem_cons an,QM] at i2;have lV:=dK ZD (by clear hI hD hT;omega:i<X.fn);rw[my (f:=Fc.cs) (sz:=5) (fun _=>rfl) an] at lV;have aL:bO X.fa X.fn (i:Int)=True:=eq_true ⟨by clear hI hD hT;omega,by clear hI hD hT;omega,lV.2⟩;have av:= @cz _ _ _ 5 lV.1 rfl;simp only[Fc.cs] at av;clear hI hD hT;simp only[go_sem,hc,aL,av,ZE,Pr];refine⟨fun h=> ?_,fun h=> ?_⟩
    ·rw[ai h] at i2;subst i2;exact⟨l1,rfl,rfl⟩
    ·rw[aa (by rw[h];decide)] at i2;exact⟨by unfold aB;unfold aw at gC;omega,i+1,by simp,⟨an,i2⟩,by omega⟩
   ·have hc:((i:Int)<(X.fn:Int))=False:=eq_false (by clear hI hD hT;omega);rw[List.drop_of_length_le (by clear hI hD hT;omega)] at i2;have i2:og E (sl.tail++il) ml=K:=i2;have hI:=hI m1 l1;simp only[go_sem,hc];refine ak (hI.mono ?_);clear hI;rintro r H' m5 oy ⟨l5,rfl,ia,ic,rfl,g1,g2⟩;have l15:=ae l1 l5;simp only[go_sem];refine⟨cv,strs il,g2,?_,?_,fun wa wc m6 e1 e2 e3=> ?_⟩
    ·intro v hv;unfold strs at hv;obtain⟨x,_,rfl⟩:=List.mem_map.1 hv;rfl
    ·exact AV (by clear hD hT;omega) (by decide)
    have hW:ax m6 wa (sl.length - 1+il.length) 1 (strs (sl.tail++il)):=by
     have:strs (sl.tail++il)=List.drop 1 (strs sl)++strs il:=by unfold strs;rw[List.map_append,List.drop_one,List.map_tail]
     rw[this];exact e3
    have hWl:(sl.tail++il).length=sl.length - 1+il.length:=by rw[aZ,List.length_tail]
    have l16:=ae l15 (.inr e1);refine ct (yA pr E) (fun y:Nat×Mem=>⟨[⟨53,[],.v (.int .i64 y.1)⟩,⟨52,[],.v (.int .i64 X.ml)⟩,⟨51,[],.v (.slice X.ma X.ml X.mc)⟩,⟨6,[],.v (.slice wa (sl.length - 1+il.length) wc)⟩,⟨0,[],.v (.pointer (some ad))⟩,⟨3,[],.box 0 0⟩,⟨4,[],.v (.string (bs []))⟩,⟨5,[],.v (.int .i64 0)⟩],[],[⟨0,33,[.v (.int .i64 X.fl),.v (.string (bs X.name)),.v (.string (bs X.super)),.v (.slice X.ia X.il X.ic),.v (.slice X.fa X.fn X.fc),.v (.slice X.ma X.ml X.mc),.v (.slice X.sa X.sl X.sc)]⟩],[],3,y.2⟩)
     (fun y=>ah m y.2/\ah m6 y.2/\y.1<=ml.length/\og E (sl.tail++il) (ml.drop y.1)=K) (fun y=>ml.length - y.1) (0,m6) (by kernel_rfl) (fun _ _=>aU rfl) (fun x hx=>hx.2.1) (fun _=> ?_) ?_ ⟨l16,.inl rfl,aF _,by rw[List.drop_zero];exact i2⟩ ?_
    ·clear hD hT;simp only[go_sem]
    ·clear hD hT;simp only[go_sem];exact rfl
    ·rintro⟨j,mm⟩ ⟨q0,q1,q2,q3⟩;dsimp only at q0 q1 q2 q3;by_cases hjt:j<ml.length
     ·have hc:((j:Int)<(X.ml:Int))=True:=eq_true (by clear hD hT;omega);rw[List.drop_eq_getElem_cons hjt,QL] at q3;refine Exists.elim ox fun xs fX=> ?_
      refine Exists.elim (tz (aM q0 fX.1) dR (iT (fun _ _=>lg q0) fX.2) hjt) fun Y hY=> ?_
      have aL:bO X.ma X.ml (j:Int)=True:=eq_true ⟨by clear hD hT;omega,by clear hD hT;omega,hY.2.1⟩;have av:= @cz _ _ _ 8 hY.1 rfl;simp only[Mc.cs] at av;rw[<- hY.2.2.name] at q3;by_cases bg:Y.name=bB
      ·have hi:(Y.name=[60,105,110,105,116,62])=True:=eq_true bg;rw[aP bg] at q3;have q3:og E (sl.tail++il) (ml.drop (j+1))=K:=q3;clear hD hT;simp only[go_sem,hc,aL,av,hi];exact⟨by unfold aB;unfold aw at fY;omega,(j+1,mm),⟨by simp,.inl rfl⟩,⟨q0,q1,hjt,q3⟩,by omega⟩
      ·have hi:(Y.name=[60,105,110,105,116,62])=False:=eq_false bg;rw[ab bg,Bool.not_false,Bool.true_and] at q3;have hk0:(if((sl.tail++il).drop 0).any (oh E ml[j])=true then((Y.name,73):CR) else og E (sl.tail++il) (ml.drop (j+1)))=K:=by rw[List.drop_zero];exact q3
       simp only[go_sem,hc,aL,av,hi];refine ct (yA pr E) (fun z:Nat×Mem=>⟨[⟨62,[],.v (.int .i64 z.1)⟩,⟨61,[],.v (.int .i64 (sl.length - 1+il.length:Nat))⟩,⟨60,[],.v (.slice wa (sl.length - 1+il.length) wc)⟩,⟨13,[],.box 3 0⟩,⟨53,[],.v (.int .i64 j)⟩,⟨52,[],.v (.int .i64 X.ml)⟩,⟨51,[],.v (.slice X.ma X.ml X.mc)⟩,⟨6,[],.v (.slice wa (sl.length - 1+il.length) wc)⟩,⟨0,[],.v (.pointer (some ad))⟩,⟨3,[],.box 0 0⟩,⟨4,[],.v (.string (bs []))⟩,⟨5,[],.v (.int .i64 0)⟩],[],[⟨3,45,[.v (.int .i64 Y.fl),.v (.int .i64 Y.res.dim),.v (.int .u8 Y.res.base),.v (.string (bs Y.res.name)),.v (.string (bs Y.name)),.v (.slice Y.pa Y.pl Y.pc),.v (.bool Y.hb),.v (.slice Y.a Y.l Y.cp)]⟩,⟨0,33,[.v (.int .i64 X.fl),.v (.string (bs X.name)),.v (.string (bs X.super)),.v (.slice X.ia X.il X.ic),.v (.slice X.fa X.fn X.fc),.v (.slice X.ma X.ml X.mc),.v (.slice X.sa X.sl X.sc)]⟩],[],4,z.2⟩)
        (fun z=>ah m z.2/\ah mm z.2/\z.1<=(sl.tail++il).length/\(if((sl.tail++il).drop z.1).any (oh E ml[j])=true then((Y.name,73):CR) else og E (sl.tail++il) (ml.drop (j+1)))=K) (fun z=>(sl.tail++il).length - z.1) (0,mm) (by kernel_rfl) (fun _ _=>aU rfl) (fun x hx=>hx.2.1) (fun _=> ?_) ?_ ⟨q0,.inl rfl,aF _,hk0⟩ ?_
       ·clear hD hT;simp only[go_sem]
       ·clear hD hT;simp only[go_sem];exact rfl
       ·rintro⟨k,m2⟩ ⟨r0,r1,r2,r3⟩;dsimp only at r0 r1 r2 r3;by_cases lR:k<(sl.tail++il).length
        ·have uB:((k:Int)<((sl.length - 1+il.length:Nat):Int))=True:=eq_true (by clear hD hT;omega);rw[List.drop_eq_getElem_cons lR,List.any_cons] at r3;have kX:=aM (ae q1 r1) hW;have uz:k<sl.length - 1+il.length:=by clear hD hT;omega
         have zA:=kQ kX uz;have wH:= @ky _ _ _ _ kX _ uz (.string (bs (sl.tail++il)[k])) (by unfold strs;rw[List.getElem?_map,List.getElem?_eq_getElem lR];rfl);have hD:=hD m2 r0 (sl.tail++il)[k] Y.name Y.pl;have Cb:=hY.2.2.up r1
         have B7:oh E ml[j] (sl.tail++il)[k]=(match cM E (sl.tail++il)[k] Y.name Y.pl with
          |some g=> !hasB g.fl 2&&vC ml[j] g
          |none=>false):=by rw[Cb.name,Cb.pl];rfl
         simp only[go_sem,uB,zA,wH];refine ak (hD.mono ?_);clear hD;rintro r H' m3 dx ⟨rfl,rfl,Z,hA,rfl⟩;by_cases hb:(cM E (sl.tail++il)[k] Y.name Y.pl).isSome=true
         ·refine Exists.elim (Option.isSome_iff_exists.1 hb) fun g hg=> ?_
          have hZ:MdX m3 g Z:=by
           have h:=hA;rw[hg] at h;exact h
          have B7:oh E ml[j] (sl.tail++il)[k]=(!hasB g.fl 2&&vC ml[j] g):=by rw[B7,hg]
          rw[B7] at r3;have Me:hasB g.fl 2= !decide (bits .and .i64 Z.fl 2=0):=by rw[hZ.fl];rfl
          rw[Me,Bool.not_not] at r3;by_cases hp:bits .and .i64 Z.fl 2=0
          ·have dQ:=eq_true hp;have XE:vC ml[j] g=(!mD ml[j] g|| !decide (bits .and .i64 (bits .xor .i64 Y.fl Z.fl) 8=0)||decide (rI Y.fl<rI Z.fl)|| !decide (bits .and .i64 Z.fl 16=0)):=by
            unfold vC;rw[Sa,<- Cb.fl,<- hZ.fl];rfl
           rw[aP hp,Bool.true_and,XE] at r3;have hT:=hT m3 ml[j] g Y Z Cb hZ;simp only[go_sem,Mc.cs,hb,dQ];refine bX (.hoist 0 (.hoist 1 (.alt 2 [] (.hoist 3 (.hoist 4 (.hoist 5 (.hoist 6 (.hoist 7 (.hoist 8 (.hoist 9 (.hoist 10 (.hoist 11 (.hoist 12 (.hoist 13 (.hoist 14 (.hoist 15 (.hoist 17 (.hoist 18 (.alt 16 [18,17] (.alt 19 [] (.hoist 20 (.hoist 21 (.hoist 22 (.hoist 23 (.hoist 24 (.hoist 25 (.hoist 26 (.hoist 27 .done)))))))) .stop) .stop)))))))))))))))) .stop))) (yA pr E) (by kernel_rfl) (by kernel_rfl) ?_;simp only[go_sem];refine ak ((aC hT fun V=>rfl).mono ?_);clear hT;rintro r H' m4 iF ⟨l4,rfl,rfl⟩;have qM:=eq_true l4;have ua:=ae r0 l4;have r14:=ae r1 l4;by_cases hs:mD ml[j] g=true
           ·rw[hs,Bool.not_true,Bool.false_or] at r3;simp only[go_sem,hs,qM,and_self];refine⟨fun h=> ?_,fun h=> ?_⟩
            ·rw[ai] at r3
             ·subst r3;exact⟨ua,rfl,rfl⟩
             ·rcases h with (h |h) |h
              ·rw[ab h,Bool.not_false,Bool.true_or,Bool.true_or,Bool.true_or]
              ·rw[aP h,Bool.or_true,Bool.true_or,Bool.true_or]
              ·rw[ab h,Bool.not_false,Bool.or_true,Bool.true_or]
            ·rw[aP h.1.1,ab h.1.2,aP h.2] at r3;have r3:(if((sl.tail++il).drop (k+1)).any (oh E ml[j])=true then((Y.name,73):CR) else og E (sl.tail++il) (ml.drop (j+1)))=K:=r3;exact⟨by unfold aB;omega,(k+1,m4),⟨by simp,.inl rfl⟩,⟨ua,r14,lR,r3⟩,by omega⟩
           ·have hs:=(Bool.not_eq_true _).mp hs;rw[hs,Bool.not_false,Bool.true_or,Bool.true_or,Bool.true_or,Bool.true_or,ai rfl] at r3;subst r3;simp only[go_sem,hs,qM,and_self];exact⟨ua,rfl,rfl⟩
          ·have dQ:=eq_false hp;rw[ab hp,Bool.false_and,Bool.false_or] at r3;clear hT;simp only[go_sem,Mc.cs,hb,dQ];exact⟨by unfold aB;omega,(k+1,m3),⟨by simp,.inl rfl⟩,⟨r0,r1,lR,r3⟩,by omega⟩
         ·have hb:=(Bool.not_eq_true _).mp hb;have hf:oh E ml[j] (sl.tail++il)[k]=false:=by
           rw[B7];revert hb;cases cM E (sl.tail++il)[k] Y.name Y.pl with
           |none=>exact fun _=>rfl
           |some g=>exact fun h=>by cases h
          rw[hf,Bool.false_or] at r3;clear hT;simp only[go_sem,Mc.cs,hb];exact⟨by unfold aB;omega,(k+1,m3),⟨by simp,.inl rfl⟩,⟨r0,r1,lR,r3⟩,by omega⟩
        ·have uB:((k:Int)<((sl.length - 1+il.length:Nat):Int))=False:=eq_false (by clear hD hT;omega);rw[List.drop_of_length_le (by clear hD hT;omega),List.any_nil,aa (by decide)] at r3;clear hD hT;simp only[go_sem,uB];exact⟨by unfold aB;unfold aw at fY;omega,(j+1,m2),⟨by simp,.inl rfl⟩,⟨r0,ae q1 r1,hjt,r3⟩,by omega⟩
     ·have hc:((j:Int)<(X.ml:Int))=False:=eq_false (by clear hD hT;omega);rw[List.drop_of_length_le (by clear hD hT;omega)] at q3;have q3:(([],0):CR)=K:=q3;clear hD hT;simp only[go_sem,hc];subst q3;exact⟨q0,rfl,rfl⟩
end
theorem Ry {l:List Pc} {i:Nat} (hi:i<l.length):(l.take (i+1)).map (·.name)=(l.take i).map (·.name)++[l[i].name]:=by
 rw[List.take_succ_eq_append_getElem hi,List.map_append];rfl
theorem RX {l:List Pc} {i:Nat} (hi:i<=l.length) (n:Nm) (z:Pc):((List.range i).any fun j=>decide ((l.getD j z).name=n))=((l.take i).map (·.name)).contains n:=by
 rw[Bool.eq_iff_iff,List.any_eq_true,List.contains_iff_mem,List.mem_map];constructor
 ·rintro⟨j,hj,q⟩;have hj:=List.mem_range.1 hj;rw[cS,List.getD_eq_getElem?_getD,List.getElem?_eq_getElem (by omega)] at q;exact⟨l[j],List.mem_take_iff_getElem.2 ⟨j,by omega,rfl⟩,q⟩
 ·rintro⟨p,hp,q⟩;obtain⟨j,hj,rfl⟩:=List.mem_take_iff_getElem.1 hp;refine⟨j,List.mem_range.2 (by omega),?_⟩;rw[cS,List.getD_eq_getElem?_getD,List.getElem?_eq_getElem (by omega)];exact q
theorem RA (p q:Pc) (m:Mem):FnH Tryz.prog 244 [.v (.agg ⟨q.cs⟩),.box 0 0] ⟨[⟨0,95,p.cs.map .v⟩],[]⟩ m
  fun r H' _=>r= .v (.bool (decide (q.name=p.name)))/\H' =⟨[⟨0,95,p.cs.map .v⟩],[]⟩:=by
 refine enter bj aq Tryz.func244 rfl rfl (by kernel_rfl) rfl ?_ ?_
 ·simp only[go_sem,Pc.cs,aG,List.map_nil]
 ·simp only[go_sem,Pc.cs,aG,List.map_nil];first |rfl |exact⟨rfl,rfl⟩ |skip
theorem ZW (l:List Pc) (a:Option Addr) (n c:Nat) (m:Mem) (h:ax m a n 4 (flat Pc.cs l)) (hn:n=l.length) (hb:n<=aw) (i:Nat) (hi:i<=l.length) (p:Pc):
  FnH Tryz.prog 232 [.v (.slice a i c),.cl 244 [0]] ⟨[⟨0,95,p.cs.map .v⟩],[]⟩ m
   fun r H' _=>H' =⟨[⟨0,95,p.cs.map .v⟩],[]⟩/\r= .v (.bool (((l.take i).map (·.name)).contains p.name)):=by
 have zP:Pc:=⟨aj,[]⟩;refine(Rj 244 (by kernel_rfl) p.cs a i c m (by unfold aw at hb;omega) (fun j=>(l.getD j zP).cs) (fun j hj=> ?_) (fun j=>decide ((l.getD j zP).name=p.name)) fun j m' hj hle=>RA p _ m').mono ?_
 ·have hc:=xD h hn (by omega:j<l.length);rw[List.getD_eq_getElem?_getD,List.getElem?_eq_getElem (by omega)];exact⟨hc.1,hc.2,rfl⟩
 ·rintro r H' m' hm ⟨h3,rfl⟩;refine⟨h3,?_⟩;rw[RX hi p.name zP]
def Be (l:List St):Bool:=match l with | .mk k _ _ _ _ _ _::_=>decide (k=11) |[]=>false
theorem T6 (d:Md):Bj d=(decide (d.name=bB)&& !Be d.body):=rfl
theorem GQ {d:Md} (h:ke d=true):(∀p∈d.params,dH p.ty)/\d.params.length<=16/\d.body.length<=32/\(∃b,ez b d.body=true)/\dH d.res:=by
 unfold ke at h;simp only[bw,Bool.not_eq_true'] at h;obtain⟨⟨⟨h1,h2⟩,h3⟩,h4⟩:=h;unfold o8 at h2;unfold tq at h4;simp only[bw,cS] at h2 h4;refine⟨fun p hp=> ?_,h2.2,h4.1,⟨_,h4.2⟩,?_⟩
 ·have:=List.any_eq_false.1 h3 p hp;unfold rv at this;simp only[Bool.not_eq_true',Bool.not_eq_false,bw] at this;exact w9 this.1
 ·unfold nR at h1;have hv:rq d.res=true->dH d.res:=fun q=>by
   unfold rq at q;simp only[bw,cS] at q;exact⟨by omega,by omega⟩
  split at h1
  ·simp only[bw] at h1;exact hv h1.1.1
  ·simp only[bw,Bool.or_eq_true] at h1;rcases h1.2 with q |q
   ·exact hv q
   ·exact w9 q
section
variable {S:Sc} {E:List Cd} {ad:Addr} {da:Option Addr} {dc:Nat} {la:Option Addr} {lc:Nat} {b:Nat} {a:Option Addr} {c:Nat} {L:List Cc}
theorem RP (hE:dr E) (d:Md) (Y:Mc) (m:Mem) (hT:Tp m S E ad da dc la lc b a c L) (zw:S.su=false) (hY:MdX m d Y) (hv:ke d=true) (hdp:b9 d.body<=24):
  FnH Tryz.prog 165 [.v (.agg ⟨au ad da dc S la lc⟩),.v (.agg ⟨Y.cs⟩)] ⟨[],[]⟩ m (jf m (jO E S.pr S.ci d)):=by
 obtain⟨o1,o2,o3,⟨sup,o4⟩,o5⟩:=GQ hv;obtain⟨xs,ot,pw⟩:=hY.body;have jj:dO (⟨S.pr,S.ci,hasB d.fl 8,false,d.res,d.params⟩:Sc).loc:=o1;have j7:Tp m ⟨S.pr,S.ci,hasB d.fl 8,false,d.res,d.params⟩ E ad da dc Y.pa Y.pc b a c L:=⟨hT.ck,hT.pr,hT.ci,by rw[<- hY.pl];exact hY.par,by rw[<- hY.pl];exact hY.pc,by dsimp only;omega⟩;have hB:=xM (ad:=ad) (da:=da) (dc:=dc) (b:=b) (a:=a) (c:=c) (L:=L) hE 24 1999999990 (xQ hE 24) d.body xs Y.a Y.l Y.cp m ot hY.l hY.cp (by rw[hY.l];exact o3) pw hdp o4 _ jj (by dsimp only;omega);have hB:=fun m' (hle:ah m m')=>hB Y.pa Y.pc m' hle (j7.up hle)
 have hU:=fun m' (hle:ah m m')=>DO hE jj [] [] none 0 0 m' (j7.up hle) (lr m' 8) rfl (by decide) (by simp only[dB]) (by simp only[kE])
 have hM:=fun m' (hle:ah m m')=>AA (b9 d.body) d.body xs Y.a Y.l Y.cp m' (aA _) (aM hle ot) hY.l (cG hle pw) (by rw[hY.l];unfold aw;omega)
 have hP:=fun m' (hle:ah m m') i hi p=>ZW d.params Y.pa Y.pl Y.pc m' (aM hle hY.par) hY.pl (by rw[hY.pl];unfold aw;omega) i hi p
 have hK:jO E S.pr S.ci d=if tT [] d.params=true then 72
  else if Bj d=true/\gr E ⟨S.pr,S.ci,hasB d.fl 8,false,d.res,d.params⟩ []≠0 then gr E ⟨S.pr,S.ci,hasB d.fl 8,false,d.res,d.params⟩ []
  else if bT E ⟨S.pr,S.ci,hasB d.fl 8,false,d.res,d.params⟩ false d.body=0/\d.res.base≠86/\iQ d.body=false then 74
  else bT E ⟨S.pr,S.ci,hasB d.fl 8,false,d.res,d.params⟩ false d.body:=rfl
 rw[T6] at hK;have tO:∀(h0:0<d.body.length),∃X:Sd,Rd m (bc Y.a 0) X.cs/\Y.a≠none/\Be d.body=decide (X.k=11):=fun h0=>by
  obtain⟨X,q1,q2,q3⟩:=DQ ot hY.l pw h0;refine⟨X,by simpa using q1,q2,?_⟩;cases hb:d.body with
  |nil=>rw[hb] at h0;cases h0
  |cons s r=>
   have hs:d.body[0]=s:=by simp [hb]
   rw[hs] at q3;cases s with
   |mk k nm ty tg ex bd al=>
    obtain⟨x,hxx,rfl,_⟩:=u7 q3;rw[(Sd.cs_inj hxx).1];rfl
 have Ey:d.body.length=0->Be d.body=false:=fun h0=>by rw[List.eq_nil_of_length_eq_zero h0];rfl
 have ur:=hY.par;have gB:=hY.pl;have hpc:=hY.pc;have fW:=hY.l;have gS:hasB d.fl 8= !decide (bits .and .i64 Y.fl 8=0):=by rw[<- hY.fl];rfl
 rw[<- hY.name,<- hY.res] at hK;rw[<- hY.res,gS] at hB hU;rw[gS] at hK;clear j7 ot pw o3 o4 o5 hv hY jj;revert hB hU hM hP hK tO Ey ur gB fW o2;generalize hD:tT [] d.params=D
 revert hD;generalize gr E ⟨S.pr,S.ci,!decide (bits .and .i64 Y.fl 8=0),false,Y.res,d.params⟩ []=v1
 generalize bT E ⟨S.pr,S.ci,!decide (bits .and .i64 Y.fl 8=0),false,Y.res,d.params⟩ false d.body=v2
 generalize jO E S.pr S.ci d=K
 generalize iQ d.body=tv
 generalize Be d.body=iv
 generalize d.params=pl
 generalize d.body.length=bl
 unfold au;simp only[zw];intro hD o2 hB hU hM hP hK tO Ey ur gB fW;rw[<- gB] at hB hU;refine enter bj aq Tryz.func165 rfl rfl (by kernel_rfl) rfl ?_ ?_
 ·clear hB hU hM hP;simp only[go_sem,Mc.cs]
 ·simp only[go_sem,Mc.cs];refine ct aq (fun y:Nat×Mem=>⟨[⟨12,[],.v (.int .i64 y.1)⟩,⟨11,[],.v (.int .i64 Y.pl)⟩,⟨10,[],.v (.slice Y.pa Y.pl Y.pc)⟩,⟨2,[],.box 0 0⟩,⟨3,[],.box 1 0⟩,⟨4,[],.v (.int .i64 0)⟩],[],[⟨1,45,[.v (.int .i64 Y.fl),.v (.int .i64 Y.res.dim),.v (.int .u8 Y.res.base),.v (.string (bs Y.res.name)),.v (.string (bs Y.name)),.v (.slice Y.pa Y.pl Y.pc),.v (.bool Y.hb),.v (.slice Y.a Y.l Y.cp)]⟩,⟨0,87,[.v (.pointer (some ad)),.v (.slice da S.pr.length dc),.v (.int .i64 S.ci),.v (.bool S.st),.v (.bool false),.v (.int .i64 S.res.dim),.v (.int .u8 S.res.base),.v (.string (bs S.res.name)),.v (.slice la S.loc.length lc)]⟩],[],2,y.2⟩)
   (fun y=>ah m y.2/\y.1<=pl.length/\tT ((pl.take y.1).map (·.name)) (pl.drop y.1)=D) (fun y=>pl.length - y.1) (0,m) (by kernel_rfl) (fun _ _=>aU rfl) (fun x hx=>hx.1) (fun _=> ?_) ?_ ⟨.inl rfl,aF _,by rw[List.take_zero,List.map_nil,List.drop_zero];exact hD⟩ ?_
  ·clear hB hU hM hP;simp only[go_sem]
  ·clear hB hU hM hP;simp only[go_sem];exact rfl
  ·rintro⟨i,mm⟩ ⟨q0,q1,q2⟩;dsimp only at q0 q1 q2;by_cases an:i<pl.length
   ·have hc:((i:Int)<(Y.pl:Int))=True:=eq_true (by clear hB hU hM hP;omega);rw[List.drop_eq_getElem_cons an,tT] at q2;have hp:=xD (aM q0 ur) gB an;have aL:bO Y.pa Y.pl (i:Int)=True:=eq_true ⟨by clear hB hU hM hP;omega,by clear hB hU hM hP;omega,hp.2⟩;have av:= @cz _ _ _ 4 hp.1 rfl;simp only[Pc.cs] at av;have hP:=hP mm q0 i q1 pl[i];simp only[Pc.cs,aG,List.map_nil] at hP;have bN:((i:Int)<=(Y.pc:Int))=True:=eq_true (by clear hB hU hM hP;omega);clear hB hU hM;simp only[go_sem,hc,aL,av,Ld,bN];refine⟨⟨Int.le_refl _,Int.natCast_nonneg _⟩,by kernel_rfl,bF (hP.mono ?_)⟩;clear hP;rintro r H' m1 aQ ⟨rfl,rfl⟩;by_cases jF:((pl.take i).map (·.name)).contains pl[i].name=true
    ·rw[ai jF] at q2;rw[<- q2,ai rfl] at hK;simp only[go_sem,jF];exact⟨ae q0 (.inr aQ),rfl,by rw[hK]⟩
    ·have jF:=(Bool.not_eq_true _).mp jF;rw[aa (by rw[jF];decide),<- Ry an] at q2;simp only[go_sem,jF];exact⟨by unfold aB;omega,(i+1,m1),⟨by simp,.inl rfl⟩,⟨ae q0 (.inr aQ),an,q2⟩,by omega⟩
   ·have hc:((i:Int)<(Y.pl:Int))=False:=eq_false (by clear hB hU hM hP;omega);rw[List.drop_of_length_le (by clear hB hU hM hP;omega),tT] at q2;rw[aa (by rw[<- q2];decide)] at hK;clear hP;by_cases hn:Y.name=bB
    ·have jC:(Y.name=[60,105,110,105,116,62])=True:=eq_true hn;rw[aP hn,Bool.true_and] at hK;by_cases hl:Y.l=0
     ·have an:((Y.l:Int)=0)=True:=eq_true (by clear hB hU hM;omega);rw[Ey (by clear hB hU hM;omega)] at hK;have hU:=hU mm q0;simp only[go_sem,hc];refine bX (.hoist 0 (.hoist 1 (.hoist 2 (.hoist 3 (.hoist 4 (.hoist 5 (.hoist 6 (.hoist 7 (.hoist 8 (.hoist 9 (.alt 10 [7,6,5,4] (.hoist 11 (.hoist 12 (.alt 13 [7,6] (.hoist 14 (.hoist 15 (.alt 16 [] .done .stop))) .stop))) .stop))))))))))) aq (by kernel_rfl) (by kernel_rfl) ?_;simp only[go_sem,jC,an];refine⟨.int .i64 0,?_⟩;simp only[go_sem,jC,an];refine ak ((aC hU fun V=>rfl).mono ?_);clear hU;rintro r H' m7 sI ⟨l7,rfl,rfl⟩;have nc:=ae q0 l7;by_cases hy:v1=0
      ·have jA:(v1=0)=True:=eq_true hy;rw[aa (fun q=>q.2 hy)] at hK;simp only[go_sem,jA];have hB:=hB m7 nc;refine ak ((aC hB fun V=>rfl).mono ?_);clear hB;rintro r H' m8 uw ⟨l8,rfl,rfl⟩;have fV:=ae nc l8;have hM:=hM m8 fV;by_cases hz:v2=0
       ·have cJ:(v2=0)=True:=eq_true hz;by_cases hb:Y.res.base=86
        ·have gT:(Y.res.base=86)=True:=eq_true hb;rw[aa (fun q=>q.2.1 hb)] at hK;clear hM;simp only[go_sem,cJ,gT];exact⟨fV,rfl,by rw[hK]⟩
        ·have gT:(Y.res.base=86)=False:=eq_false hb;simp only[go_sem,cJ,gT];refine ak (hM.mono ?_);clear hM;rintro r H' m9 ni ⟨rfl,rfl⟩;by_cases ht:tv=true
         ·rw[aa (fun q=>by rw[ht] at q;cases q.2.2)] at hK;simp only[go_sem,ht,cJ];exact⟨ae fV (.inr ni),rfl,by rw[hK]⟩
         ·have ht:=(Bool.not_eq_true _).mp ht;rw[ai ⟨hz,hb,ht⟩] at hK;simp only[go_sem,ht,cJ];exact⟨ae fV (.inr ni),rfl,by rw[hK]⟩
       ·have cJ:(v2=0)=False:=eq_false hz;rw[aa (fun q=>hz q.1)] at hK;clear hM;simp only[go_sem,cJ];exact⟨fV,rfl,by rw[hK]⟩
      ·have jA:(v1=0)=False:=eq_false hy;rw[ai ⟨rfl,hy⟩] at hK;clear hB hM;simp only[go_sem,jA];exact⟨nc,rfl,by rw[hK]⟩
     ·have an:((Y.l:Int)=0)=False:=eq_false (by clear hB hU hM;omega);refine Exists.elim (tO (by clear hB hU hM;omega)) fun X hX=> ?_
      have Ce:=oP q0 hX.1;have aL:bO Y.a Y.l 0=True:=eq_true ⟨by decide,by clear hB hU hM;omega,hX.2.1⟩;have dQ:=kF Ce;have cR:= @pS mm (bc Y.a 0) X.cs Ce 0 _ rfl;rw[hX.2.2] at hK;by_cases hk:X.k=11
      ·have lR:(X.k=11)=True:=eq_true hk;rw[aP hk,Bool.not_true,aa (fun q=>by cases q.1)] at hK;clear hU;simp only[go_sem,hc];refine bX (.hoist 0 (.hoist 1 (.hoist 2 (.hoist 3 (.hoist 4 (.hoist 5 (.hoist 6 (.hoist 7 (.hoist 8 (.hoist 9 (.alt 10 [7,6,5,4] (.hoist 11 (.hoist 12 (.alt 13 [7,6] (.hoist 14 (.hoist 15 (.alt 16 [] .done .stop))) .stop))) .stop))))))))))) aq (by kernel_rfl) (by kernel_rfl) ?_;simp only[go_sem,jC,an,aL,dQ,cR,lR];have hB:=hB mm q0;refine ak ((aC hB fun V=>rfl).mono ?_);clear hB;rintro r H' m8 uw ⟨l8,rfl,rfl⟩;have fV:=ae q0 l8;have hM:=hM m8 fV;by_cases hz:v2=0
       ·have cJ:(v2=0)=True:=eq_true hz;by_cases hb:Y.res.base=86
        ·have gT:(Y.res.base=86)=True:=eq_true hb;rw[aa (fun q=>q.2.1 hb)] at hK;clear hM;simp only[go_sem,cJ,gT];exact⟨fV,rfl,by rw[hK]⟩
        ·have gT:(Y.res.base=86)=False:=eq_false hb;simp only[go_sem,cJ,gT];refine ak (hM.mono ?_);clear hM;rintro r H' m9 ni ⟨rfl,rfl⟩;by_cases ht:tv=true
         ·rw[aa (fun q=>by rw[ht] at q;cases q.2.2)] at hK;simp only[go_sem,ht,cJ];exact⟨ae fV (.inr ni),rfl,by rw[hK]⟩
         ·have ht:=(Bool.not_eq_true _).mp ht;rw[ai ⟨hz,hb,ht⟩] at hK;simp only[go_sem,ht,cJ];exact⟨ae fV (.inr ni),rfl,by rw[hK]⟩
       ·have cJ:(v2=0)=False:=eq_false hz;rw[aa (fun q=>hz q.1)] at hK;clear hM;simp only[go_sem,cJ];exact⟨fV,rfl,by rw[hK]⟩
      ·have lR:(X.k=11)=False:=eq_false hk;rw[ab hk,Bool.not_false] at hK;have hU:=hU mm q0;simp only[go_sem,hc];refine bX (.hoist 0 (.hoist 1 (.hoist 2 (.hoist 3 (.hoist 4 (.hoist 5 (.hoist 6 (.hoist 7 (.hoist 8 (.hoist 9 (.alt 10 [7,6,5,4] (.hoist 11 (.hoist 12 (.alt 13 [7,6] (.hoist 14 (.hoist 15 (.alt 16 [] .done .stop))) .stop))) .stop))))))))))) aq (by kernel_rfl) (by kernel_rfl) ?_;simp only[go_sem,jC,an,aL,dQ,cR,lR];refine ak ((aC hU fun V=>rfl).mono ?_);clear hU;rintro r H' m7 sI ⟨l7,rfl,rfl⟩;have nc:=ae q0 l7;by_cases hy:v1=0
       ·have jA:(v1=0)=True:=eq_true hy;rw[aa (fun q=>q.2 hy)] at hK;simp only[go_sem,jA];have hB:=hB m7 nc;refine ak ((aC hB fun V=>rfl).mono ?_);clear hB;rintro r H' m8 uw ⟨l8,rfl,rfl⟩;have fV:=ae nc l8;have hM:=hM m8 fV;by_cases hz:v2=0
        ·have cJ:(v2=0)=True:=eq_true hz;by_cases hb:Y.res.base=86
         ·have gT:(Y.res.base=86)=True:=eq_true hb;rw[aa (fun q=>q.2.1 hb)] at hK;clear hM;simp only[go_sem,cJ,gT];exact⟨fV,rfl,by rw[hK]⟩
         ·have gT:(Y.res.base=86)=False:=eq_false hb;simp only[go_sem,cJ,gT];refine ak (hM.mono ?_);clear hM;rintro r H' m9 ni ⟨rfl,rfl⟩;by_cases ht:tv=true
          ·rw[aa (fun q=>by rw[ht] at q;cases q.2.2)] at hK;simp only[go_sem,ht,cJ];exact⟨ae fV (.inr ni),rfl,by rw[hK]⟩
          ·have ht:=(Bool.not_eq_true _).mp ht;rw[ai ⟨hz,hb,ht⟩] at hK;simp only[go_sem,ht,cJ];exact⟨ae fV (.inr ni),rfl,by rw[hK]⟩
        ·have cJ:(v2=0)=False:=eq_false hz;rw[aa (fun q=>hz q.1)] at hK;clear hM;simp only[go_sem,cJ];exact⟨fV,rfl,by rw[hK]⟩
       ·have jA:(v1=0)=False:=eq_false hy;rw[ai ⟨rfl,hy⟩] at hK;clear hB hM;simp only[go_sem,jA];exact⟨nc,rfl,by rw[hK]⟩
    ·have jC:(Y.name=[60,105,110,105,116,62])=False:=eq_false hn;rw[ab hn,Bool.false_and,aa (fun q=>by cases q.1)] at hK;clear hU;simp only[go_sem,hc];refine bX (.hoist 0 (.hoist 1 (.hoist 2 (.hoist 3 (.hoist 4 (.hoist 5 (.hoist 6 (.hoist 7 (.hoist 8 (.hoist 9 (.alt 10 [7,6,5,4] (.hoist 11 (.hoist 12 (.alt 13 [7,6] (.hoist 14 (.hoist 15 (.alt 16 [] .done .stop))) .stop))) .stop))))))))))) aq (by kernel_rfl) (by kernel_rfl) ?_;simp only[go_sem,jC];refine⟨fun q=>absurd q.2 id,fun q=>absurd q.2 id,.int .i64 0,fun q=>absurd q.2 id,?_⟩;simp only[go_sem,jC];have hB:=hB mm q0;refine ak ((aC hB fun V=>rfl).mono ?_);clear hB;rintro r H' m8 uw ⟨l8,rfl,rfl⟩;have fV:=ae q0 l8;have hM:=hM m8 fV;by_cases hz:v2=0
     ·have cJ:(v2=0)=True:=eq_true hz;by_cases hb:Y.res.base=86
      ·have gT:(Y.res.base=86)=True:=eq_true hb;rw[aa (fun q=>q.2.1 hb)] at hK;clear hM;simp only[go_sem,cJ,gT];exact⟨fV,rfl,by rw[hK]⟩
      ·have gT:(Y.res.base=86)=False:=eq_false hb;simp only[go_sem,cJ,gT];refine ak (hM.mono ?_);clear hM;rintro r H' m9 ni ⟨rfl,rfl⟩;by_cases ht:tv=true
       ·rw[aa (fun q=>by rw[ht] at q;cases q.2.2)] at hK;simp only[go_sem,ht,cJ];exact⟨ae fV (.inr ni),rfl,by rw[hK]⟩
       ·have ht:=(Bool.not_eq_true _).mp ht;rw[ai ⟨hz,hb,ht⟩] at hK;simp only[go_sem,ht,cJ];exact⟨ae fV (.inr ni),rfl,by rw[hK]⟩
     ·have cJ:(v2=0)=False:=eq_false hz;rw[aa (fun q=>hz q.1)] at hK;clear hM;simp only[go_sem,cJ];exact⟨fV,rfl,by rw[hK]⟩
end
structure ClOk (d:Cd):Prop where
 mth:∀m∈d.methods,ke m=true/\b9 m.body<=24
 ini:∃b,ez b d.init=true
 inl:d.init.length<=32
 ind:b9 d.init<=24
theorem N9 (E pr:List Cd) (i:Nat) (m:Md) (r:List Md):mK E pr i (m::r)=if m.hb=true/\jO E pr i m≠0 then(m.name,jO E pr i m) else mK E pr i r:=rfl
section
variable {ad:Addr} {pr E:List Cd} {b:Nat} {a:Option Addr} {c:Nat} {L:List Cc}
theorem RQ (hE:dr E) (i:Nat) (hi:i<pr.length) (m:Mem) (hC:Ck m ad pr E b a c L) (hv:ClOk pr[i]):FnH Tryz.prog 72 [.v (.pointer (some ad)),.v (.int .i64 i)] ⟨[],[]⟩ m (lZ m (qi E pr i)):=by
 obtain⟨X,x1,x2,x3,hX⟩:=lk hC.pr hi;have hg:=nE hi;have FK:Tp m ⟨pr,i,false,false,fQ,[]⟩ E ad a c none 0 b a c L:=⟨hC,hC.pr,hi,lr m 4,aA _,aF _⟩;have j7:Tp m ⟨pr,i,true,false,fQ,[]⟩ E ad a c none 0 b a c L:=⟨hC,hC.pr,hi,lr m 4,aA _,aF _⟩;have hn:dO ([]:List Pc):=fun p hp=>by cases hp
 obtain⟨sup,v1⟩:=hv.ini;obtain⟨ys,y1,y2⟩:=hX.ini;have fL:=xM (ad:=ad) (da:=a) (dc:=c) (b:=b) (a:=a) (c:=c) (L:=L) hE 24 1999999990 (xQ hE 24) pr[i].init ys X.sa X.sl X.sc m y1 hX.sl hX.sc (by rw[hX.sl];exact hv.inl) y2 hv.ind v1 ⟨pr,i,true,false,fQ,[]⟩ hn (by show 0+33 * 24+32<=1999999990;decide);have fL:=fun m' (hle:ah m m')=>fL none 0 m' hle (j7.up hle)
 have hU:=fun m' (hle:ah m m')=>DO (S:=⟨pr,i,false,false,fQ,[]⟩) hE hn [] [] none 0 0 m' (FK.up hle) (lr m' 8) rfl (by decide) (by simp only[dB]) (by simp only[kE])
 have jk:=fun m' (hle:ah m m') (d:Md) (Y:Mc) (hd:d∈pr[i].methods) (hY:MdX m' d Y)=>RP (S:=⟨pr,i,false,false,fQ,[]⟩) hE d Y m' (FK.up hle) rfl hY (hv.mth d hd).1 (hv.mth d hd).2
 have ox:=hX.mth;have dR:=hX.ml;have fY:=hX.ok.ml;have hK:qi E pr i=if(mK E pr i pr[i].methods).2≠0 then mK E pr i pr[i].methods
  else if hasB X.fl 512=false/\(pr[i].methods.any fun m=>decide (m.name=bB))=false/\gr E ⟨pr,i,false,false,fQ,[]⟩ []≠0 then(bB,gr E ⟨pr,i,false,false,fQ,[]⟩ [])
  else if bT E ⟨pr,i,true,false,fQ,[]⟩ false pr[i].init=0 then([],0) else(K4,bT E ⟨pr,i,true,false,fQ,[]⟩ false pr[i].init):=by
  unfold qi;rw[hg,hX.fl]
 clear FK j7 hg y1 y2 hX x3;revert fL hU jk ox dR fY hK;generalize qi E pr i=K
 generalize gr E ⟨pr,i,false,false,fQ,[]⟩ []=v1
 generalize bT E ⟨pr,i,true,false,fQ,[]⟩ false pr[i].init=v2
 generalize pr[i].methods=ml
 generalize hMM:mK E pr i ml=M
 unfold au;simp only[mb,fQ];intro fL hU jk ox dR fY hK;have aL:bO a pr.length (i:Int)=True:=eq_true ⟨by omega,by omega,x2⟩;have av:= @cz _ _ _ 7 x1 rfl;simp only[Cc.cs] at av;simp only[Mc.cs] at jk;refine enter bj aq Tryz.func72 rfl rfl (by kernel_rfl) rfl ?_ ?_
 ·clear fL hU jk;simp only[go_sem]
 ·simp only[go_sem,bY (j:=0) hC.rd rfl,aL,av];refine ct aq (fun y:Nat×Bool×Mem=>⟨[⟨37,[],.v (.int .i64 y.1)⟩,⟨36,[],.v (.int .i64 X.ml)⟩,⟨35,[],.v (.slice X.ma X.ml X.mc)⟩,⟨8,[],.v (.bool y.2.1)⟩,⟨6,[],.box 0 0⟩,⟨7,[],.box 1 0⟩,⟨0,[],.v (.pointer (some ad))⟩,⟨4,[],.v (.string (bs []))⟩,⟨5,[],.v (.int .i64 0)⟩],[],[⟨1,87,[.v (.pointer (some ad)),.v (.slice a pr.length c),.v (.int .i64 i),.v (.bool false),.v (.bool false),.v (.int .i64 0),.v (.int .u8 86),.v (.string (bs [])),.v (.slice none 0 0)]⟩,⟨0,33,[.v (.int .i64 X.fl),.v (.string (bs X.name)),.v (.string (bs X.super)),.v (.slice X.ia X.il X.ic),.v (.slice X.fa X.fn X.fc),.v (.slice X.ma X.ml X.mc),.v (.slice X.sa X.sl X.sc)]⟩],[],2,y.2.2⟩)
   (fun y=>ah m y.2.2/\y.1<=ml.length/\y.2.1=(hasB X.fl 512||(ml.take y.1).any fun m=>decide (m.name=bB))/\mK E pr i (ml.drop y.1)=M) (fun y=>ml.length - y.1) (0,!decide (bits .and .i64 X.fl 512=0),m) (by kernel_rfl) (fun _ _=>aU rfl) (fun x hx=>hx.1) (fun _=> ?_) ?_ ⟨.inl rfl,aF _,by rw[List.take_zero,List.any_nil,Bool.or_false];rfl,by rw[List.drop_zero];exact hMM⟩ ?_
  ·clear fL hU jk;simp only[go_sem]
  ·clear fL hU jk;simp only[go_sem];first |exact rfl |exact⟨rfl,rfl⟩
  ·rintro⟨j,B,mm⟩ ⟨q0,q1,q2,q3⟩;dsimp only at q0 q1 q2 q3;by_cases an:j<ml.length
   ·have hc:((j:Int)<(X.ml:Int))=True:=eq_true (by clear fL hU jk;omega);rw[List.drop_eq_getElem_cons an,N9] at q3;refine Exists.elim ox fun xs fX=> ?_
    refine Exists.elim (tz (aM q0 fX.1) dR (iT (fun _ _=>lg q0) fX.2) an) fun Y hY=> ?_
    have qO:bO X.ma X.ml (j:Int)=True:=eq_true ⟨by clear fL hU jk;omega,by clear fL hU jk;omega,hY.2.1⟩;have lS:= @cz _ _ _ 8 hY.1 rfl;simp only[Mc.cs] at lS;rw[<- hY.2.2.name,<- hY.2.2.hb] at q3;have Mu:(B||decide (Y.name=bB))=(hasB X.fl 512||(ml.take (j+1)).any fun m=>decide (m.name=bB)):=by
     rw[q2,List.take_succ_eq_append_getElem an,List.any_append,List.any_cons,List.any_nil,Bool.or_false,hY.2.2.name,Bool.or_assoc]
    by_cases hh:Y.hb=true
    ·have jk:=jk mm q0 ml[j] Y (List.getElem_mem an) hY.2.2;clear fL hU;have h1:(Y.hb=true)=True:=eq_true hh;have h2:(Y.hb=false)=False:=eq_false (fun q=>by rw[q] at hh;cases hh);simp only[go_sem,hc,qO,lS,h1,h2];refine ak ((aC jk fun V=>rfl).mono ?_);clear jk;rintro r H' m3 dx ⟨l3,rfl,rfl⟩;by_cases hz:jO E pr i ml[j]=0
     ·rw[aa (fun q=>q.2 hz)] at q3;have cJ:(jO E pr i ml[j]=0)=True:=eq_true hz;simp only[go_sem,cJ];exact⟨by unfold aB;unfold aw at fY;omega,(j+1,B||decide (Y.name=bB),m3),⟨⟨by simp,rfl⟩,.inl rfl⟩,⟨ae q0 l3,an,Mu,q3⟩,by omega⟩
     ·rw[ai ⟨hh,hz⟩] at q3;have cJ:(jO E pr i ml[j]=0)=False:=eq_false hz;rw[<- q3,ai hz] at hK;simp only[go_sem,cJ];subst hK;exact⟨ae q0 l3,rfl,rfl⟩
    ·rw[aa (fun q=>hh q.1)] at q3;have hh:=(Bool.not_eq_true _).mp hh;clear fL hU jk;simp only[go_sem,hc,qO,lS,hh];exact⟨by unfold aB;unfold aw at fY;omega,(j+1,B||decide (Y.name=bB),mm),⟨⟨by simp,rfl⟩,.inl rfl⟩,⟨q0,an,Mu,q3⟩,by omega⟩
   ·have hc:((j:Int)<(X.ml:Int))=False:=eq_false (by clear fL hU jk;omega);rw[List.drop_of_length_le (by clear fL hU jk;omega)] at q3;rw[jI (by clear fL hU jk;omega)] at q2;rw[<- q3,aa (fun q=>q rfl)] at hK;clear jk;by_cases hb:B=true
    ·rw[aa (fun q=>by rw[q.1,q.2.1] at q2;rw[q2] at hb;cases hb)] at hK;have fL:=fL mm q0;clear hU;simp only[go_sem,hc,hb];refine ak ((aC fL fun V=>rfl).mono ?_);clear fL;rintro r H' m8 uw ⟨l8,rfl,rfl⟩;by_cases hz:v2=0
     ·have cJ:(v2=0)=True:=eq_true hz;rw[ai hz] at hK;simp only[go_sem,cJ];subst hK;exact⟨ae q0 l8,rfl,rfl⟩
     ·have cJ:(v2=0)=False:=eq_false hz;rw[aa hz] at hK;simp only[go_sem,cJ];subst hK;exact⟨ae q0 l8,rfl,rfl⟩
    ·have hb:=(Bool.not_eq_true _).mp hb;have hU:=hU mm q0;simp only[go_sem,hc,hb];refine ak ((aC hU fun V=>rfl).mono ?_);clear hU;rintro r H' m7 sI ⟨l7,rfl,rfl⟩;have nc:=ae q0 l7;rw[hb] at q2;have hq:=Bool.or_eq_false_iff.1 q2.symm;by_cases hy:v1=0
     ·have jA:(v1=0)=True:=eq_true hy;rw[aa (fun q=>q.2.2 hy)] at hK;have fL:=fL m7 nc;simp only[go_sem,jA];refine ak ((aC fL fun V=>rfl).mono ?_);clear fL;rintro r H' m8 uw ⟨l8,rfl,rfl⟩;by_cases hz:v2=0
      ·have cJ:(v2=0)=True:=eq_true hz;rw[ai hz] at hK;simp only[go_sem,cJ];subst hK;exact⟨ae nc l8,rfl,rfl⟩
      ·have cJ:(v2=0)=False:=eq_false hz;rw[aa hz] at hK;simp only[go_sem,cJ];subst hK;exact⟨ae nc l8,rfl,rfl⟩
     ·have jA:(v1=0)=False:=eq_false hy;rw[ai ⟨hq.1,hq.2,hy⟩] at hK;clear fL;simp only[go_sem,jA];subst hK;exact⟨nc,rfl,rfl⟩
end
def di (z:Nm) (t:Ty):Prop:=t.base=76->t.name≠z
structure OkM (z:Nm) (m:Md):Prop where
 res:di z m.res
 par:∀p∈m.params,di z p.ty
structure OkC (z:Nm) (d:Cd):Prop where
 nm:d.name≠z
 sup:d.super≠z
 ifs:∀s∈d.ifs,s≠z
 fld:∀f∈d.fields,di z f.ty
 mth:∀m∈d.methods,OkM z m
structure More (z:Nm) (E E' :List Cd):Prop where
 same:∀s,s≠z->cls E' s=cls E s
 none:cls E z= .none
 ok:∀s d,cls E s= .some d->OkC z d
 len:E'.length=E.length+1
theorem kf (z:Nm):di z aj:=fun h=>by cases h
theorem oJ {z:Nm} {t:Ty} (h:t.base≠76):di z t:=fun e=>absurd e h
section
variable {z:Nm} {E E' :List Cd} (h:More z E E')
include h
theorem More.ne {s:Nm} (hs:(cls E s).isSome=true):s≠z:=fun e=>by rw[e,h.none] at hs;cases hs
theorem More.vne {l:List Nm} (hl:Vis E l):∀s∈l,s≠z:=fun s hs=>h.ne (hl.kn s hs)
theorem More.eSupF:∀{f:Nat} {out:List Nm} {s:Nm},s≠z->fT E' f out s=fT E f out s
 |0,_,_,_=>rfl
 |f+1,out,s,hs=>by
  rw[fT,fT,h.same s hs];cases hc:cls E s with
  |none=>rfl
  |some d=>
   dsimp only;split
   ·rfl
   ·exact More.eSupF (h.ok s d hc).sup
theorem More.supers {s:Nm} (hs:s≠z):bP E' s=bP E s:=by
 unfold bP;rw[h.eSupF hs,h.len,G7 (Vis.nil E) (by simp)]
theorem More.eReachF:∀{f:Nat} {out l:List Nm},(∀s∈l,s≠z)->gk E' f out l=gk E f out l
 |0,_,_,_=>rfl
 |f+1,out,l,hl=>by
  rw[sT,sT];have key:∀(l out:List Nm),(∀s∈l,s≠z)->l.foldl (fm E' f) out=l.foldl (fm E f) out:=by
   intro l;induction l with
   |nil=>intro out _;rfl
   |cons s r ih=>
    intro out hl;have e:fm E' f out s=fm E f out s:=by
     unfold fm;rw[h.same s (hl s (bL ..))];cases hc:cls E s with
     |none=>rfl
     |some d=>
      dsimp only;split
      ·rfl
      ·exact More.eReachF (h.ok s d hc).ifs
    rw[List.foldl_cons,List.foldl_cons,e];exact ih _ fun s hs=>hl s (bt _ hs)
  exact key l out hl
theorem More.reach {out l:List Nm} (ho:Vis E out) (hl:∀s∈l,s≠z):gU E' out l=gU E out l:=by
 unfold gU;rw[h.eReachF hl,h.len,Gh ho (by omega)]
theorem More.eCls {s:Nm} (hs:s≠z):cd E' s=cd E s:=by unfold cd;rw[h.same s hs]
theorem More.okZ (s:Nm):((cd E s).super≠z\/cls E s= .none)/\(∀t∈(cd E s).ifs,t≠z)/\(∀f∈(cd E s).fields,di z f.ty)/\∀m∈(cd E s).methods,OkM z m:=by
 unfold cd;cases hc:cls E s with
 |none=>
  refine⟨.inr rfl,?_,?_,?_⟩<;>intro t ht<;>cases ht
 |some d=>exact⟨.inl (h.ok s d hc).sup,(h.ok s d hc).ifs,(h.ok s d hc).fld,(h.ok s d hc).mth⟩
theorem More.ifaces {s:Nm} (hs:s≠z):cH E' s=cH E s:=by
 unfold cH;rw[h.supers hs];have hv:=h.vne (ir E s);revert hv;generalize bP E s=l
 have key:∀(l out:List Nm),Vis E out->(∀s∈l,s≠z)->l.foldl (fun out c=>gU E' out (cd E' c).ifs) out=l.foldl (fun out c=>gU E out (cd E c).ifs) out:=by
  intro l;induction l with
  |nil=>intro out _ _;rfl
  |cons c r ih=>
   intro out ho hl;rw[List.foldl_cons,List.foldl_cons,h.eCls (hl c (bL ..)),h.reach ho (h.okZ c).2.1];exact ih _ (Ab ho) fun s hs=>hl s (bt _ hs)
 exact key l [] (Vis.nil E)
theorem More.subt {a b:Nm} (ha:a≠z):jP E' a b=jP E a b:=by unfold jP;rw[h.same a ha,h.supers ha,h.ifaces ha]
theorem More.asg {a b:Ty} (ha:di z a):ew E' a b=ew E a b:=by
 unfold ew;by_cases e:a.base=76
 ·rw[h.subt (ha e)]
 ·simp only[ab e,Bool.false_and]
theorem More.field {s n:Nm} (hs:s≠z):fk E' s n=fk E s n:=by
 unfold fk;rw[h.supers hs];have hv:=h.vne (ir E s);revert hv;generalize bP E s=l
 intro hv;induction l with
 |nil=>rfl
 |cons c r ih=>
  rw[List.findSome?_cons,List.findSome?_cons,h.eCls (hv c (bL ..)),ih fun s hs=>hv s (bt _ hs)]
theorem More.field_ok {s n o:Nm} {f:Fc} (hf:fk E s n=some (o,f)):di z f.ty/\o≠z/\s≠z:=by
 unfold fk at hf;obtain⟨c,hc,e⟩:=List.exists_of_findSome?_eq_some hf;obtain⟨f',h1,h2⟩:=Option.map_eq_some_iff.1 e;cases h2;refine⟨(h.okZ o).2.2.1 _ (List.mem_of_find?_eq_some h1),h.vne (ir E s) o hc,fun e=> ?_⟩;subst e;unfold bP fT at hc;rw[h.none] at hc;cases hc
theorem More.decl {s n:Nm} {k:Int} (hs:s≠z):cM E' s n k=cM E s n k:=by unfold cM;rw[h.eCls hs]
theorem More.decl_ok {s n:Nm} {k:Int} {m:Md} (hm:cM E s n k=some m):OkM z m:=(h.okZ s).2.2.2 m (List.mem_of_find?_eq_some hm)
theorem More.first {l:List Nm} {n:Nm} {k:Int} (hl:∀s∈l,s≠z):eA E' l n k=eA E l n k:=by
 unfold eA;induction l with
 |nil=>rfl
 |cons c r ih=>rw[List.findSome?_cons,List.findSome?_cons,h.decl (hl c (bL ..)),ih fun s hs=>hl s (bt _ hs)]
theorem More.first_ok {l:List Nm} {n:Nm} {k:Int} {x:Nm×Md} (hx:eA E l n k=some x):OkM z x.2/\x.1∈l:=by
 unfold eA at hx;obtain⟨c,hc,e⟩:=List.exists_of_findSome?_eq_some hx;obtain⟨m,h1,h2⟩:=Option.map_eq_some_iff.1 e;subst h2;exact⟨h.decl_ok h1,hc⟩
theorem More.method {s n:Nm} {k:Int} (hs:s≠z):fi E' s n k=fi E s n k:=by
 unfold fi;rw[h.supers hs,h.ifaces hs,h.first (h.vne (ir E s)),h.first (h.vne (ld E s)),h.first fun t ht=>h.vne (ir E s) t (List.mem_of_mem_take ht)]
theorem More.sup_z:bP E z=[]:=by
 unfold bP fT;rw[h.none]
theorem More.ifc_z:cH E z=[]:=by
 unfold cH;rw[h.sup_z];rfl
theorem More.method_ok {s n:Nm} {k:Int} {x:Nm×Md} (hx:fi E s n k=some x):OkM z x.2/\s≠z:=by
 refine⟨?_,fun e=> ?_⟩
 ·unfold fi at hx;split at hx
  ·exact(h.first_ok hx).1
  ·split at hx
   ·rename_i y hy;cases hx;exact(h.first_ok hy).1
   ·exact(h.first_ok hx).1
 ·subst e;unfold fi at hx;rw[h.sup_z,h.ifc_z] at hx;split at hx
  ·cases hx
  ·cases hx
theorem More.eWith {l:List Nm} {n:Nm} {k:Int} (hl:∀s∈l,s≠z):mC E' l n k=mC E l n k:=by
 unfold mC;exact List.filter_congr fun s hs=>by rw[h.decl (hl s hs)]
theorem More.most {l:List Nm} {n:Nm} {k:Int} (hl:∀s∈l,s≠z):gH E' l n k=gH E l n k:=by
 unfold gH;rw[h.eWith hl];refine List.filter_congr fun s hs=> ?_
 congr 1
 have hw:∀t∈mC E l n k,t≠z:=fun t ht=>hl t (List.mem_filter.1 ht).1
 revert hw;generalize mC E l n k=w
 intro hw;induction w with
 |nil=>rfl
 |cons t r ih=>rw[List.any_cons,List.any_cons,h.subt (hw t (bL ..)),ih fun s hs=>hw s (bt _ hs)]
theorem More.known {t:Ty} (ht:cu E t=true):di z t/\cu E' t=true:=by
 unfold cu at ht ⊢;by_cases e:t.base=76
 ·rw[aP e,Bool.not_true,Bool.false_or] at ht ⊢;have:=h.ne ht;exact⟨fun _=>this,by rw[h.same _ this];exact ht⟩
 ·rw[ab e];exact⟨oJ e,rfl⟩
theorem More.ifc {t:Ty} (ht:di z t):rY E' t=rY E t:=by
 unfold rY;by_cases e:t.base=76
 ·rw[h.eCls (ht e)]
 ·rw[ab e,Bool.and_false,Bool.false_and,Bool.false_and]
theorem More.args:∀{ps:List Pc} {xs:List Ty},(∀a∈xs,di z a)->iz E' ps xs=iz E ps xs
 |[],_,_=>rfl
 |_::_,[],_=>rfl
 |p::l,a::r,ha=>by
  rw[iz,iz,h.asg (ha a (bL ..)),More.args fun a hs=>ha a (bt _ hs)]
end
def eO (u:Cd) (S:Sc):Sc:={S with pr:=S.pr++[u]}
structure OkSc (z:Nm) (S:Sc):Prop where
 ci:S.ci<S.pr.length
 pr:∀d∈S.pr,OkC z d
 loc:∀p∈S.loc,di z p.ty
theorem nH {b:Bool} {t:Ty} {z:Nm} (h:di z t):di z (eC b t).1:=by
 unfold eC;split
 ·exact h
 ·exact kf z
section
variable {z:Nm} {E E' :List Cd} {u:Cd} {S:Sc} (h:More z E E') (hu:u.name=z) (hS:OkSc z S)
include h hu hS
omit h hu in
theorem En:cB S∈S.pr:=by
 unfold cB;rw[List.getD_eq_getElem?_getD,List.getElem?_eq_getElem hS.ci];exact List.getElem_mem hS.ci
omit h hu in
theorem A5:cB (eO u S)=cB S:=by
 unfold cB eO;simp only[List.getD_eq_getElem?_getD];rw[List.getElem?_append_left hS.ci]
omit h hu in
theorem Eo (o:Nm) (fl:Int):je (eO u S) o fl=je S o fl:=by unfold je;rw[A5 hS]
omit hu in
theorem vm {s n:Nm} {st:Bool} {xs:List Ty} (ha:∀a∈xs,di z a) (h0:(gZ E S s n st xs).2=0):gZ E' (eO u S) s n st xs=gZ E S s n st xs/\di z (gZ E S s n st xs).1:=by
 unfold gZ at h0 ⊢;cases hm:fi E s n xs.length with
 |none=>rw[hm] at h0;cases h0
 |some x=>
  obtain⟨o,m⟩:=x;obtain⟨ao,hs⟩:=h.method_ok hm;rw[h.method hs,hm];dsimp only;rw[Eo hS,h.args ha];refine⟨rfl,?_⟩;split
  ·exact kf z
  ·split
   ·exact ao.res
   ·exact kf z
omit hu in
theorem Qg {n:Nm} {xs:List Ty} (ha:∀a∈xs,di z a) (h0:(jo E S n xs).2=0):jo E' (eO u S) n xs=jo E S n xs/\di z (jo E S n xs).1:=by
 have tO:=(hS.pr _ (En hS)).sup;have e:jo E' (eO u S) n xs=jo E S n xs:=by
  unfold jo at h0 ⊢;rw[A5 hS];show(if(S.st||S.su||_)=true then _ else _)=_;split
  ·rfl
  ·rename_i hc;rw[aa hc] at h0;rw[h.method tO];cases hm:fi E (cB S).super n xs.length with
   |none=>rfl
   |some x=>
    obtain⟨o,m⟩:=x;rw[hm] at h0;dsimp only at h0 ⊢;split
    ·rfl
    ·rename_i hc;rw[aa hc] at h0;rw[h.supers tO,h.first (h.vne (ir E _))];split
     ·rename_i hc;rw[ai hc] at h0;exact(vm h hS ha h0).1
     ·rename_i hc;rw[aa hc] at h0;rw[h.ifaces tO,h.most (h.vne (ld E _))];split
      ·rename_i s hs;rw[hs] at h0;dsimp only at h0;have eQ:s≠z:=by
        have:s∈gH E (cH E (cB S).super) n xs.length:=by rw[hs];exact List.mem_singleton.2 rfl
        exact h.vne (ld E _) s (List.mem_filter.1 (List.mem_filter.1 this).1).1
       rw[h.decl eQ];split
       ·rename_i hc;rw[ai hc] at h0;exact(vm h hS ha h0).1
       ·rfl
      ·rfl
 refine⟨e,?_⟩;unfold jo at h0 ⊢;split
 ·exact kf z
 ·rename_i hc;rw[aa hc] at h0;split
  ·exact kf z
  ·rename_i o m hm;rw[hm] at h0;dsimp only at h0;split
   ·exact kf z
   ·rename_i hc;rw[aa hc] at h0;split
    ·rename_i hc;rw[ai hc] at h0;exact(vm (u:=u) h hS ha h0).2
    ·rename_i hc;rw[aa hc] at h0;split
     ·rename_i s hs;rw[hs] at h0;dsimp only at h0;split
      ·rename_i hc;rw[ai hc] at h0;exact(vm (u:=u) h hS ha h0).2
      ·exact kf z
     ·exact kf z
theorem Ka {s:Nm} {xs:List Ty} (hs:s≠z) (ha:∀a∈xs,di z a):mJ E' (eO u S) s xs=mJ E S s xs:=by
 unfold mJ;rw[h.decl hs];cases hm:cM E s bB xs.length with
 |some m=>dsimp only;rw[Eo hS,h.args ha]
 |none=>
  dsimp only;have e:(eO u S).pr.find? (fun d=>decide (d.name=s))=S.pr.find? fun d=>decide (d.name=s):=by
   show(S.pr++[u]).find? _=_;rw[List.find?_append];cases S.pr.find? fun d=>decide (d.name=s) with
   |some x=>rfl
   |none=>
    have:decide (u.name=s)=false:=ab fun e=>hs (by rw[<- e,hu])
    simp [this]
  rw[e]
omit hu hS in
theorem WH {op:Nm} {a b:Ty} (ha:di z a) (hb:di z b):gw E' op a b=gw E op a b:=by unfold gw;rw[h.asg ha,h.asg hb]
omit h hu hS in
theorem WI {op:Nm} {a b:Ty} (ha:di z a):di z (gw E op a b).1:=by
 unfold gw;split
 ·exact nH ha
 ·split
  ·exact nH (oJ (by decide))
  ·split
   ·exact nH (oJ (by decide))
   ·exact nH (oJ (by decide))
omit hu hS in
theorem Uo {k:Int} {ty a:Ty} (ha:di z a) (h0:(kJ E k ty a).2=0):kJ E' k ty a=kJ E k ty a/\di z (kJ E k ty a).1:=by
 unfold kJ at h0 ⊢;by_cases hk:cu E ty=true
 ·obtain⟨h1,h2⟩:=h.known hk;rw[ai hk,ai h2,h.asg ha,h.asg h1,h.ifc ha,h.ifc h1];refine⟨rfl,nH ?_⟩;split
  ·exact oJ (by decide)
  ·exact h1
 ·rw[aa hk] at h0;cases h0
omit hu in
theorem KC {st:Bool} {c s:Nm} (h0:(lL E S st c s).2=0):lL E' (eO u S) st c s=lL E S st c s/\di z (lL E S st c s).1:=by
 unfold lL at h0 ⊢;cases hf:fk E c s with
 |none=>rw[hf] at h0;cases h0
 |some x=>
  obtain⟨o,f⟩:=x;obtain⟨h1,_,h2⟩:=h.field_ok hf;rw[h.field h2,hf];dsimp only;rw[Eo hS];refine⟨rfl,?_⟩;split
  ·exact kf z
  ·exact h1
omit hu in
theorem SS {k:Int} {s c:Nm} {xs:List Ty} (h0:(fC E S k s c xs).2=0):fC E' (eO u S) k s c xs=fC E S k s c xs/\di z (fC E S k s c xs).1:=by
 unfold fC at h0 ⊢;split
 ·rename_i hk;rw[ai hk] at h0;show(match S.loc.find? _ with |some p=>_ |none=>_)=_/\_;refine⟨rfl,?_⟩;split
  ·rename_i p hp;exact hS.loc p (List.mem_of_find?_eq_some hp)
  ·exact kf z
 ·rename_i hk;rw[aa hk] at h0;split
  ·rename_i hk;rw[ai hk] at h0;split
   ·rename_i hr;rw[ai hr] at h0;exact KC h hS h0
   ·exact⟨rfl,kf z⟩
  ·rename_i hk;rw[aa hk] at h0;exact KC h hS h0
theorem S3 {k:Int} {c:Nm} {ty:Ty} {xs:List Ty} (ha:∀a∈xs,di z a) (h0:(gX E S k c ty xs).2=0):gX E' (eO u S) k c ty xs=gX E S k c ty xs/\di z (gX E S k c ty xs).1:=by
 unfold gX at h0 ⊢;split
 ·rename_i hk;rw[ai hk] at h0;by_cases hn:cu E ty=true
  ·obtain⟨h1,h2⟩:=h.known hn;rw[ai hn,ai h2];exact⟨rfl,nH fun e=>h1 e⟩
  ·rw[aa hn] at h0;cases h0
 ·rename_i hk;rw[aa hk] at h0;cases hc:cls E c with
  |none=>rw[hc] at h0;cases h0
  |some d=>
   have hz:c≠z:=h.ne (by rw[hc];rfl);rw[h.same c hz,hc];dsimp only;rw[Ka h hu hS hz ha];refine⟨rfl,?_⟩;split
   ·exact kf z
   ·exact fun _=>hz
omit h hu in
theorem Vr {k:Int} (hz:lH≠z/\aS≠z):jW (eO u S) k=jW S k/\di z (jW S k).1:=by
 unfold jW;rw[A5 hS];refine⟨rfl,?_⟩;split
 ·exact oJ (by decide)
 ·split
  ·exact oJ (by decide)
  ·split
   ·exact fun _=>hz.1
   ·split
    ·exact fun _=>hz.2
    ·split
     ·exact kf z
     ·exact fun _=>(hS.pr _ (En hS)).nm
theorem T7 {k:Int} {s c:Nm} {ty:Ty} {xs:List Ty} (hz:lH≠z/\aS≠z) (ha:∀a∈xs,di z a) (h0:(bf E S k s c ty xs).2=0):
  bf E' (eO u S) k s c ty xs=bf E S k s c ty xs/\di z (bf E S k s c ty xs).1:=by
 have hd:∀i,di z (xs.getD i aj):=fun i=>by
  rw[List.getD_eq_getElem?_getD];cases e:xs[i]? with
  |none=>exact kf z
  |some a=>exact ha a (List.mem_of_getElem? e)
 have ht:∀a∈xs.tail,di z a:=fun a hm=>ha a (List.mem_of_mem_tail hm)
 unfold bf at h0 ⊢;by_cases q0:k=6\/k=7\/k=8
 ·rw[ai q0] at h0;rw[ai q0,ai q0];exact SS h hS h0
 rw[aa q0] at h0;rw[aa q0,aa q0];by_cases q1:k=9
 ·rw[ai q1] at h0;rw[ai q1,ai q1];exact⟨rfl,nH fun e=>hd 0 e⟩
 rw[aa q1] at h0;rw[aa q1,aa q1];by_cases q2:k=19
 ·rw[ai q2] at h0;rw[ai q2,ai q2];exact⟨rfl,nH (oJ (by decide))⟩
 rw[aa q2] at h0;rw[aa q2,aa q2];by_cases q3:k=10
 ·rw[ai q3] at h0;rw[ai q3,ai q3];split
  ·rename_i hk;rw[ai hk] at h0;exact vm h hS ht h0
  ·exact⟨rfl,kf z⟩
 rw[aa q3] at h0;rw[aa q3,aa q3];by_cases q4:k=11
 ·rw[ai q4] at h0;rw[ai q4,ai q4];exact vm h hS ha h0
 rw[aa q4] at h0;rw[aa q4,aa q4];by_cases q5:k=12
 ·rw[ai q5] at h0;rw[ai q5,ai q5];exact Qg h hS ha h0
 rw[aa q5] at h0;rw[aa q5,aa q5];by_cases q6:k=13\/k=14
 ·rw[ai q6] at h0;rw[ai q6,ai q6];exact S3 h hu hS ha h0
 rw[aa q6] at h0;rw[aa q6,aa q6];by_cases q7:k=15
 ·rw[ai q7] at h0;rw[ai q7,ai q7];exact⟨rfl,nH (hd 0)⟩
 rw[aa q7] at h0;rw[aa q7,aa q7];by_cases q8:k=16
 ·rw[ai q8] at h0;rw[ai q8,ai q8];exact⟨WH h (hd 0) (hd 1),WI (hd 0)⟩
 rw[aa q8] at h0;rw[aa q8,aa q8];by_cases q9:k=17\/k=18
 ·rw[ai q9] at h0;rw[ai q9,ai q9];exact Uo h (hd 0) h0
 rw[aa q9] at h0;rw[aa q9,aa q9];by_cases q10:k=20
 ·rw[ai q10] at h0;rw[ai q10,ai q10];exact⟨rfl,nH (oJ (by decide))⟩
 rw[aa q10] at h0;rw[aa q10,aa q10];by_cases q11:k=21
 ·rw[ai q11] at h0;rw[ai q11,ai q11];exact⟨rfl,nH (oJ (by decide))⟩
 rw[aa q11] at h0;rw[aa q11,aa q11];exact Vr hS hz
end
section
variable {z:Nm} {E E' :List Cd} {u:Cd} {S:Sc}
mutual
theorem vi (h:More z E E') (hu:u.name=z) (hS:OkSc z S) (hz:lH≠z/\aS≠z):∀e:Ex,(bJ E S e).2=0->bJ E' (eO u S) e=bJ E S e/\di z (bJ E S e).1
 | .mk k n s c ty es=>fun h0=>by
  rw[bJ] at h0;have h1:(bS E S es).2=0:=by
   by_cases e:(bS E S es).2=0
   ·exact e
   ·rw[aa e] at h0;exact absurd h0 e
  rw[ai h1] at h0;have h2:(bf E S k s c ty (bS E S es).1).2=0:=by
   by_cases e:(bf E S k s c ty (bS E S es).1).2=0
   ·exact e
   ·rw[aa e] at h0;exact absurd h0 e
  obtain⟨q1,q2⟩:=Eg h hu hS hz es h1;obtain⟨q3,q4⟩:=T7 h hu hS hz q2 h2;rw[bJ,bJ,q1,q3,ai h1,ai h2];exact⟨rfl,q4⟩
theorem Eg (h:More z E E') (hu:u.name=z) (hS:OkSc z S) (hz:lH≠z/\aS≠z):∀l:List Ex,(bS E S l).2=0->bS E' (eO u S) l=bS E S l/\∀a∈(bS E S l).1,di z a
 |[]=>fun _=>⟨by rw[bS,bS],fun a ha=>by rw[bS] at ha;cases ha⟩
 |e::r=>fun h0=>by
  rw[bS] at h0;have h1:(bJ E S e).2=0:=by
   by_cases q:(bJ E S e).2=0
   ·exact q
   ·rw[aa q] at h0;exact absurd h0 q
  rw[ai h1] at h0;have h2:(bS E S r).2=0:=by
   by_cases q:(bS E S r).2=0
   ·exact q
   ·rw[aa q] at h0;exact absurd h0 q
  obtain⟨q1,q2⟩:=vi h hu hS hz e h1;obtain⟨q3,q4⟩:=Eg h hu hS hz r h2;rw[bS,bS,q1,q3,ai h1,ai h2];refine⟨rfl,fun a ha=> ?_⟩;rcases List.mem_cons.1 ha with rfl |ha
  ·exact q2
  ·exact q4 a ha
end
end
section
variable {z:Nm} {E E' :List Cd} {u:Cd} {S:Sc}
theorem iZ {p:Prop} [Decidable p] {a b:Int} (h:(if p then a else b)=0):(p/\a=0)\/(¬p/\b=0):=by
 by_cases hp:p
 ·rw[ai hp] at h;exact .inl ⟨hp,h⟩
 ·rw[aa hp] at h;exact .inr ⟨hp,h⟩
theorem OkSc.loc1 (hS:OkSc z S) {t:Ty} {s:Nm} (ht:di z t):OkSc z (gG S t s):=by
 refine⟨hS.ci,hS.pr,fun p hp=> ?_⟩;have hp:p∈S.loc++[⟨t,s⟩]:=hp;rcases List.mem_append.1 hp with hp |hp
 ·exact hS.loc p hp
 ·rw[List.mem_singleton.1 hp];exact ht
theorem OkSc.su (hS:OkSc z S):OkSc z {S with su:=true}:=⟨hS.ci,hS.pr,hS.loc⟩
theorem Ec (h:More z E E') (hu:u.name=z) (hS:OkSc z S) (hz:lH≠z/\aS≠z) {e:Ex} {x:Ty} (h0:ib E S e x=0):ib E' (eO u S) e x=0:=by
 unfold ib at h0 ⊢;rcases iZ h0 with ⟨_,h1⟩ |⟨h1,h2⟩
 ·cases h1
 ·obtain⟨q1,q2⟩:=vi h hu hS hz e h2;rw[q1,h.asg q2,aa h1];exact h2
theorem Kk (h:More z E E') {ty:Ty} {s:Nm} (h0:fR E S ty s=0):fR E' (eO u S) ty s=0/\di z ty:=by
 unfold fR at h0 ⊢;rcases iZ h0 with ⟨_,h1⟩ |⟨h1,h2⟩
 ·cases h1
 ·have hk:cu E ty=true:=by
   cases hk:cu E ty with
   |true=>rfl
   |false=>rw[hk] at h1;exact absurd rfl h1
  obtain⟨q1,q2⟩:=h.known hk;rw[hk] at h1;rw[q2];refine⟨aa h1,q1⟩
theorem Ef (h:More z E E') (hu:u.name=z) (hS:OkSc z S) (hz:lH≠z/\aS≠z) {l:List Ex} (h0:gr E S l=0):gr E' (eO u S) l=0:=by
 unfold gr at h0 ⊢;rcases iZ h0 with ⟨_,h1⟩ |⟨h1,h2⟩
 ·cases h1
 ·rcases iZ h2 with ⟨h3,h4⟩ |⟨h3,h4⟩
  ·obtain⟨q1,q2⟩:=Eg h hu hS.su hz l h3;have q3:=Ka (xs:=(bS E {S with su:=true} l).1) h hu hS (hS.pr _ (En hS)).sup q2;rw[A5 hS];have e:({eO u S with su:=true}:Sc)=eO u {S with su:=true}:=rfl;rw[e,q1,q3,ai h3];show(if S.st=true then(72:Int) else _)=0;rw[aa h1];exact h4
  ·exact absurd h4 h3
theorem U6 (h:More z E E') (hu:u.name=z) (hS:OkSc z S) (hz:lH≠z/\aS≠z) {e:Ex} (h0:tE E S e=0):tE E' (eO u S) e=0:=by
 unfold tE at h0 ⊢;rcases iZ h0 with ⟨h1,h2⟩ |⟨h1,h2⟩
 ·rw[ai h1];exact h2
 ·rw[aa h1];rcases iZ h2 with ⟨_,h3⟩ |⟨h3,h4⟩
  ·cases h3
  ·obtain⟨q1,q2⟩:=vi h hu hS hz e h4;rw[q1,h.asg q2,aa]
   ·exact h4
   ·exact h3
theorem Kg (E:List Cd) (S:Sc) (t:Bool):bT E S t []=0:=by rw[bT]
mutual
theorem U3 (h:More z E E') (hu:u.name=z) (hz:lH≠z/\aS≠z):∀(s:St) (S:Sc),OkSc z S->(gu E S s).2=0->gu E' (eO u S) s=(eO u (gu E S s).1,0)/\OkSc z (gu E S s).1
 | .mk k name ty tg ex body alt,S,hS,h0=>by
  rw[gu] at h0;by_cases k1:k=1
  ·rw[ai k1] at h0;by_cases v:fR E S ty name=0
   ·rw[ai v] at h0;by_cases w:ib E S ex ty=0
    ·obtain⟨v1,v2⟩:=Kk (u:=u) h v;have w1:=Ec h hu hS hz w;rw[gu,gu,ai k1,ai k1,ai v,ai v1,ai w,ai w1];exact⟨rfl,hS.loc1 v2⟩
    ·rw[aa w] at h0;exact absurd h0 w
   ·rw[aa v] at h0;exact absurd h0 v
  ·rw[aa k1] at h0;rw[gu,gu,aa k1,aa k1];refine⟨?_,hS⟩;refine Prod.ext rfl ?_;dsimp only at h0 ⊢;by_cases k2:k=2
   ·rw[ai k2] at h0 ⊢;rcases iZ h0 with ⟨h1,h2⟩ |⟨h1,h2⟩
    ·obtain⟨q1,q2⟩:=vi h hu hS hz tg h1;rw[q1,ai h1];exact Ec h hu hS hz h2
    ·exact absurd h2 h1
   rw[aa k2] at h0 ⊢;by_cases k3:k=3
   ·rw[ai k3] at h0 ⊢;rw[(vi h hu hS hz ex h0).1];exact h0
   rw[aa k3] at h0 ⊢;by_cases k7:k=7
   ·rw[ai k7] at h0 ⊢;exact Ec h hu hS hz h0
   rw[aa k7] at h0 ⊢;by_cases k6:k=6
   ·rw[ai k6] at h0 ⊢;exact U6 h hu hS hz h0
   rw[aa k6] at h0 ⊢;by_cases k8:k=8
   ·rw[ai k8] at h0 ⊢;rcases iZ h0 with ⟨h1,h2⟩ |⟨h1,h2⟩
    ·obtain⟨v1,v2⟩:=Kk (u:=u) h h1;rcases iZ h2 with ⟨h3,h4⟩ |⟨_,h4⟩
     ·rcases iZ h4 with ⟨h5,h6⟩ |⟨h5,h6⟩
      ·have b1:=rD h hu hz body S false hS h5;have b2:=rD h hu hz alt _ false (hS.loc1 (s:=name) v2) h6;have e:gG (eO u S) ty name=eO u (gG S ty name):=rfl;rw[ai v1,h.asg v2,ai h3,ai b1,e];exact b2
      ·exact absurd h6 h5
     ·cases h4
    ·exact absurd h2 h1
   rw[aa k8] at h0 ⊢;by_cases k11:k=11
   ·rw[ai k11] at h0 ⊢;exact Ef h hu hS hz h0
   rw[aa k11] at h0 ⊢;by_cases k10:k=10
   ·rw[ai k10] at h0 ⊢;exact rD h hu hz body S false hS h0
   rw[aa k10] at h0 ⊢;rcases iZ h0 with ⟨h1,h2⟩ |⟨h1,h2⟩
   ·rw[(vi h hu hS hz ex h1).1,ai h1];rcases iZ h2 with ⟨h3,h4⟩ |⟨_,h4⟩
    ·rw[ai h3];rcases iZ h4 with ⟨h5,h6⟩ |⟨h5,h6⟩
     ·rw[ai (rD h hu hz body S false hS h5)];exact rD h hu hz alt S false hS h6
     ·exact absurd h6 h5
    ·cases h4
   ·exact absurd h2 h1
theorem rD (h:More z E E') (hu:u.name=z) (hz:lH≠z/\aS≠z):∀(l:List St) (S:Sc) (t:Bool),OkSc z S->bT E S t l=0->bT E' (eO u S) t l=0
 |[],S,t,_,_=>Kg E' _ t
 |s::r,S,t,hS,h0=>by
  rw[bT] at h0 ⊢;rcases iZ h0 with ⟨_,h1⟩ |⟨h1,h2⟩
  ·cases h1
  ·rw[aa h1];rcases iZ h2 with ⟨h3,h4⟩ |⟨h3,h4⟩
   ·obtain⟨q1,q2⟩:=U3 h hu hz s S hS h3;rw[q1,ai rfl];exact rD h hu hz r _ _ q2 h4
   ·exact absurd h4 h3
end
end
def dW:Nm:=[122,122,47,85,110,117,115,101,100]
def cD:Cd:=⟨1,dW,aS,[],[],[],[]⟩
def yF (z:Nm) (t:Ty):Bool:= !decide (t.base=76)|| !decide (t.name=z)
def EM (z:Nm) (d:Cd):Bool:= !decide (d.name=z)&& !decide (d.super=z)&&d.ifs.all (fun s=> !decide (s=z))&&d.fields.all (fun f=>yF z f.ty)&&d.methods.all (fun m=>yF z m.res&&m.params.all fun p=>yF z p.ty)
theorem DY {z:Nm} {t:Ty} (h:yF z t=true):di z t:=fun hb hn=>by
 unfold yF at h;rw[aP hb,aP hn] at h;cases h
theorem D3 {z:Nm} {d:Cd} (h:EM z d=true):OkC z d:=by
 unfold EM at h;simp only[bw,Bool.not_eq_true',decide_eq_false_iff_not,List.all_eq_true] at h;obtain⟨⟨⟨⟨h1,h2⟩,h3⟩,h4⟩,h5⟩:=h;exact⟨h1,h2,h3,fun f hf=>DY (h4 f hf),fun m hm=>⟨DY (h5 m hm).1,fun p hp=>DY ((h5 m hm).2 p hp)⟩⟩
theorem IL:bb.all (EM dW)=true:=by kernel_rfl
theorem IM:(cls bb aS).isSome=true:=by kernel_rfl
theorem Q1:(cls bb []).isNone=true:=by kernel_rfl
theorem Q2:bb.length=21:=by kernel_rfl
def Bv (d:Cd):Bool:=decide (d.super=[])&&decide (d.ifs=[])&& !hasB d.fl 528&&d.methods.all (fun m=> !hasB m.fl 1024)
theorem C8:Bv (cd bb aS)=true:=by kernel_rfl
def K3 (o:Option Md):Bool:=match o with |some m=> !hasB m.fl 2&&decide (m.params.length=0) |none=>false
theorem Q4:K3 (cM bb aS bB 0)=true:=by kernel_rfl
theorem Ji:lH≠dW/\aS≠dW:=⟨by decide,by decide⟩
theorem any_eq {α:Type} {P Q:α->Bool} {l:List α} (hl:∀x∈l,P x=Q x):l.any P=l.any Q:=by
 induction l with
 |nil=>rfl
 |cons a r ih=>rw[List.any_cons,List.any_cons,hl a (bL ..),ih fun x hx=>hl x (bt _ hx)]
theorem find_eq {α:Type} {P Q:α->Bool} {l:List α} (hl:∀x∈l,P x=Q x):l.find? P=l.find? Q:=by
 induction l with
 |nil=>rfl
 |cons a r ih=>rw[List.find?_cons,List.find?_cons,hl a (bL ..),ih fun x hx=>hl x (bt _ hx)]
theorem JY {β:Type} {f g:Nm->List β} {l:List Nm} (hl:∀x∈l,f x=g x):l.flatMap f=l.flatMap g:=by
 induction l with
 |nil=>rfl
 |cons a r ih=>rw[List.flatMap_cons,List.flatMap_cons,hl a (bL ..),ih fun x hx=>hl x (bt _ hx)]
section
variable {E E' :List Cd} {z:Nm} (h:More z E E')
include h
theorem Vo {d:Cd} (hd:NmsOk E d):NmsOk E' d:=
 ⟨hd.pre,by rw[h.same _ (h.ne hd.sup)];exact hd.sup,fun s hs=>by rw[h.same _ (h.ne (hd.ifs s hs))];exact hd.ifs s hs,fun f hf=>(h.known (hd.fld f hf)).2,fun m hm p hp=>(h.known (hd.par m hm p hp)).2,fun m hm=>(h.known (hd.res m hm)).2⟩
theorem Um {d:Cd} (hd:OkC z d):n7 E' d=n7 E d:=by
 unfold n7;rw[h.supers hd.sup,h.reach (Vis.nil E) hd.ifs]
theorem TU {d:Cd} (hd:OkC z d):nU E' d=nU E d:=by
 unfold nU;rw[h.eCls hd.sup,any_eq fun s hs=>by rw[h.eCls (hd.ifs s hs)]]
theorem SH {d:Cd} (hd:OkC z d):pV E' d=pV E d:=by
 have e1:(d.fields.find? fun f=>(fk E' d.super f.name).isSome)=d.fields.find? fun f=>(fk E d.super f.name).isSome:=find_eq fun f hf=>by rw[h.field hd.sup]
 have e2:d.methods.find? (BS E' d)=d.methods.find? (BS E d):=find_eq fun m hm=>by
  unfold BS;rw[h.supers hd.nm,h.ifaces hd.nm];congr 1
  refine any_eq fun s hs=> ?_
  have hs:s≠z:=by
   rcases List.mem_append.1 hs with hs |hs
   ·exact h.vne (ir E d.name) s (List.mem_of_mem_tail hs)
   ·exact h.vne (ld E d.name) s hs
  unfold oh;rw[h.decl hs]
 rw[H4,H4,e1,e2]
theorem S6 {s:Nm} (hs:s≠z) (g:Md):kp E' s g=kp E s g:=by
 unfold kp;rw[h.supers hs,h.ifaces hs,h.first (h.vne (ir E s)),h.most (h.vne (ld E s))];cases eA E (bP E s) g.name g.params.length with
 |some x=>rfl
 |none=>
  dsimp only;split
  ·rename_i t ht;have hm:t∈gH E (cH E s) g.name g.params.length:=by rw[ht];exact List.mem_singleton.2 rfl
   have:t≠z:=h.vne (ld E s) t (List.mem_filter.1 (List.mem_filter.1 hm).1).1;rw[h.decl this]
  ·rfl
theorem RH {d:Cd} (hd:OkC z d):nN E' d=nN E d:=by
 unfold nN;rw[h.supers hd.nm,h.ifaces hd.nm,JY fun s hs=>by rw[h.eCls (h.vne (ir E d.name) s hs)],JY (l:=cH E d.name) fun s hs=>by rw[h.eCls (h.vne (ld E d.name) s hs)]];simp only[S6 h hd.nm]
end
section
variable {E E' pr:List Cd} {u:Cd} {z:Nm}
theorem Uq (h:More z E E') (hu:u.name=z) (hz:lH≠z/\aS≠z) (hp:∀d∈pr,OkC z d) {i:Nat} (hi:i<pr.length) {m:Md} (hm:m∈(pr.getD i ej).methods) (h0:jO E pr i m=0):jO E' (pr++[u]) i m=0:=by
 have hd:OkC z (pr.getD i ej):=by rw[nE hi];exact hp _ (List.getElem_mem hi)
 have hS:OkSc z ⟨pr,i,hasB m.fl 8,false,m.res,m.params⟩:=⟨hi,hp,(hd.mth m hm).par⟩;have e:(⟨pr++[u],i,hasB m.fl 8,false,m.res,m.params⟩:Sc)=eO u ⟨pr,i,hasB m.fl 8,false,m.res,m.params⟩:=rfl;unfold jO at h0 ⊢;rcases iZ h0 with ⟨_,h1⟩ |⟨h1,h2⟩
 ·cases h1
 ·rw[aa h1];rcases iZ h2 with ⟨h3,h4⟩ |⟨h3,h4⟩
  ·exact absurd h4 h3.2
  ·rw[e];have hc:¬(Bj m=true/\gr E' (eO u ⟨pr,i,hasB m.fl 8,false,m.res,m.params⟩) []≠0):=fun q=>by
    by_cases hs:gr E ⟨pr,i,hasB m.fl 8,false,m.res,m.params⟩ []=0
    ·exact q.2 (Ef h hu hS hz hs)
    ·exact h3 ⟨q.1,hs⟩
   rw[aa hc];rcases iZ h4 with ⟨_,h5⟩ |⟨h5,h6⟩
   ·cases h5
   ·have hb:=rD h hu hz m.body _ false hS h6;rw[aa (fun q=>h5 ⟨h6,q.2⟩)];exact hb
theorem Ur (h:More z E E') (hu:u.name=z) (hz:lH≠z/\aS≠z) (hp:∀d∈pr,OkC z d) {i:Nat} (hi:i<pr.length) (h0:BodsOk E pr i):BodsOk E' (pr++[u]) i:=by
 have hg:(pr++[u]).getD i ej=pr.getD i ej:=by simp only[List.getD_eq_getElem?_getD];rw[List.getElem?_append_left hi]
 have hS:OkSc z ⟨pr,i,false,false,fQ,[]⟩:=⟨hi,hp,fun p hp=>by cases hp⟩;have dz:OkSc z ⟨pr,i,true,false,fQ,[]⟩:=⟨hi,hp,fun p hp=>by cases hp⟩;refine⟨fun m hm hb=> ?_,fun q1 q2=> ?_,?_⟩
 ·rw[hg] at hm;exact Uq h hu hz hp hi hm (h0.mth m hm hb)
 ·rw[hg] at q1 q2;exact Ef h hu hS hz (h0.con q1 q2)
 ·rw[hg];exact rD h hu hz _ _ false dz h0.ini
end
section
variable {pr:List Cd}
theorem nJ (a b:List Cd) (s:Nm):cls (a++b) s=(cls a s).or (cls b s):=by unfold cls;rw[List.find?_append]
theorem rA {l:List Cd} {s:Nm} (h:∀d∈l,d.name≠s):cls l s=none:=by
 unfold cls;rw[xh];exact fun d hd=>ab (h d hd)
theorem Q5 {s:Nm} {d:Cd} (h:cls bb s=some d):d∈bb:=List.mem_of_find?_eq_some h
theorem SU (hn:∀d∈pr,d.name≠dW) (ao:∀d∈pr,OkC dW d):More dW (pr++bb) ((pr++[cD])++bb):=by
 have hl:=List.all_eq_true.1 IL;have sJ:cls bb dW=none:=rA fun d hd=>(D3 (hl d hd)).nm
 refine⟨fun s hs=> ?_,?_,fun s d hd=> ?_,?_⟩
 ·rw[nJ,nJ,nJ,rA (l:=[cD]) (s:=s) fun d hd=>by rw[List.mem_singleton.1 hd];exact fun e=>hs e.symm,Option.or_none]
 ·rw[nJ,rA hn,sJ];rfl
 ·rw[nJ] at hd;cases hc:cls pr s with
  |some d' =>
   rw[hc] at hd;cases hd;exact ao _ (List.mem_of_find?_eq_some hc)
  |none=>
   rw[hc,Option.none_or] at hd;exact D3 (hl d (Q5 hd))
 ·simp only[aZ,cQ,mb];omega
theorem Ed (pb:∀d∈pr,mG.isPrefixOf d.name=false):cd ((pr++[cD])++bb) aS=cd bb aS/\cls ((pr++[cD])++bb) aS=cls bb aS:=by
 have e:cls ((pr++[cD])++bb) aS=cls bb aS:=by
  rw[nJ,rA,Option.none_or];intro d hd e;rcases List.mem_append.1 hd with hd |hd
  ·have:=pb d hd;rw[e] at this;exact absurd this (by decide)
  ·rw[List.mem_singleton.1 hd] at e;exact absurd e (by decide)
 exact⟨by unfold cd;rw[e],e⟩
theorem DN (hn:∀d∈pr,d.name≠dW):cls ((pr++[cD])++bb) dW=some cD:=by
 rw[nJ,nJ,rA hn,Option.none_or];rfl
theorem UZ (cv:∀d∈pr,d.name≠[]):cls ((pr++[cD])++bb) []=none:=by
 rw[nJ,nJ,rA cv,Option.none_or];exact Option.isNone_iff_eq_none.1 Q1
theorem G5 (hn:∀d∈pr,d.name≠dW) (pb:∀d∈pr,mG.isPrefixOf d.name=false) (cv:∀d∈pr,d.name≠[]):bP ((pr++[cD])++bb) dW=[dW,aS]:=by
 obtain⟨d,hd⟩:=Option.isSome_iff_exists.1 IM;have ho:=C8;unfold cd Bv at ho;rw[hd] at ho;simp only[Option.getD_some,bw,cS] at ho;have hl:((pr++[cD])++bb).length+1=(pr.length+20)+1+1+1:=by simp only[aZ,cQ,mb,Q2]
 unfold bP;rw[hl,fT,DN hn];dsimp only;rw[aa (by decide),fT,show cD.super=aS from rfl,(Ed pb).2,hd];dsimp only;rw[aa (by decide),fT,ho.1.1.1,UZ cv];rfl
theorem CO (E:List Cd) (out:List Nm):gU E out []=out:=by
 unfold gU;rw[gk];rfl
theorem Oq (hn:∀d∈pr,d.name≠dW) (pb:∀d∈pr,mG.isPrefixOf d.name=false) (cv:∀d∈pr,d.name≠[]):cH ((pr++[cD])++bb) dW=[]:=by
 have ho:=C8;unfold Bv at ho;simp only[bw,cS] at ho;have e:(cd ((pr++[cD])++bb) dW).ifs=[]:=by unfold cd;rw[DN hn];rfl
 unfold cH;rw[G5 hn pb cv,List.foldl_cons,List.foldl_cons,List.foldl_nil,e,CO,(Ed pb).1,ho.1.1.2,CO]
theorem U1 (hn:∀d∈pr,d.name≠dW) (cv:∀d∈pr,d.name≠[]) (h:Acc (pr++bb) pr):Acc ((pr++[cD])++bb) (pr++[cD]):=by
 have pb:∀d∈pr,mG.isPrefixOf d.name=false:=fun d hd=>(wW.1 (h.p1 d hd)).pre
 have zF:∀s,(cls (pr++bb) s).isSome=true->s≠dW:=fun s hs e=>by
  have sJ:cls bb dW=none:=rA fun d hd=>(D3 (List.all_eq_true.1 IL d hd)).nm
  rw[e,nJ,rA hn,sJ] at hs;cases hs
 have Fy:∀t:Ty,cu (pr++bb) t=true->di dW t:=fun t ht hb=>by
  unfold cu at ht;rw[aP hb,Bool.not_true,Bool.false_or] at ht;exact zF _ ht
 have ao:∀d∈pr,OkC dW d:=fun d hd=>by
  have q:=wW.1 (h.p1 d hd);exact⟨hn d hd,zF _ q.sup,fun s hs=>zF _ (q.ifs s hs),fun f hf=>Fy _ (q.fld f hf),fun m hm=>⟨Fy _ (q.res m hm),fun p hp=>Fy _ (q.par m hm p hp)⟩⟩
 have hM:=SU hn ao;have ho:=C8;unfold Bv at ho;simp only[bw,cS,Bool.not_eq_true',List.all_eq_true] at ho;obtain⟨⟨⟨ho1,ho2⟩,ho3⟩,ho4⟩:=ho;have hO:=Ed pb;have zw:=G5 hn pb cv;have hif:=Oq hn pb cv;have yl:cd ((pr++[cD])++bb) dW=cD:=by unfold cd;rw[DN hn];rfl
 have key:∀{P:Cd->Prop},(∀d∈pr,P d)->P cD->∀d∈pr++[cD],P d:=fun h1 h2 d hd=>by
  rcases List.mem_append.1 hd with hd |hd
  ·exact h1 d hd
  ·rw[List.mem_singleton.1 hd];exact h2
 refine⟨key (fun d hd=>wW.2 (Vo hM (wW.1 (h.p1 d hd)))) ?_,key (fun d hd=>by rw[Um hM (ao d hd)];exact h.p2 d hd) ?_,key (fun d hd=>by rw[TU hM (ao d hd)];exact h.p3 d hd) ?_,key (fun d hd=>by rw[SH hM (ao d hd)];exact h.p4 d hd) ?_,key (fun d hd=>by rw[RH hM (ao d hd)];exact h.p5 d hd) ?_,fun i hi=> ?_⟩
 ·refine wW.2 ⟨by decide,?_,fun s hs=>(by cases hs),fun f hf=>(by cases hf),fun m hm=>(by cases hm),fun m hm=>(by cases hm)⟩;show(cls ((pr++[cD])++bb) aS).isSome=true;rw[hO.2];exact IM
 ·have e:n7 ((pr++[cD])++bb) cD=([],0):=by
   unfold n7;rw[show cD.super=aS from rfl,show cD.ifs=[] from rfl,CO,hM.supers Ji.2];have hc:(bP (pr++bb) aS).contains dW=false:=by
    rw[<- Bool.not_eq_true];intro hc;exact hM.vne (ir _ aS) dW (List.contains_iff_mem.1 hc) rfl
   rw[show cD.name=dW from rfl,hc];rfl
  rw[e]
 ·have e:nU ((pr++[cD])++bb) cD=([],0):=by
   unfold nU;rw[show cD.super=aS from rfl,hO.1,ho3];rfl
  rw[e]
 ·rfl
 ·have e:nN ((pr++[cD])++bb) cD=([],0):=by
   unfold nN;rw[aa (by decide),show cD.name=dW from rfl,zw,hif,List.flatMap_cons,List.flatMap_cons,List.flatMap_nil,List.append_nil,yl,hO.1,show cD.methods=[] from rfl,List.nil_append];rw[show((cd bb aS).methods.find? fun m=>hasB m.fl 1024&& !kp ((pr++[cD])++bb) dW m)=none from xh.2 fun m hm=>by rw[ho4 m hm];rfl];rfl
  rw[e]
 ·by_cases an:i<pr.length
  ·exact Dg.2 (Ur hM rfl Ji ao an (Dg.1 (h.p6 i an)))
  ·have dp:i=pr.length:=by
    rw[aZ] at hi;simp only[cQ,mb] at hi;omega
   have hg:(pr++[cD]).getD i ej=cD:=by simp [List.getD_eq_getElem?_getD,dp]
   refine Dg.2 ⟨fun m hm=> ?_,fun _ _=> ?_,?_⟩
   ·rw[hg] at hm;cases hm
   ·unfold gr;rw[aa (fun q=>by cases q),bS,ai rfl];have hc:cB ⟨pr++[cD],i,false,false,fQ,[]⟩=cD:=hg;rw[hc,show cD.super=aS from rfl];unfold mJ;have ed:cM ((pr++[cD])++bb) aS bB (([]:List Ty).length:Int)=cM bb aS bB 0:=by unfold cM;rw[hO.1];rfl
    rw[ed];have hl:=Q4;unfold K3 at hl;split at hl
    ·rename_i m hm;rw[hm];dsimp only;simp only[bw,cS] at hl;have Zt:m.params=[]:=List.eq_nil_of_length_eq_zero hl.2;unfold je;rw[hl.1,Zt,Bool.true_or,ai rfl];rfl
    ·cases hl
   ·rw[hg];exact Kg _ _ _
end
theorem xo:∀{l:List Cd} {seen:List Nm},(dS seen l).2=0->∀d∈l,iw d=true/\nZ d=false/\mO d=false
 |[],_,_,d,hd=>by cases hd
 |x::r,seen,h,d,hd=>by
  rw[dS] at h;rcases tA h with ⟨h1,h⟩ |⟨_,h⟩
  ·rcases tA h with ⟨_,h⟩ |⟨h2,h⟩
   ·cases h
   ·rcases tA h with ⟨_,h⟩ |⟨h3,h⟩
    ·cases h
    ·rcases List.mem_cons.1 hd with rfl |hd
     ·have h3:=(Bool.not_eq_true _).mp h3;rw[Bool.or_eq_false_iff] at h3;exact⟨h1,(Bool.not_eq_true _).mp h2,h3.2⟩
     ·exact xo h d hd
  ·cases h
theorem I7:∀{l:List Cd} {seen:List Nm},(dS seen l).2=0->(l.map (·.name)).Nodup/\∀d∈l,seen.contains d.name=false
 |[],_,_=>⟨List.nodup_nil,fun d hd=>by cases hd⟩
 |x::r,seen,h=>by
  rw[dS] at h;rcases tA h with ⟨h1,h⟩ |⟨_,h⟩
  ·rcases tA h with ⟨_,h⟩ |⟨h2,h⟩
   ·cases h
   ·rcases tA h with ⟨_,h⟩ |⟨h3,h⟩
    ·cases h
    ·have h3:=(Bool.not_eq_true _).mp h3;rw[Bool.or_eq_false_iff] at h3;obtain⟨q1,q2⟩:=I7 h;have q3:∀d∈r,seen.contains d.name=false/\d.name≠x.name:=fun d hd=>by
      have:=q2 d hd;rw[<- Bool.not_eq_true,List.contains_iff_mem,List.mem_append,not_or] at this;refine⟨?_,fun e=>this.2 (by rw[e];exact List.mem_singleton.2 rfl)⟩;rw[<- Bool.not_eq_true,List.contains_iff_mem];exact this.1
     refine⟨?_,fun d hd=> ?_⟩
     ·rw[aG,List.nodup_cons];refine⟨fun hm=> ?_,q1⟩;obtain⟨d,hd,e⟩:=List.mem_map.1 hm;exact(q3 d hd).2 e
     ·rcases List.mem_cons.1 hd with rfl |hd
      ·exact h3.1
      ·exact(q3 d hd).1
  ·cases h
theorem I6:∀{l:List Cd} {seen:List Nm},(∀d∈l,iw d=true/\nZ d=false/\mO d=false)->(l.map (·.name)).Nodup->(∀d∈l,seen.contains d.name=false)->(dS seen l).2=0
 |[],_,_,_,_=>rfl
 |x::r,seen,h1,h2,h3=>by
  rw[dS];obtain⟨a1,a2,a3⟩:=h1 x (bL ..);rw[aG,List.nodup_cons] at h2;have a4:=h3 x (bL ..);rw[ai a1,aa (by rw[a2];decide),aa (by rw[a3,a4];decide)];refine I6 (fun d hd=>h1 d (bt _ hd)) h2.2 fun d hd=> ?_
  rw[<- Bool.not_eq_true,List.contains_iff_mem,List.mem_append,not_or];have a5:=h3 d (bt _ hd);rw[<- Bool.not_eq_true,List.contains_iff_mem] at a5;refine⟨a5,fun q=>h2.1 ?_⟩;rw[<- List.mem_singleton.1 q];exact List.mem_map.2 ⟨d,hd,rfl⟩
theorem HP {l:List Cd}:(dS [] l).2=0↔(∀d∈l,iw d=true/\nZ d=false/\mO d=false)/\(l.map (·.name)).Nodup:=
 ⟨fun h=>⟨xo h,(I7 h).1⟩,fun h=>I6 h.1 h.2 fun _ _=>rfl⟩
theorem RL {d:Cd} (h:iw d=true):d.name≠[]:=fun e=>by
 unfold iw ly at h;rw[e] at h;have:iy []=false:=by kernel_rfl
 rw[this] at h;simp at h
theorem U0:(iw cD&& !nZ cD&& !mO cD)=true:=by kernel_rfl
theorem Nu (pr:List Cd) (hn:∀d∈pr,d.name≠dW) (h:(lj bb pr).2.2=0):(lj bb (pr++[cD])).2.2=0:=by
 obtain⟨h1,h2⟩:=Gf.1 h;obtain⟨c1,c2⟩:=HP.1 h1;have hu:=U0;simp only[bw,Bool.not_eq_true'] at hu;refine Gf.2 ⟨HP.2 ⟨fun d hd=> ?_,?_⟩,U1 hn (fun d hd=>RL (c1 d hd).1) h2⟩
 ·rcases List.mem_append.1 hd with hd |hd
  ·exact c1 d hd
  ·rw[List.mem_singleton.1 hd];exact⟨hu.1.1,hu.1.2,hu.2⟩
 ·rw[List.map_append,List.nodup_append];refine⟨c2,by simp,fun x hx y hy e=> ?_⟩;obtain⟨d,hd,rfl⟩:=List.mem_map.1 hx;rw[aG,List.map_nil,List.mem_singleton] at hy;exact hn d hd (by rw[e,hy];rfl)
def Bi (t:Ty):Bool:=decide (-9223372036854775808<t.dim)&&decide (t.dim<=9223372036854775807)
theorem I1 {t:Ty} (h:Bi t=true):dH t:=by
 unfold Bi at h;rw[bw,cS,cS] at h;exact h
theorem Q3:bb.all (fun d=>d.fields.all (fun f=>Bi f.ty)&&d.methods.all fun m=>Bi m.res)=true:=by kernel_rfl
theorem JI:∀{l:List Md} {m:Md},m∈l->b9 m.body<=ig l
 |[],m,h=>by cases h
 |x::r,m,h=>by
  rw[ig];rcases List.mem_cons.1 h with rfl |h
  ·exact Nat.le_max_left _ _
  ·exact dk (JI h) (Nat.le_max_right _ _)
theorem KF {pr:List Cd} (h:∀d∈pr,iw d=true):dr (pr++bb):=fun d hd=>by
 rcases List.mem_append.1 hd with hd |hd
 ·have hc:=h d hd;unfold iw at hc;simp only[bw,Bool.not_eq_true'] at hc;refine⟨fun f hf=> ?_,fun m hm=> ?_⟩
  ·have:=List.any_eq_false.1 hc.2.1.1.2 f hf;unfold vw at this;simp only[Bool.not_eq_true',Bool.not_eq_false,bw] at this;exact w9 this.1.1.1
  ·have:=List.any_eq_false.1 hc.2.1.2 m hm;simp only[Bool.not_eq_true',Bool.not_eq_false] at this;exact(GQ this).2.2.2.2
 ·have:=List.all_eq_true.1 Q3 d hd;rw[bw,List.all_eq_true,List.all_eq_true] at this;exact⟨fun f hf=>I1 (this.1 f hf),fun m hm=>I1 (this.2 m hm)⟩
theorem Ul {d:Cd} (h:iw d=true) (hd:nZ d=false):ClOk d:=by
 unfold iw at h;simp only[bw,Bool.not_eq_true'] at h;unfold nZ at hd;simp only[Bool.or_eq_false_iff,decide_eq_false_iff_not] at hd;have hb:=h.2.2;unfold tq at hb;rw[bw,cS] at hb;refine⟨fun m hm=>⟨?_,?_⟩,⟨_,hb.2⟩,hb.1,by omega⟩
 ·have:=List.any_eq_false.1 h.2.1.2 m hm;simpa using this
 ·have:=JI hm;omega
theorem T0 {pr B:List Cd} {d:Cd} (h:d∈pr):(cls (pr++B) d.name).isSome=true:=by
 unfold cls;rw[List.find?_isSome];exact⟨d,List.mem_append_left _ h,by simp⟩
section
variable {ad:Addr} {pr E:List Cd} {b:Nat} {a:Option Addr} {c:Nat} {L:List Cc}
theorem Vf (hE:dr E) (i:Nat) (hi:i<pr.length) (m:Mem) (hC:Ck m ad pr E b a c L) (hv:ClOk pr[i]) (hd:(cls E pr[i].name).isSome=true):FnH Tryz.prog 37 [.v (.pointer (some ad)),.v (.int .i64 1),.v (.int .i64 i)] ⟨[],[]⟩ m (lZ m (ei E pr 1 i)):=by
 obtain⟨X,x1,x2,x3,hX⟩:=lk hC.pr hi;have aL:bO a pr.length (i:Int)=True:=eq_true ⟨by omega,by omega,x2⟩;have av:= @cz _ _ _ 7 x1 rfl;have hS:=O4 pr[i] X m hC hX;have hK:ei E pr 1 i=rr E pr[i]:=by
  unfold ei;simp only[nE hi];rfl
 rw[hK];simp only[Cc.cs] at av hS;refine enter bj aq Tryz.func37 rfl rfl (by kernel_rfl) rfl ?_ ?_
 ·clear hS;simp only[go_sem]
 ·simp only[go_sem,bY (j:=0) hC.rd rfl,aL,av,Int.reduceEq,aV,aT];refine ak ((aC hS fun V=>rfl).mono ?_);clear hS;rintro r H' m1 aQ ⟨l1,rfl,rfl⟩;simp only[go_sem];exact⟨l1,rfl,rfl⟩
theorem Ve (hE:dr E) (i:Nat) (hi:i<pr.length) (m:Mem) (hC:Ck m ad pr E b a c L) (hv:ClOk pr[i]) (hd:(cls E pr[i].name).isSome=true):FnH Tryz.prog 37 [.v (.pointer (some ad)),.v (.int .i64 2),.v (.int .i64 i)] ⟨[],[]⟩ m (lZ m (ei E pr 2 i)):=by
 obtain⟨X,x1,x2,x3,hX⟩:=lk hC.pr hi;have aL:bO a pr.length (i:Int)=True:=eq_true ⟨by omega,by omega,x2⟩;have av:= @cz _ _ _ 7 x1 rfl;have hS:=RM pr[i] X m hC hX;have hK:ei E pr 2 i=n7 E pr[i]:=by
  unfold ei;simp only[nE hi];rfl
 rw[hK];simp only[Cc.cs] at av hS;refine enter bj aq Tryz.func37 rfl rfl (by kernel_rfl) rfl ?_ ?_
 ·clear hS;simp only[go_sem]
 ·simp only[go_sem,bY (j:=0) hC.rd rfl,aL,av,Int.reduceEq,aV,aT];refine ak ((aC hS fun V=>rfl).mono ?_);clear hS;rintro r H' m1 aQ ⟨l1,rfl,rfl⟩;simp only[go_sem];exact⟨l1,rfl,rfl⟩
theorem Vd (hE:dr E) (i:Nat) (hi:i<pr.length) (m:Mem) (hC:Ck m ad pr E b a c L) (hv:ClOk pr[i]) (hd:(cls E pr[i].name).isSome=true):FnH Tryz.prog 37 [.v (.pointer (some ad)),.v (.int .i64 3),.v (.int .i64 i)] ⟨[],[]⟩ m (lZ m (ei E pr 3 i)):=by
 obtain⟨X,x1,x2,x3,hX⟩:=lk hC.pr hi;have aL:bO a pr.length (i:Int)=True:=eq_true ⟨by omega,by omega,x2⟩;have av:= @cz _ _ _ 7 x1 rfl;have hS:=Rt pr[i] X m hC hX;have hK:ei E pr 3 i=nU E pr[i]:=by
  unfold ei;simp only[nE hi];rfl
 rw[hK];simp only[Cc.cs] at av hS;refine enter bj aq Tryz.func37 rfl rfl (by kernel_rfl) rfl ?_ ?_
 ·clear hS;simp only[go_sem]
 ·simp only[go_sem,bY (j:=0) hC.rd rfl,aL,av,Int.reduceEq,aV,aT];refine ak ((aC hS fun V=>rfl).mono ?_);clear hS;rintro r H' m1 aQ ⟨l1,rfl,rfl⟩;simp only[go_sem];exact⟨l1,rfl,rfl⟩
theorem Vb (hE:dr E) (i:Nat) (hi:i<pr.length) (m:Mem) (hC:Ck m ad pr E b a c L) (hv:ClOk pr[i]) (hd:(cls E pr[i].name).isSome=true):FnH Tryz.prog 37 [.v (.pointer (some ad)),.v (.int .i64 4),.v (.int .i64 i)] ⟨[],[]⟩ m (lZ m (ei E pr 4 i)):=by
 obtain⟨X,x1,x2,x3,hX⟩:=lk hC.pr hi;have aL:bO a pr.length (i:Int)=True:=eq_true ⟨by omega,by omega,x2⟩;have av:= @cz _ _ _ 7 x1 rfl;have hS:=QK pr[i] X m hC hX hd;have hK:ei E pr 4 i=pV E pr[i]:=by
  unfold ei;simp only[nE hi];rfl
 rw[hK];simp only[Cc.cs] at av hS;refine enter bj aq Tryz.func37 rfl rfl (by kernel_rfl) rfl ?_ ?_
 ·clear hS;simp only[go_sem]
 ·simp only[go_sem,bY (j:=0) hC.rd rfl,aL,av,Int.reduceEq,aV,aT];refine ak ((aC hS fun V=>rfl).mono ?_);clear hS;rintro r H' m1 aQ ⟨l1,rfl,rfl⟩;simp only[go_sem];exact⟨l1,rfl,rfl⟩
theorem Va (hE:dr E) (i:Nat) (hi:i<pr.length) (m:Mem) (hC:Ck m ad pr E b a c L) (hv:ClOk pr[i]) (hd:(cls E pr[i].name).isSome=true):FnH Tryz.prog 37 [.v (.pointer (some ad)),.v (.int .i64 5),.v (.int .i64 i)] ⟨[],[]⟩ m (lZ m (ei E pr 5 i)):=by
 obtain⟨X,x1,x2,x3,hX⟩:=lk hC.pr hi;have aL:bO a pr.length (i:Int)=True:=eq_true ⟨by omega,by omega,x2⟩;have av:= @cz _ _ _ 7 x1 rfl;have hS:=PC pr[i] X m hC hX;have hK:ei E pr 5 i=nN E pr[i]:=by
  unfold ei;simp only[nE hi];rfl
 rw[hK];simp only[Cc.cs] at av hS;refine enter bj aq Tryz.func37 rfl rfl (by kernel_rfl) rfl ?_ ?_
 ·clear hS;simp only[go_sem]
 ·simp only[go_sem,bY (j:=0) hC.rd rfl,aL,av,Int.reduceEq,aV,aT];refine ak ((aC hS fun V=>rfl).mono ?_);clear hS;rintro r H' m1 aQ ⟨l1,rfl,rfl⟩;simp only[go_sem];exact⟨l1,rfl,rfl⟩
theorem U9 (hE:dr E) (i:Nat) (hi:i<pr.length) (m:Mem) (hC:Ck m ad pr E b a c L) (hv:ClOk pr[i]) (hd:(cls E pr[i].name).isSome=true):FnH Tryz.prog 37 [.v (.pointer (some ad)),.v (.int .i64 6),.v (.int .i64 i)] ⟨[],[]⟩ m (lZ m (ei E pr 6 i)):=by
 obtain⟨X,x1,x2,x3,hX⟩:=lk hC.pr hi;have aL:bO a pr.length (i:Int)=True:=eq_true ⟨by omega,by omega,x2⟩;have av:= @cz _ _ _ 7 x1 rfl;have hS:=RQ hE i hi m hC hv;have hK:ei E pr 6 i=qi E pr i:=by
  unfold ei;simp only[nE hi];rfl
 rw[hK];simp only[Cc.cs] at av hS;refine enter bj aq Tryz.func37 rfl rfl (by kernel_rfl) rfl ?_ ?_
 ·clear hS;simp only[go_sem]
 ·simp only[go_sem,bY (j:=0) hC.rd rfl,aL,av,Int.reduceEq,aV,aT];refine ak ((aC hS fun V=>rfl).mono ?_);clear hS;rintro r H' m1 aQ ⟨l1,rfl,rfl⟩;simp only[go_sem];exact⟨l1,rfl,rfl⟩
theorem QG (hE:dr E) (n i:Nat) (hn:1<=n/\n<=6) (hi:i<pr.length) (m:Mem) (hC:Ck m ad pr E b a c L) (hv:ClOk pr[i]) (hd:(cls E pr[i].name).isSome=true):FnH Tryz.prog 37 [.v (.pointer (some ad)),.v (.int .i64 n),.v (.int .i64 i)] ⟨[],[]⟩ m (lZ m (ei E pr n i)):=by
 rcases(by omega:n=1\/n=2\/n=3\/n=4\/n=5\/n=6) with rfl |rfl |rfl |rfl |rfl |rfl
 ·exact Vf hE i hi m hC hv hd
 ·exact Ve hE i hi m hC hv hd
 ·exact Vd hE i hi m hC hv hd
 ·exact Vb hE i hi m hC hv hd
 ·exact Va hE i hi m hC hv hd
 ·exact U9 hE i hi m hC hv hd
end
theorem six:∀k,k<6->[1,2,3,4,5,6].drop k=(k+1)::[1,2,3,4,5,6].drop (k+1):=by decide
theorem NA (E pr:List Cd) (n:Nat) (r:List Nat):mE E pr (n::r)=if(kG E pr n (List.range pr.length)).2.2=0 then mE E pr r else kG E pr n (List.range pr.length):=rfl
theorem Nb (E pr:List Cd) (n i:Nat) (r:List Nat):kG E pr n (i::r)=if(ei E pr n i).2=0 then kG E pr n r else((pr.getD i ej).name,(ei E pr n i).1,(ei E pr n i).2):=rfl
section
variable {ad:Addr} {E:List Cd} {b:Nat} {a:Option Addr} {c:Nat} {L:List Cc}
theorem zW (pr:List Cd) (p:Option Addr) (n c:Nat) (m:Mem) (hg:Glob m) (Ci:∀d∈pr,CdB d) (h:gV m pr p n c) (hf:pr.length<=1099000):FnH Tryz.prog 12 [.v (.slice p n c)] ⟨[],[]⟩ m
  fun r H' m' =>ah m m' /\H' =⟨[],[]⟩/\r= .tup [.v (.string (bs (lj bb pr).1)),.v (.string (bs (lj bb pr).2.1)),.v (.int .i64 (lj bb pr).2.2)]:=by
 have hA:=N6 pr p n c m hg Ci h;have hN:=fun m' (hle:ah m m')=>GP pr p n c m' (nC hle h) hf
 have ao:(dS [] pr).2=0->dr (pr++bb)/\∀(i:Nat) (hi:i<pr.length),ClOk pr[i]:=fun q=>
  ⟨KF fun d hd=>(xo q d hd).1,fun i hi=>Ul (xo q _ (List.getElem_mem hi)).1 (xo q _ (List.getElem_mem hi)).2.1⟩
 have hP:=fun(ad:Addr) (b:Nat) (L:List Cc) (q:(dS [] pr).2=0) (m' :Mem) (k i:Nat) (hk:1<=k/\k<=6) (hi:i<pr.length) (hC:Ck m' ad pr (pr++bb) b p c L)=>QG (ao q).1 k i hk hi m' hC ((ao q).2 i hi) (T0 (List.getElem_mem hi))
 have hK:lj bb pr=if(dS [] pr).2=0 then mE (pr++bb) pr [1,2,3,4,5,6] else((dS [] pr).1,[],(dS [] pr).2):=rfl
 revert hK;generalize lj bb pr=K
 intro hK;refine enter bj aq Tryz.func12 rfl rfl (by kernel_rfl) rfl ?_ ?_
 ·clear hA hN hP;simp only[go_sem]
 ·simp only[go_sem];refine ak (hA.mono ?_);clear hA;rintro r H' m1 aQ ⟨l1,rfl,rfl⟩;by_cases hz:(dS [] pr).2=0
  ·rw[ai hz] at hK;have cJ:((dS [] pr).2=0)=True:=eq_true hz;have hN:=hN m1 l1;simp only[go_sem,cJ];refine ak (hN.mono ?_);clear hN;rintro r H' m2 aJ ⟨l2,rfl,ad,b,L,rfl,hC⟩;have ji:=ae l1 l2;simp only[go_sem];refine ct aq (fun y:Nat×Mem=>⟨[⟨23,[],.v (.int .i64 y.1)⟩,⟨7,[],.v (.pointer (some ad))⟩,⟨0,[],.v (.slice p n c)⟩,⟨2,[],.v (.string (bs []))⟩,⟨3,[],.v (.string (bs []))⟩,⟨4,[],.v (.int .i64 0)⟩],[],[],[],0,y.2⟩)
    (fun y=>ah m y.2/\ah m2 y.2/\y.1<=6/\mE (pr++bb) pr ([1,2,3,4,5,6].drop y.1)=K) (fun y=>6 - y.1) (0,m2) (by kernel_rfl) (fun _ _=>aU rfl) (fun x hx=>hx.2.1) (fun _=> ?_) ?_ ⟨ji,.inl rfl,aF _,hK.symm⟩ ?_
   ·clear hP;simp only[go_sem]
   ·clear hP;simp only[go_sem];exact rfl
   ·rintro⟨k,mm⟩ ⟨q0,q1,q2,q3⟩;dsimp only at q0 q1 q2 q3;by_cases hk:k<6
    ·have hc:((k:Int)<6)=True:=eq_true (by clear hP;omega);rw[six k hk,NA] at q3;have q4:(if(kG (pr++bb) pr (k+1) ((List.range pr.length).drop 0)).2.2=0 then mE (pr++bb) pr ([1,2,3,4,5,6].drop (k+1)) else kG (pr++bb) pr (k+1) ((List.range pr.length).drop 0))=K:=by rw[List.drop_zero];exact q3
     simp only[go_sem,hc];refine ct aq (fun y:Nat×Mem=>⟨[⟨28,[],.v (.int .i64 y.1)⟩,⟨27,[],.v (.int .i64 n)⟩,⟨8,[],.v (.int .i64 k)⟩,⟨23,[],.v (.int .i64 k)⟩,⟨7,[],.v (.pointer (some ad))⟩,⟨0,[],.v (.slice p n c)⟩,⟨2,[],.v (.string (bs []))⟩,⟨3,[],.v (.string (bs []))⟩,⟨4,[],.v (.int .i64 0)⟩],[],[],[],0,y.2⟩)
      (fun y=>ah m y.2/\ah mm y.2/\y.1<=pr.length/\(if(kG (pr++bb) pr (k+1) ((List.range pr.length).drop y.1)).2.2=0 then mE (pr++bb) pr ([1,2,3,4,5,6].drop (k+1)) else kG (pr++bb) pr (k+1) ((List.range pr.length).drop y.1))=K) (fun y=>pr.length - y.1) (0,mm) (by kernel_rfl) (fun _ _=>aU rfl) (fun x hx=>hx.2.1) (fun _=> ?_) ?_ ⟨q0,.inl rfl,aF _,q4⟩ ?_
     ·clear hP;simp only[go_sem]
     ·clear hP;simp only[go_sem];exact rfl
     ·rintro⟨i,m3⟩ ⟨r0,r1,r2,r3⟩;dsimp only at r0 r1 r2 r3;have hn:=h.1;by_cases hi:i<pr.length
      ·have uC:((i:Int)<(n:Int))=True:=eq_true (by clear hP;omega);have hlr:i<(List.range pr.length).length:=by rw[List.length_range];exact hi
       rw[List.drop_eq_getElem_cons hlr,List.getElem_range,Nb,nE hi] at r3;have hP:=hP ad b L hz m3 (k+1) i ⟨by omega,by omega⟩ hi (hC.up (ae q1 r1));have Mk:aB ((k:Int)+1)=True:=eq_true (by unfold aB;clear hP;omega);have nS:((k:Int)+1)=((k+1:Nat):Int):=by omega
       simp only[go_sem,uC,Mk,nS];refine⟨by unfold aB;omega,by kernel_rfl,bF (hP.mono ?_)⟩;clear hP;rintro r H' m4 iF ⟨l4,rfl,rfl⟩;have ua:=ae r0 l4;by_cases hy:(ei (pr++bb) pr (k+1) i).2=0
       ·rw[ai hy] at r3;have jA:((ei (pr++bb) pr (k+1) i).2=0)=True:=eq_true hy;simp only[go_sem,jA];exact⟨by unfold aB;omega,(i+1,m4),⟨by simp,.inl rfl⟩,⟨ua,ae r1 l4,hi,r3⟩,by omega⟩
       ·rw[aa hy,aa hy] at r3;have jA:((ei (pr++bb) pr (k+1) i).2=0)=False:=eq_false hy;refine Exists.elim (lk (nC ua h) hi) fun X hX=> ?_
        have aL:bO p n (i:Int)=True:=eq_true ⟨by omega,by omega,hX.2.1⟩;have dQ:=kF hX.1;have cR:= @pS m4 (bc p (i * 7)) X.cs hX.1 1 _ rfl;simp only[go_sem,jA,aL,dQ,cR];subst r3;exact⟨ua,by rw[hX.2.2.1]⟩
      ·have uC:((i:Int)<(n:Int))=False:=eq_false (by clear hP;omega);rw[List.drop_of_length_le (by rw[List.length_range];clear hP;omega)] at r3;have r3:mE (pr++bb) pr ([1,2,3,4,5,6].drop (k+1))=K:=r3;clear hP;simp only[go_sem,uC];exact⟨by unfold aB;omega,(k+1,m3),⟨by simp,.inl rfl⟩,⟨r0,ae q1 r1,hk,r3⟩,by omega⟩
    ·have hc:((k:Int)<6)=False:=eq_false (by clear hP;omega);rw[List.drop_of_length_le (by simp;omega)] at q3;clear hP;simp only[go_sem,hc];subst q3;exact⟨q0,rfl⟩
  ·rw[aa hz] at hK;have cJ:((dS [] pr).2=0)=False:=eq_false hz;clear hN hP;simp only[go_sem,cJ];subst hK;exact⟨l1,rfl⟩
end
theorem KD {m:Mem} {k n:Int} {s c:List UInt8} {ty:Ty} {args:List Ex} {a:Option Addr} {cp:Nat} {xs:List Value} (bN:args.length<=cp) (hr:ax m a args.length 8 xs) (ao:BN k n s c ty args.length) (cF:dB m args xs):
  aW m (.mk k n s c ty args) (dZ k n s c ty (.slice a args.length cp)):=by
 simp only[aW];exact⟨a,cp,xs,rfl,bN,hr,ao,cF⟩
theorem J4 {m:Mem} {xs:List Value}:dB m [] xs:=by simp only[dB]
theorem IY {m:Mem} {e:Ex} {r:List Ex} {cs xs:List Value} (h:aW m e cs) (hc:cs.length=8) (hr:dB m r xs):dB m (e::r) (cs++xs):=by
 simp only[dB];rw[<- hc,List.take_left,List.drop_left];exact⟨h,hr⟩
def Bs:List Value->Option (Prop×Value)
 |[.int .i64 n]=>some (True,.agg ⟨dZ 1 n [] [] aj (.slice none 0 0)⟩)
 |_=>none
attribute [go_sem] Bs.eq_1
theorem SO (n:Int) (m:Mem):FnH Tryz.prog 34 [.v (.int .i64 n)] ⟨[],[]⟩ m fun r H' _=>r= .v (.agg ⟨dZ 1 n [] [] aj (.slice none 0 0)⟩)/\H' =⟨[],[]⟩:=by
 refine ka (R:=fun r H' m' =>r= .agg ((dZ 1 n [] [] aj (.slice none 0 0)).map .v)/\H' =⟨[],[]⟩) ?_ fun r H' m' _ hr=>⟨_,fun V=>by rw[hr.1];rfl,rfl,hr.2⟩
 refine br aq Tryz.func34 ?_
 ·simp only[go_sem];exact rfl
theorem SE:∀aN y,Bs aN=some y->y.1->∀m,FnH Tryz.prog 34 (aN.map SV.v) ⟨[],[]⟩ m fun r H' _=>r= .v y.2/\H' =⟨[],[]⟩:=fun aN y hy hB m=>by
 unfold Bs at hy;split at hy
 ·rename_i k;cases hy;exact SO k m
 ·cases hy
def kK (e f:Ex):Ex:= .mk 16 0 [43] [] aj [e,f]
theorem DP (e f:Ex) (X Y:Nd) (m:Mem) (he:aW m e X.cs) (hf:aW m f Y.cs):FnH Tryz.prog 33 [.v (.agg ⟨X.cs⟩),.v (.agg ⟨Y.cs⟩)] ⟨[],[]⟩ m
  fun r H' m' =>ah m m' /\H' =⟨[],[]⟩/\∃a c,aW m' (kK e f) (dZ 16 0 [43] [] aj (.slice a 2 c))/\r= .agg ((dZ 16 0 [43] [] aj (.slice a 2 c)).map .v):=by
 refine nL ?_;refine enter bj aq Tryz.func33 rfl rfl (by kernel_rfl) rfl ?_ ?_
 ·simp only[go_sem,Nd.cs]
 ·simp only[go_sem,Nd.cs];refine s8 (b:=⟨3,0,57,8,2,X.cs++(Y.cs++[])⟩) 7 rfl rfl ⟨[],[]⟩ (List.nil_sublist _) (List.nil_sublist _) fun a' c' m2 h1 h2 h3=>⟨.inr h1,rfl,a',c',?_,rfl⟩
  exact KD (args:=[e,f]) h2 h3 ⟨by unfold aB;decide,by unfold aB;decide,by decide,by decide,lG,aU rfl⟩ (IY (sY h1 _ _ he) rfl (IY (sY h1 _ _ hf) rfl J4))
def A9 (l:List St):Cd:=⟨1,[65],aS,[],[],[⟨1,⟨0,73,[]⟩,[102],[⟨⟨0,73,[]⟩,[97]⟩],true,l⟩],[]⟩
theorem Io (l:List St) (xs:List Value) (sa:Option Addr) (n sc:Nat) (m:Mem) (hr:ax m sa n 23 xs) (hn:n=l.length) (hc:n<=sc) (hb:n<=aw) (hs:bG m l xs):FnH Tryz.prog 32 [.v (.slice sa n sc)] ⟨[],[]⟩ m
  fun r H' m' =>ah m m' /\H' =⟨[],[]⟩/\∃a c,gV m' [A9 l] a 1 c/\r= .v (.slice a 1 c):=by
 refine nL ?_;refine br aq Tryz.func32 ?_
 ·simp only[go_sem];intro a1 c1 m1 e1 e2 e3 a2 c2 m2 g1 g2 g3;refine xE (b:=⟨3,0,33,7,1,[.int .i64 1,.string (bs [65]),.string (bs aS),.slice none 0 0,.slice none 0 0,.slice a2 1 c2,.slice none 0 0]⟩) rfl ⟨[],[]⟩ (List.nil_sublist _) (List.nil_sublist _) fun a3 c3 m3 k1 k2 k3=>⟨ae (ae (.inr e1) (.inr g1)) (.inr k1),rfl,a3,c3,?_,rfl⟩
  have hle:ah m m3:=ae (ae (.inr e1) (.inr g1)) (.inr k1);have r7:∀z,ax m3 none 0 z []:=fun z=>lr m3 z
  refine⟨rfl,k2,by decide,_,k3,?_,trivial⟩;refine⟨⟨1,[65],aS,none,0,0,none,0,0,a2,1,c2,none,0,0⟩,⟨rfl,rfl,rfl,rfl⟩,⟨rfl,aA _,rfl,aA _,rfl,g2,rfl,aA _⟩,?_,r7 1,r7 5,_,[],aM (.inr k1) g3,?_,r7 23,by simp only[A9,bG]⟩
  ·have i1:aB 1:=by unfold aB;decide
   exact⟨i1,aU rfl,aU rfl,aU rfl,(fun s h=>by cases h),aU rfl,(fun s h=>by cases h),aU rfl,aU rfl⟩
  ·refine⟨⟨⟨1,⟨0,73,[]⟩,[102],a1,1,c1,true,sa,n,sc⟩,⟨rfl,rfl,rfl,rfl,rfl⟩,⟨rfl,e2,hn,hc⟩,?_,aM (ae (.inr g1) (.inr k1)) e3,xs,aM hle hr,cG hle hs⟩,trivial⟩;have i1:aB 1:=by unfold aB;decide
   have i0:aB 0:=by unfold aB;decide
   have b7:(0:Int)<=73/\(73:Int)<256:=by decide
   exact⟨i1,⟨i0,b7,aU rfl⟩,aU rfl,aU rfl,(fun p h=>by rw[List.mem_singleton.1 h];exact⟨⟨i0,b7,aU rfl⟩,aU rfl⟩),by show l.length<=aw;rw[<- hn];exact hb⟩
def wq (da:Option Addr) (dc:Nat) (S:Sc) (la:Option Addr) (lc:Nat):List Value:=
 [.slice da S.pr.length dc,.int .i64 S.ci,.bool S.st,.bool S.su,.int .i64 S.res.dim,.int .u8 S.res.base,.string (bs S.res.name),.slice la S.loc.length lc]
section
variable {S:Sc} {da:Option Addr} {dc:Nat} {la:Option Addr} {lc:Nat}
theorem Re (m:Mem) (hi:S.ci<S.pr.length):FnH Tryz.prog 52 [.v (.agg ⟨wq da dc S la lc⟩)] ⟨[],[]⟩ m fun r H' _=>r= .v (.bool true)/\H' =⟨[],[]⟩:=by
 have h1:((0:Int)<=(S.ci:Int))=True:=eq_true (by omega);have h2:((S.ci:Int)<(S.pr.length:Int))=True:=eq_true (by omega);refine enter bj aq Tryz.func52 rfl rfl (by kernel_rfl) rfl ?_ ?_
 ·simp only[go_sem,wq]
 ·simp only[go_sem,wq,h1,h2];done
theorem GH (e:Ex) (X:Nd) (m:Mem) (hg:Glob m) (hp:gV m S.pr da S.pr.length dc) (hf:S.pr.length<=1099000) (hi:S.ci<S.pr.length) (hl:ax m la S.loc.length 4 (flat Pc.cs S.loc)) (Fx:S.loc.length<=lc) (nj:S.loc.length<=2000000000)
  (hE:dr (S.pr++bb)) (hS:dO S.loc) (he:aW m e X.cs) (hv:cY e=true):
  FnH Tryz.prog 25 [.v (.agg ⟨wq da dc S la lc⟩),.v (.agg ⟨X.cs⟩)] ⟨[],[]⟩ m (Cp m (bJ (S.pr++bb) S e)):=by
 have hV:=mh _ e X.cs m (aA _) hg he;rw[hv] at hV;have hI:=fun m' =>Re (S:=S) (da:=da) (dc:=dc) (la:=la) (lc:=lc) m' hi
 have hN:=fun m' (hle:ah m m')=>GP S.pr da S.pr.length dc m' (nC hle hp) hf
 have hX:=fun m' (hle:ah m m') (ad:Addr) (b:Nat) (L:List Cc) (hC:Ck m' ad S.pr (S.pr++bb) b da dc L)=>sX (ad:=ad) (da:=da) (dc:=dc) (la:=la) (lc:=lc) (b:=b) (a:=da) (c:=dc) (L:=L) hE hS e X.cs m' ⟨hC,nC hle hp,hi,aM hle hl,Fx,nj⟩ (bV hle he) hv
 revert hX;generalize bJ (S.pr++bb) S e=x
 unfold au;unfold wq at hI ⊢;intro hX;refine enter bj aq Tryz.func25 rfl rfl (by kernel_rfl) rfl ?_ ?_
 ·clear hV hI hN hX;simp only[go_sem,Nd.cs]
 ·simp only[go_sem,Nd.cs];refine ak ((aC hV fun V=>rfl).mono ?_);clear hV;rintro r H' m1 aQ ⟨l1,rfl,rfl⟩;have hI:=hI m1;simp only[go_sem];refine ak ((aC hI fun V=>rfl).mono ?_);clear hI;rintro r H' m2 aJ ⟨rfl,rfl⟩;have l2:=ae l1 (.inr aJ);have hN:=hN m2 l2;simp only[go_sem];refine bX (.hoist 0 (.hoist 1 (.hoist 3 (.hoist 5 (.alt 2 [5,3] (.hoist 4 (.alt 6 [] (.hoist 7 (.hoist 8 (.alt 9 [] (.hoist 10 .done) .stop))) .stop)) .stop))))) aq (by kernel_rfl) (by kernel_rfl) ?_;simp only[go_sem];refine ak (hN.mono ?_);clear hN;rintro r H' m3 dx ⟨l3,rfl,ad,b,L,rfl,hC⟩;have uf:=ae l2 l3;have hX:=hX m3 uf ad b L hC;have qN:=eq_true l3;simp only[go_sem,qN,and_self];refine ak ((aC hX fun V=>rfl).mono ?_);clear hX;rintro r H' m4 iF ⟨l4,rfl,rfl⟩;have qM:=eq_true l4;simp only[go_sem,qM,and_self];exact⟨ae uf l4,rfl,rfl⟩
end
def aX:Ex:= .mk 6 0 [97] [] aj []
def nX (n:Int):Ex:= .mk 1 n [] [] aj []
def lX:Ex:= .mk 2 2 [] [] aj []
def EG:St:= .mk 6 [] aj zE (kK aX (nX 1)) [] []
def om:List Cd:=[A9 [EG]]
def BK:List Cd:=[A9 []]
def qs:Sc:=⟨om,0,false,false,aj,[]⟩
theorem aw1:lj bb om=([],[],0):=by decide+kernel
theorem aw2:lj bb BK=([65],[102],74):=by decide+kernel
def Lb (x:TR) (t:Ty) (n:Int):Bool:=Ty.eq x.1 t&&decide (x.2=n)
theorem Jk {x:TR} {t:Ty} {n:Int} (h:Lb x t n=true):x=(t,n):=by
 unfold Lb at h;rw[bw,cS] at h;obtain⟨h1,h2⟩:=h;have:=(rS _ _).1 h1;obtain⟨⟨d,k,nm⟩,y⟩:=x;obtain⟨d',k',nm'⟩:=t;dsimp only at this h2;rw[this.1,this.2.1,this.2.2,h2]
theorem aw3:bJ (om++bb) qs (kK (nX 1) (nX 2))=(b8,0):=Jk (by decide+kernel)
theorem aw4:bJ (om++bb) qs (kK (nX 1) lX)=(aj,73):=Jk (by decide+kernel)
theorem ME:cY (kK (nX 1) (nX 2))=true/\cY (kK (nX 1) lX)=true:=⟨by decide+kernel,by decide+kernel⟩
theorem aw6:om.all iw=true:=by decide+kernel
theorem JA:dr (om++bb):=KF fun d hd=>List.all_eq_true.1 aw6 d hd
theorem Xs:∀d∈om,CdB d:=fun d h=>by
 rw[List.mem_singleton.1 h];exact⟨by decide+kernel,by decide+kernel,by decide+kernel,by decide+kernel⟩
theorem WJ:∀d∈BK,CdB d:=fun d h=>by
 rw[List.mem_singleton.1 h];exact⟨by decide+kernel,by decide+kernel,by decide+kernel,by decide+kernel⟩
theorem vF {m:Mem} {k n:Int} {s:List UInt8} (hk:aB k) (hn:aB n) (hs:s.length<=aw):aW m (.mk k n s [] aj []) (dZ k n s [] aj (.slice none 0 0)):=
 KD (aA _) gE ⟨hk,hn,hs,aF _,lG,aF _⟩ J4
abbrev LA:Cfg:=kI (fun _=>false) [(34,fun _=>Bs)]
theorem Zm:cw LA Tryz.prog:=fz (by kernel_rfl) (fun m aN y hy hB=>SE aN y hy hB m) ra
theorem So {m:Mem} {a:Option Addr} {c:Nat} (h:aW m (kK aX (nX 1)) (dZ 16 0 [43] [] aj (.slice a 2 c))):
  bG m [EG] (Sd.cs ⟨6,[],aj,aO,⟨16,0,[43],[],aj,a,2,c⟩,none,0,0,none,0,0⟩):=by
 simp only[bG,and_true];have i6:aB 6:=by unfold aB;decide
 exact fA (⟨6,[],aj,aO,⟨16,0,[43],[],aj,a,2,c⟩,none,0,0,none,0,0⟩:Sd) lz h rfl (aA _) rfl (aA _) ⟨i6,aF _,lG,aF _,aF _⟩ gE gE iM iM
theorem PO (m:Mem) (hg:Glob m):FnH Tryz.prog 11 [] ⟨[],[]⟩ m fun r H' m' =>ah m m' /\H' =⟨[],[]⟩/\r= .v (.bool true):=by
 have i1:aB 1:=by unfold aB;decide
 have i2:aB 2:=by unfold aB;decide
 have i6:aB 6:=by unfold aB;decide
 have i0:aB 0:=by unfold aB;decide
 have jj:=fun m' =>DP aX (nX 1) ⟨6,0,[97],[],aj,none,0,0⟩ ⟨1,1,[],[],aj,none,0,0⟩ m' (vF i6 i0 (by decide)) (vF i1 i1 (by decide))
 have np:=fun m' =>DP (nX 1) (nX 2) ⟨1,1,[],[],aj,none,0,0⟩ ⟨1,2,[],[],aj,none,0,0⟩ m' (vF i1 i1 (by decide)) (vF i1 i2 (by decide))
 have Cg:=fun m' =>DP (nX 1) lX ⟨1,1,[],[],aj,none,0,0⟩ ⟨2,2,[],[],aj,none,0,0⟩ m' (vF i1 i1 (by decide)) (vF i2 i2 (by decide))
 have wK:=fun m' a c s1 s2 (h:aW m' (kK aX (nX 1)) (dZ 16 0 [43] [] aj (.slice a 2 c))) hr hc=>Io [EG] (Sd.cs ⟨6,[],aj,aO,⟨16,0,[43],[],aj,a,2,c⟩,none,0,0,none,0,0⟩) s1 1 s2 m' hr rfl hc (by decide) (So h)
 have zD:=fun m' =>Io [] [] none 0 0 m' (lr m' 23) rfl (aA _) (by decide) iM
 have eT:=fun m' (hle:ah m m') a c (h:gV m' om a 1 c)=>zW om a 1 c m' (hg.upM hle) Xs h (by decide)
 have dJ:=fun m' (hle:ah m m') a c (h:gV m' BK a 1 c)=>zW BK a 1 c m' (hg.upM hle) WJ h (by decide)
 rw[aw1] at eT;rw[aw2] at dJ;have hn:dO ([]:List Pc):=fun p hp=>by cases hp
 have j7:=fun m' (hle:ah m m') a c sa sc (h:gV m' om a 1 c) (he:aW m' (kK (nX 1) (nX 2)) (dZ 16 0 [43] [] aj (.slice sa 2 sc)))=>GH (S:=qs) (da:=a) (dc:=c) (la:=none) (lc:=0) (kK (nX 1) (nX 2)) ⟨16,0,[43],[],aj,sa,2,sc⟩ m' (hg.upM hle) h (by decide) (by decide) (lr m' 4) (aA _) (aF _) JA hn he ME.1
 have qR:=fun m' (hle:ah m m') a c sa sc (h:gV m' om a 1 c) (he:aW m' (kK (nX 1) lX) (dZ 16 0 [43] [] aj (.slice sa 2 sc)))=>GH (S:=qs) (da:=a) (dc:=c) (la:=none) (lc:=0) (kK (nX 1) lX) ⟨16,0,[43],[],aj,sa,2,sc⟩ m' (hg.upM hle) h (by decide) (by decide) (lr m' 4) (aA _) (aF _) JA hn he ME.2
 have e3:bJ (qs.pr++bb) qs (kK (nX 1) (nX 2))=(b8,0):=aw3;have e4:bJ (qs.pr++bb) qs (kK (nX 1) lX)=(aj,73):=aw4;rw[e3] at j7;rw[e4] at qR;simp only[wq,Nd.cs,qs,aj,dZ,Sd.cs,aO] at jj np Cg wK eT dJ j7 qR;refine enter LA Zm Tryz.func11 rfl rfl (by kernel_rfl) rfl ?_ ?_
 ·clear jj np Cg wK zD eT dJ j7 qR;simp only[go_sem]
 ·simp only[go_sem,dZ,aj];refine ak ((aC (jj m) fun V=>rfl).mono ?_);clear jj;rintro r H' m1 aQ ⟨l1,rfl,a1,c1,he1,rfl⟩;try simp only[dZ] at he1
  simp only[go_sem,aG,List.map_nil,dZ,aj];refine⟨by kernel_rfl,fun a2 c2 m2 g1 g2 g3=> ?_⟩;have l2:=ae l1 (.inr g1);have wK:=wK m2 a1 c1 a2 c2 (sY g1 _ _ he1) g3 g2;refine bF (wK.mono ?_);clear wK;rintro r H' m3 dx ⟨l3,rfl,a3,c3,hp,rfl⟩;have l3:=ae l2 l3;have eT:=eT m3 l3 a3 c3 hp;simp only[go_sem];refine ak (eT.mono ?_);clear eT;rintro r H' m4 iF ⟨l4,rfl,rfl⟩;have l34:=l4;have l4:=ae l3 l4;have zD:=zD m4;simp only[go_sem];refine ak (zD.mono ?_);clear zD;rintro r H' m5 oy ⟨l5,rfl,a5,c5,hp5,rfl⟩;have l45:=l5;have l5:=ae l4 l5;have dJ:=dJ m5 l5 a5 c5 hp5;simp only[go_sem];refine ak (dJ.mono ?_);clear dJ;rintro r H' m6 uy ⟨l6,rfl,rfl⟩;have l36:=ae l34 (ae l45 l6);have l6:=ae l5 l6;simp only[go_sem,dZ,aj];refine ak ((aC (np m6) fun V=>rfl).mono ?_);clear np;rintro r H' m7 sI ⟨l7,rfl,a7,c7,he7,rfl⟩;have LW:=ae l36 l7;have l7:=ae l6 l7;try simp only[dZ] at he7
  have j7:=j7 m7 l7 a3 c3 a7 c7 (nC LW hp) he7;simp only[go_sem,aG,List.map_nil,dZ,aj];refine ak ((aC j7 fun V=>rfl).mono ?_);clear j7;rintro r H' m8 uw ⟨l8,rfl,rfl⟩;have l38:=ae LW l8;have l8:=ae l7 l8;simp only[go_sem,dZ,aj,b8];refine ak ((aC (Cg m8) fun V=>rfl).mono ?_);clear Cg;rintro r H' m9 ni ⟨l9,rfl,a9,c9,he9,rfl⟩;have l39:=ae l38 l9;have l9:=ae l8 l9;try simp only[dZ] at he9
  have qR:=qR m9 l9 a3 c3 a9 c9 (nC l39 hp) he9;simp only[go_sem,aG,List.map_nil,dZ,aj];refine ak ((aC qR fun V=>rfl).mono ?_);clear qR;rintro r H' m10 ab9 ⟨l10,rfl,rfl⟩;have l10:=ae l9 l10;simp only[go_sem,dZ,aj,b8,dC];exact l10
structure SameE (E E' :List Cd):Prop where
 cls:∀s,cls E' s=cls E s
 len:E'.length=E.length
structure SameSc (S S' :Sc):Prop where
 cur:cB S' =cB S
 fnd:∀s,(S'.pr.find? fun d=>decide (d.name=s))=S.pr.find? fun d=>decide (d.name=s)
 st:S'.st=S.st
 su:S'.su=S.su
 res:S'.res=S.res
 loc:S'.loc=S.loc
section
variable {E E' :List Cd} (h:SameE E E')
include h
section
variable {S S' :Sc} (hs:SameSc S S')
include hs
omit h in
theorem SameSc.with (t:Ty) (s:Nm):SameSc (gG S t s) (gG S' t s):=⟨hs.cur,hs.fnd,hs.st,hs.su,hs.res,by show S'.loc++_=S.loc++_;rw[hs.loc]⟩
omit h in
end
end
section
variable {E E' :List Cd}
end
section
variable {E E' :List Cd} (h:SameE E E')
include h
section
variable {S S' :Sc} (hs:SameSc S S')
include hs
end
end
section
variable {E E' :List Cd}
end
section
variable {E E' :List Cd} (h:SameE E E')
include h
end
end Go.Proofs.YtmdokbohofchgaaGreatDoor.E

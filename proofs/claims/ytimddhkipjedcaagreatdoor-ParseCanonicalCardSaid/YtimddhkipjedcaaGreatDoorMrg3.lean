/- Several texts in one: AstRa, AstRt, AstPn, AstRu, AstCardT, AstQa, AstV, AstB, AstC, AstD, AstE, AstF, AstG, AstH, AstI, AstJ, AstK. -/
import Derived.Lib.ParseIntB
import Derived.Shelf.LaysC
import Derived.Shelf.Strconv.ParseIntPublic10
import Derived.Laws.StructEq
import Derived.Test.YtimddhkipjedcaaGreatDoorMrg2
set_option linter.unusedSimpArgs false
set_option linter.unusedVariables false
set_option maxHeartbeats 4000000
set_option maxRecDepth 20000
namespace Go.Proofs.YtimddhkipjedcaaGreatDoor.E
open Go Go.RowKit
def jC (a b:List UInt8):Bool:=decide ((b.length:Int)<=a.length)&&decide (a.take b.length=b)
theorem Bu (l:List (List UInt8)) (s:List UInt8) (a:Option Addr) (n c:Nat) (m:Mem) (h:aZ m a n 1 (strs l)) (hn:n<=4611686018427387904):
  FnH Tryz.prog 178 [.v (.slice a n c),.v (.string (bs s))] ⟨[],[]⟩ m fun r H' _=>r= .v (.bool (l.contains s))/\H' =⟨[],[]⟩:=by
 have hl:l.length=n:=by have:=h.1;simpa [strs] using this
 refine aR qD Tryz.func178 ?_
 ·simp only[go_sem];refine du qD (fun k:Nat=>⟨[⟨0,[],.v (.slice a n c)⟩,⟨1,[],.v (.string (bs s))⟩,⟨5,[],.v (.int .i64 k)⟩],[],[],[],0,m⟩)
   (fun k=>k<=n/\(l.take k).contains s=false) (fun k=>n - k) 0 (fun _ _=>au _) (fun _ _=> .inl rfl) ?_ ?_ ?_
  ·simp only[go_sem];rfl
  ·simp
  ·rintro k ⟨hk,hp⟩;simp only[go_sem];refine⟨fun ay=> ?_,fun cg=> ?_⟩
   ·have LC:k<n:=by omega
    obtain⟨hx,hr,cQ⟩:=BM h LC;refine⟨⟨by omega,ay,cQ⟩,_,by simpa using hr,?_⟩;have cB:k<l.length:=by omega
    have e:(strs l)[k]= .string (bs l[k]):=by simp [strs]
    have ec:=O3 (s:=s) cB;simp only[e];simp only[go_sem];refine⟨fun he=> ?_,fun he=>⟨by unfold aF;omega,k+1,by omega,⟨by omega,?_⟩,by omega⟩⟩
    ·have:s∈l:=by rw[<- he];exact List.getElem_mem cB
     simp [this]
    ·rw[ec,hp];simp;exact fun h=>he h.symm
   ·have:l.take k=l:=fi (by omega);rw[<- hp,this]
theorem Ha (m:Mem):FnH Tryz.prog 179 [] ⟨[],[]⟩ m fun r H' m' =>r= .vec 0 0/\H' =⟨[],[⟨0,0,9,1,28,strs gw⟩]⟩/\m' =m:=by
 refine aR aB Tryz.func179 ?_
 ·simp only[go_sem];rfl
theorem Wg (m:Mem):FnH Tryz.prog 181 [] ⟨[],[]⟩ m fun r H' m' =>r= .vec 0 0/\H' =⟨[],[⟨0,0,9,1,30,strs je⟩]⟩/\m' =m:=by
 refine aR aB Tryz.func181 ?_
 ·simp only[go_sem];rfl
theorem AZ (s:List UInt8) (m:Mem) (hs:BL s):FnH Tryz.prog 107 [.v (.string (bs s))] ⟨[],[]⟩ m fun r H' _=>r= .v (.bool (dd s))/\H' =⟨[],[]⟩:=by
 refine aR rW Tryz.func107 ?_
 ·simp only[go_sem];refine⟨hs,fun h=>by simp [dd,h],fun h=>⟨hs,⟨by omega,by have:=NZ h;omega⟩,?_⟩⟩;rw[dd,h,Bool.true_and];have e1:∀n:Nat,decide ((65:Int)<=n)=decide (65<=n):=fun n=>by rw[decide_eq_decide];omega
  have e2:∀n:Nat,decide ((n:Int)<=90)=decide (n<=90):=fun n=>by rw[decide_eq_decide];omega
  rw[e1,e2]
theorem A6 (l:List UInt8):jC l []=true:=by simp [jC]
theorem DX (x:UInt8) (o:List UInt8):jC [] (x::o)=false:=by simp [jC]
theorem sJ (y x:UInt8) (l o:List UInt8):jC (y::l) (x::o)=(decide (y=x)&&jC l o):=by
 unfold jC;simp only[aL,List.take_succ_cons,List.cons.injEq];have e:decide (((o.length+1:Nat):Int)<=((l.length+1:Nat):Int))=decide ((o.length:Int)<=l.length):=by rw[decide_eq_decide];omega
 rw[e,Bool.decide_and];cases decide (y=x)<;>simp
theorem aeZ (l:List UInt8) (h:jC l [58,58]=true):∃r,l=58::58::r:=by
 cases l with
 |nil=>rw[DX] at h;cases h
 |cons a l=>
  rw[sJ] at h;cases l with
  |nil=>rw[DX] at h;simp at h
  |cons b l=>
   rw[sJ,A6] at h;simp only[Bool.and_true,aD,bt] at h;exact⟨l,by rw[h.1,h.2]⟩
def spell:List UInt8->List UInt8
 |[]=>[]
 |c::r=>if c.toNat=47 then 58::58::spell r else c::spell r
theorem HW:∀(a b:List UInt8),spell (a++b)=spell a++spell b
 |[],_=>rfl
 |c::a,b=>by
  simp only[dW,spell,HW a b];split<;>rfl
theorem IA:∀{a:List UInt8},(∀c∈a,c≠47)->spell a=a
 |[],_=>rfl
 |c::a,h=>by
  have h1:¬c.toNat=47:=fun e=>h c (bY ..) (UInt8.toNat_inj.1 e)
  simp only[spell,af h1,IA fun d hd=>h d (bR _ hd)]
theorem Tr:∀(A:List UInt8),(∀c∈A,c≠47)->Lib.index A [47]= -1
 |[],_=>rfl
 |a::A,h=>by
  have ih:=Tr A fun c hc=>h c (bR _ hc)
  have ha:=h a (bY ..);have hp:List.isPrefixOf [47] (a::A)=false:=by
   simp only[List.isPrefixOf,Bool.and_eq_false_iff];left;exact beq_eq_false_iff_ne.2 fun e=>ha e.symm
  simp only[Lib.index,hp,ih];rfl
theorem Ts:∀(A r:List UInt8),(∀c∈A,c≠47)->Lib.index (A++47::r) [47]=A.length
 |[],r,_=>by simp [Lib.index,List.isPrefixOf]
 |a::A,r,h=>by
  have ih:=Ts A r fun c hc=>h c (bR _ hc)
  have ha:=h a (bY ..);have hp:List.isPrefixOf [47] (a::(A++47::r))=false:=by
   simp only[List.isPrefixOf,Bool.and_eq_false_iff];left;exact beq_eq_false_iff_ne.2 fun e=>ha e.symm
  simp only[dW,Lib.index,hp,ih];rw[af (by decide),af (by simp),aL];rfl
def wD (F:Nat) (s:List UInt8):List UInt8:=Lib.replaceK [47] [58,58] (Lib.countFrom [47] F s) s
theorem adQ {F:Nat} {A:List UInt8} (h:∀c∈A,c≠47):wD (F+1) A=A:=by
 unfold wD Lib.countFrom;rw[Tr A h];rfl
theorem adR {F:Nat} {A r:List UInt8} (h:∀c∈A,c≠47):wD (F+1) (A++47::r)=A++58::58::wD F r:=by
 have hi:=Ts A r h;have hd:(A++47::r).drop (A.length+([47]:List UInt8).length)=r:=by
  rw[List.drop_append];simp
 unfold wD;have hc:Lib.countFrom [47] (F+1) (A++47::r)=Lib.countFrom [47] F r+1:=by
  simp only[Lib.countFrom];rw[hi,af (by simp),Int.toNat_natCast,hd];omega
 rw[hc,Lib.replaceK_hit _ _ _ _ _ hi,hd];simp
theorem MQ:∀(s:List UInt8),(∀c∈s,c≠47)\/∃A r,s=A++47::r/\∀c∈A,c≠47
 |[]=> .inl fun c h=>by cases h
 |a::s=>by
  by_cases ha:a=47
  ·exact .inr ⟨[],s,by rw[ha];rfl,fun c h=>by cases h⟩
  ·rcases MQ s with h |⟨A,r,rfl,h⟩
   ·exact .inl fun c hc=>by
     rcases List.mem_cons.1 hc with rfl |hc
     ·exact ha
     ·exact h c hc
   ·exact .inr ⟨a::A,r,rfl,fun c hc=>by
     rcases List.mem_cons.1 hc with rfl |hc
     ·exact ha
     ·exact h c hc⟩
theorem N1:∀(F:Nat) (s:List UInt8),s.length<F->wD F s=spell s
 |0,_,h=>absurd h (Nat.not_lt_zero _)
 |F+1,s,h=>by
  rcases MQ s with hs |⟨A,r,rfl,hA⟩
  ·rw[adQ hs,IA hs]
  ·rw[aI,aL] at h;rw[adR hA,N1 F r (by omega),HW,IA hA];rfl
theorem QS (s:List UInt8):Lib.replaceAll s [47] [58,58]=spell s:=by
 have e:Lib.replaceAll s [47] [58,58]=wD (s.length+1) s:=by
  unfold Lib.replaceAll Lib.replace wD;rw[af (by decide)];have:Lib.replaceNum s [47] (-1)=Lib.count s [47]:=by simp [Lib.replaceNum]
  rw[this];rfl
 rw[e,N1 _ _ (Nat.lt_succ_self _)]
theorem E6 (x y:List UInt8) (ys:List (List UInt8)):Lib.join (x::y::ys) [32]=x++([32]++Lib.join (y::ys) [32]):=by simp [Lib.join]
theorem Zs:∀n:Nat,n<256->IntKind.u8.wrap (n:Int)=(n:Int):=by decide
theorem NW:∀(s:List UInt8),(spell s).length<=2 * s.length
 |[]=>by simp [spell]
 |c::s=>by
  have:=NW s;simp only[spell];split<;>simp only[aL]<;>omega
theorem Ng {s:List UInt8} {k:Nat} (h:k<s.length):spell (s.take (k+1))=spell (s.take k)++if(s.getD k 0).toNat=47 then[58,58] else[s.getD k 0]:=by
 rw[List.take_succ_eq_append_getElem h,HW];have e:s.getD k 0=s[k]:=by rw[List.getD_eq_getElem?_getD,List.getElem?_eq_getElem h];rfl
 rw[e];simp only[spell]
theorem Of {s:List UInt8} {k:Nat} (h:k<s.length):(s.take (k+1)).drop k=[s.getD k 0]:=by
 rw[List.take_succ_eq_append_getElem h,List.drop_append_of_le_length (by rw[List.length_take];omega),List.drop_eq_nil_of_le (by rw[List.length_take];omega),List.getD_eq_getElem?_getD,List.getElem?_eq_getElem h];rfl
theorem VT (s:List UInt8) (m:Mem) (hs:s.length<=2000000):
  FnH Tryz.prog 123 [.v (.string (bs s))] ⟨[],[]⟩ m fun r H' m' =>r= .v (.string (bs (spell s)))/\H' =⟨[],[]⟩/\m' =m:=by
 refine aR aB Tryz.func123 ?_
 ·simp only[go_sem];refine ei aB (fun k:Nat=>⟨[⟨0,[],.v (.string (bs s))⟩,⟨3,[],.v (.string (bs (spell (s.take k))))⟩,⟨4,[],.v (.int .i64 k)⟩],[],[],[],0,m⟩)
   (fun k=>k<=s.length) (fun k=>s.length - k) 0 (by kernel_rfl) (fun _ _=>au _) (fun _ _=> .inl rfl) (fun _=> ?_) ?_ (aG _) ?_
  ·simp only[go_sem]
  ·simp only[go_sem];exact⟨rfl,rfl⟩
  ·intro k hk;have hl:(spell (s.take k)).length<=2 * k:=by have:=NW (s.take k);rw[List.length_take] at this;omega
   simp only[go_sem];refine⟨fun ay=> ?_,fun cg=> ?_⟩
   ·have fm:k<s.length:=by omega
    have e1:((k:Int)+1).toNat=k+1:=by omega
    refine⟨⟨by omega,ay⟩,fun vq=>⟨by omega,by unfold aF;omega,k+1,⟨?_,rfl⟩,fm,by omega⟩,fun vq=>⟨by unfold aF;omega,⟨by omega,by omega,by omega⟩,?_,by unfold aF;omega,k+1,⟨?_,rfl⟩,fm,by omega⟩⟩
    ·rw[Ng fm,ah (by omega)]
    ·rw[e1,Of fm];simp only[iB];omega
    ·rw[e1,Of fm,Ng fm,af (by omega)]
   ·rw[fi (by omega)]
theorem VV (s:List UInt8) (m:Mem) (hs:s.length<=2000000):
  FnH Tryz.prog 122 [.v (.string (bs s))] ⟨[],[]⟩ m fun r H' m' =>r= .v (.string (bs (uq s)))/\H' =⟨[],[]⟩/\m' =m:=by
 refine aR aB Tryz.func122 ?_
 ·simp only[go_sem];refine du aB (fun x:Nat×Nat×List UInt8=>⟨[⟨0,[],.v (.string (bs s))⟩,⟨3,[],.vec 0 x.2.1⟩,⟨4,[],.v (.int .i64 x.1)⟩],[],[],[⟨0,x.2.1,5,1,x.2.2.length,jW x.2.2⟩],1,m⟩)
   (fun x=>x.1<=s.length/\x.2.2=34::((s.take x.1).map km).flatten) (fun x=>s.length - x.1) (0,0,[34]) (fun _ _=>au _) (fun _ _=> .inl rfl) ?_ ?_ ?_
  ·simp only[go_sem];exact⟨rfl,rfl⟩
  ·exact⟨aG _,rfl⟩
  ·rintro⟨k,u,b⟩ ⟨h1,h2⟩;simp only at h1 h2;have iO:b.length<=1+4 * k:=by
    rw[h2,aL];have:=Hx (s.take k);rw[List.length_take] at this;omega
   have ll:∀n,n<=4->room (b.length+n) 1:=fun n hn=>⟨by omega,by simp only[maxLen];omega⟩
   have step:k<s.length->∀e,km (s.getD k 0)=e->∀ver:Nat,ver=u+1->b.length+e.length=(b++e).length/\jW b++jW e=jW (b++e)/\(k+1<=s.length/\b++e=34::((s.take (k+1)).map km).flatten)/\s.length - (k+1)<s.length - k:=fun hk e he ver _=>by
    refine⟨(aI).symm,(Bz b e).symm,⟨hk,?_⟩,by omega⟩;rw[List.take_succ_eq_append_getElem hk,List.map_append,List.flatten_append,h2,<- he,List.getD_eq_getElem?_getD,List.getElem?_eq_getElem hk];simp
   simp only[go_sem];refine⟨fun ay=> ?_,fun cg=> ?_⟩
   ·have hk:k<s.length:=by omega
    have hI:aF (k+1):=by unfold aF;omega
    refine⟨⟨by omega,ay⟩,fun c1=>⟨ll 2 (by omega),hI,?_⟩,fun c1=>⟨fun c2=>⟨ll 2 (by omega),hI,?_⟩,fun c2=>⟨fun c3=>⟨ll 1 (by omega),hI,?_⟩,fun c3=> ?_⟩⟩⟩
    ·have h:=step hk [92,s.getD k 0] (by unfold km;rw[ah (by omega)]) _ rfl;exact⟨(k+1,u+1,b++[92,s.getD k 0]),⟨⟨rfl,rfl⟩,rfl,h.1,h.2.1⟩,h.2.2.1,h.2.2.2⟩
    ·have h:=step hk [92,110] (by unfold km;rw[af (by omega),ah (by omega)]) _ rfl;exact⟨(k+1,u+1,b++[92,110]),⟨⟨rfl,rfl⟩,rfl,h.1,h.2.1⟩,h.2.2.1,h.2.2.2⟩
    ·have h:=step hk [s.getD k 0] (by unfold km;rw[af (by omega),af (by omega),af (by omega)]) _ rfl;exact⟨(k+1,u+1,b++[s.getD k 0]),⟨⟨rfl,rfl⟩,rfl,h.1,h.2.1⟩,h.2.2.1,h.2.2.2⟩
    ·have h:=step hk [92,120,mE.getD ((s.getD k 0).toNat / 16) 0,mE.getD ((s.getD k 0).toNat % 16) 0] (by unfold km;rw[af (by omega),af (by omega),ah (by omega)]) _ rfl;have hc:=(s.getD k 0).toNat_lt;have e1:(((s.getD k 0).toNat:Nat):Int).tdiv 16=((((s.getD k 0).toNat / 16:Nat)):Int):=by rw[Int.tdiv_eq_ediv_of_nonneg (by omega)];omega
     have e2:(((s.getD k 0).toNat:Nat):Int).tmod 16=((((s.getD k 0).toNat % 16:Nat)):Int):=by rw[Int.tmod_eq_emod_of_nonneg (by omega)];omega
     have e3:=Zs ((s.getD k 0).toNat / 16) (by omega);refine bO (.hoist 0 (.hoist 1 (.hoist 2 (.hoist 3 (.hoist 4 (.hoist 5 (.hoist 6 (.alt 7 [0] (.alt 8 [] (.hoist 9 .done) .stop) .stop)))))))) aB (by kernel_rfl) (by kernel_rfl) ?_;simp only[go_sem,e1,e2,e3];exact⟨by omega,by omega,by omega,⟨by omega,by omega⟩,ll 4 (by omega),hI,(k+1,u+1,b++[92,120,mE.getD ((s.getD k 0).toNat / 16) 0,mE.getD ((s.getD k 0).toNat % 16) 0]),⟨⟨rfl,rfl⟩,rfl,h.1,h.2.1⟩,h.2.2.1,h.2.2.2⟩
   ·have ek:k=s.length:=by omega
    refine⟨ll 1 (by omega),b++[34],by rw[Bz];rfl,?_⟩;rw[h2,ek,List.take_length];rfl
def FY (x:Nat):List UInt8:=if x=0 then[] else Lib.decDigits x
theorem N5 (x:Nat):Lib.decDigits x=FY (x / 10)++[UInt8.ofNat (48+x % 10)]:=by
 unfold FY;rw[Lib.decDigits];by_cases h:x<10
 ·rw[dif_pos h,ah (by omega),Nat.mod_eq_of_lt h];rfl
 ·rw[dif_neg h,af (by omega)]
def TM:List UInt8:=[48,49,50,51,52,53,54,55,56,57]
theorem YL:∀d:Nat,d<10->(TM.take (d+1)).drop d=[UInt8.ofNat (48+d)]:=by decide
theorem WE (N:Nat) (m:Mem) (hN:N<=9223372036854775807):
  FnH Tryz.prog 121 [.v (.int .i64 N)] ⟨[],[]⟩ m fun r H' m' =>r= .v (.string (bs (Lib.decDigits N)))/\H' =⟨[],[]⟩/\m' =m:=by
 have hlen:(Lib.decDigits N).length<=20:=by rw[Lib.decDigits_length];have:=HN 19 N (by omega);omega
 refine aR aB Tryz.func121 ?_
 ·simp only[go_sem];refine ei aB (fun x:Nat×List UInt8=>⟨[⟨0,[],.v (.int .i64 x.1)⟩,⟨3,[],.v (.string (bs x.2))⟩],[],[],[],0,m⟩)
   (fun x=>x.1<=N/\((x.2=[]/\x.1=N)\/(x.2≠[]/\Lib.decDigits N=FY x.1++x.2))) (fun x=>x.1+if x.2=[] then 1 else 0) (N,[]) (by kernel_rfl) (fun _ _=>au _) (fun _ _=> .inl rfl) (fun _=> ?_) ?_ ⟨au _,.inl ⟨rfl,rfl⟩⟩ ?_
  ·simp only[go_sem]
  ·simp only[go_sem]
  ·rintro⟨x,b⟩ hx;simp only at hx;simp only[go_sem];have e1:(x:Int).tmod 10=((x % 10:Nat):Int):=by rw[Int.tmod_eq_emod_of_nonneg (by omega)];omega
   have e2:(x:Int).tdiv 10=((x / 10:Nat):Int):=by rw[Int.tdiv_eq_ediv_of_nonneg (by omega)];omega
   have e3:(((x % 10:Nat):Int)).toNat=x % 10:=Int.toNat_natCast _;have e4:(((x % 10:Nat):Int)+1).toNat=x % 10+1:=by omega
   rw[e1,e2,e3,e4];have e5:=YL (x % 10) (Nat.mod_lt _ (by omega));unfold TM at e5;rw[e5];have iO:b.length<=20:=by
    rcases hx.2 with h |h
    ·rw[h.1];simp
    ·have:=congrArg List.length h.2;rw[aI] at this;omega
   have hxN:=hx.1;refine⟨fun hc=>⟨by omega,by omega,by unfold aF;omega,⟨by omega,by omega,by omega⟩,by simp only[iB];omega,by omega,by unfold aF;omega,(x / 10,[UInt8.ofNat (48+x % 10)]++b),⟨rfl,rfl⟩,⟨by simp only;omega,.inr ⟨by simp,?_⟩⟩,?_⟩,fun hc=> ?_⟩
   ·simp only;rcases hx.2 with h |h
    ·rw[h.1,<- h.2,List.append_nil];exact N5 x
    ·have h0:¬x=0:=by
      rcases hc with hc |hc
      ·exact absurd hc h.1
      ·omega
     have e:FY x=Lib.decDigits x:=af h0;rw[h.2,e,N5 x,List.append_assoc]
   ·simp only[dW,List.nil_append,af (List.cons_ne_nil _ _)];by_cases hb:b=[]
    ·rw[ah hb];omega
    ·rw[af hb];rcases hc with hc |hc
     ·exact absurd hc hb
     ·omega
   ·rcases hx.2 with h |h
    ·exact absurd h.1 hc.1
    ·have h0:x=0:=by omega
     rw[h.2,h0];rfl
theorem XX {t:Tk} (h:((decide (t.k=3)||decide (t.k=4))==(decide (t.s=[])&& !decide (t.k=5)))=false):ff t=none:=by
 obtain⟨k,s,n,q⟩:=t;simp only at h;have hn:fJ []=false:=rfl;by_cases hs:s=[]
 ·subst hs;simp only[ao,Bool.true_and] at h;by_cases h3:k=3
  ·subst h3;exact absurd h (by simp)
  ·by_cases h4:k=4
   ·subst h4;exact absurd h (by simp)
   ·by_cases h5:k=5
    ·subst h5;exact absurd h (by simp)
    ·simp only[ff,h3,h4,h5,if_false,hn];have e1:gw.contains []=false:=by decide
     have e2:je.contains []=false:=by decide
     simp only[e1,e2];simp
 ·simp only[di hs,Bool.false_and] at h;by_cases h3:k=3
  ·subst h3;simp [ff,hs]
  ·by_cases h4:k=4
   ·subst h4;simp [ff,hs]
   ·simp only[di h3,di h4,Bool.or_self] at h;exact absurd h (by decide)
theorem XY {t:Tk} (h:((decide (t.k=3)||decide (t.k=4))==(decide (t.s=[])&& !decide (t.k=5)))=true):t.k=3\/t.k=4->t.s=[]:=by
 intro hk;have e:(decide (t.k=3)||decide (t.k=4))=true:=by simpa using hk
 rw[e] at h;have:=beq_iff_eq.1 h;have:=Bool.and_eq_true_iff.1 this.symm;exact of_decide_eq_true this.1
theorem zy {p:Prop} [Decidable p] {x:List UInt8}:(if p then some x else none).isSome=decide p:=by
 by_cases h:p<;>simp [h]
set_option maxHeartbeats 8000000 in
theorem V6 (t:Tk) (m:Mem) (ht:qA t):
  FnH Tryz.prog 120 [Tk.sv t] ⟨[],[]⟩ m fun r H' m' =>ae m m' /\H' =⟨[],[]⟩/\r= .v (.bool (ff t).isSome):=by
 have hl:=ht.1;refine enter G4 rW Tryz.func120 rfl rfl (by kernel_rfl) rfl ?_ ?_
 ·simp only[go_sem,Tk.sv,Tk.cells]
 ·simp only[go_sem,Tk.sv,Tk.cells];refine⟨Tryz.underlying4,fun hp=>by rw[XX hp];rfl,fun hp=> ?_⟩;have TY:=XY hp;refine⟨fun k1=> ?_,fun k1=>⟨fun k2=> ?_,fun k2=>⟨fun k3=> ?_,fun k3=>⟨fun k4=> ?_,fun k4=>⟨fun k5=> ?_,fun k5=>⟨fun k6=> ?_,fun k6=> ?_⟩⟩⟩⟩⟩⟩
  ·have hf:ff t=if t.n=0/\fJ t.s=true/\gw.contains t.s=false then some (Lib.replaceAll t.s [47] [58,58]) else none:=ah k1
   rw[hf,zy];clear hp;refine bO (.hoist 0 (.hoist 1 (.hoist 2 (.hoist 3 (.hoist 4 (.hoist 5 (.alt 6 [] (.hoist 7 (.hoist 8 (.hoist 10 (.hoist 11 (.alt 9 [11,10] (.alt 12 [] (.hoist 13 (.hoist 14 (.hoist 15 .done))) .stop) .stop))))) .stop))))))) rW (by kernel_rfl) (by kernel_rfl) ?_;simp only[go_sem];refine⟨fun _=>by unfold BL;omega,fun hh=>ab ((Ha m).mono ?_),fun hh=> ?_⟩
   ·rintro r H' m1 aN ⟨rfl,rfl,rfl⟩;simp only[go_sem];refine⟨by kernel_rfl,fun ad cp m2 aH _ bU=>bo ((Bu gw t.s ad 28 cp m2 bU (by decide)).mono ?_)⟩;rintro r H' m3 bI ⟨rfl,rfl⟩;simp only[go_sem];refine⟨.inr (Mem.le_trans aH bI),?_⟩;rw[hh.1,hh.2];cases gw.contains t.s<;>rfl
   ·rw[eq_comm,decide_eq_false_iff_not];rintro⟨a,b,_⟩;rcases hh with hh |hh
    ·exact hh a
    ·rw[b] at hh;cases hh
  ·have hf:ff t=if t.n=0/\gw.contains t.s=true then some t.s else none:=by unfold ff;rw[af k1,ah k2]
   rw[hf,zy];clear hp;refine bO (.hoist 0 (.hoist 1 (.hoist 2 (.hoist 3 (.hoist 5 (.hoist 6 (.alt 4 [6,5] (.alt 7 [] (.hoist 8 (.hoist 9 .done)) .stop) .stop))))))) rW (by kernel_rfl) (by kernel_rfl) ?_;simp only[go_sem];refine⟨fun hh=>ab ((Ha m).mono ?_),fun hh=> ?_⟩
   ·rintro r H' m1 aN ⟨rfl,rfl,rfl⟩;simp only[go_sem];refine⟨by kernel_rfl,fun ad cp m2 aH _ bU=>bo ((Bu gw t.s ad 28 cp m2 bU (by decide)).mono ?_)⟩;rintro r H' m3 bI ⟨rfl,rfl⟩;simp only[go_sem];refine⟨.inr (Mem.le_trans aH bI),?_⟩;rw[hh];cases gw.contains t.s<;>rfl
   ·rw[eq_comm,decide_eq_false_iff_not];rintro⟨a,b⟩;exact hh a
  ·have hf:ff t=if(t.s=[]/\0<=t.n)/\t.n<2147483648 then some (Lib.itoa t.n) else none:=by unfold ff;rw[af k1,af k2,ah k3]
   rw[hf,zy,<- Bool.decide_and,decide_eq_decide];have:=TY (.inl k3);simp only[this,true_and];omega
  ·have hf:ff t=if t.s=[]/\0<=t.n then some (Lib.itoa t.n++[76]) else none:=by unfold ff;rw[af k1,af k2,af k3,ah k4]
   rw[hf,zy,decide_eq_decide];simp only[TY (.inr k4),true_and]
  ·have hf:ff t=if t.n=0/\t.s.length<=1024 then some (uq t.s) else none:=by unfold ff;rw[af k1,af k2,af k3,af k4,ah k5]
   rw[hf,zy,<- Bool.decide_and,decide_eq_decide];omega
  ·have hf:ff t=if t.n=0/\je.contains t.s=true then some t.s else none:=by unfold ff;rw[af k1,af k2,af k3,af k4,af k5,ah k6]
   rw[hf,zy];clear hp;refine bO (.hoist 0 (.hoist 1 (.hoist 2 (.hoist 3 (.hoist 5 (.hoist 6 (.alt 4 [6,5] (.alt 7 [] (.hoist 8 (.hoist 9 .done)) .stop) .stop))))))) rW (by kernel_rfl) (by kernel_rfl) ?_;simp only[go_sem];refine⟨fun hh=>ab ((Wg m).mono ?_),fun hh=> ?_⟩
   ·rintro r H' m1 aN ⟨rfl,rfl,rfl⟩;simp only[go_sem];refine⟨by kernel_rfl,fun ad cp m2 aH _ bU=>bo ((Bu je t.s ad 30 cp m2 bU (by decide)).mono ?_)⟩;rintro r H' m3 bI ⟨rfl,rfl⟩;simp only[go_sem];refine⟨.inr (Mem.le_trans aH bI),?_⟩;rw[hh];cases je.contains t.s<;>rfl
   ·rw[eq_comm,decide_eq_false_iff_not];rintro⟨a,b⟩;exact hh a
  ·have hf:ff t=none:=by unfold ff;rw[af k1,af k2,af k3,af k4,af k5,af k6]
   rw[hf];rfl
theorem BG {t:Tk} {x:List UInt8} (h:ff t=some x):(t.k=3->0<=t.n/\x=Lib.itoa t.n)/\(t.k=4->0<=t.n/\x=Lib.itoa t.n++[76])/\(t.k=5->x=uq t.s)/\(t.k=1->x=spell t.s)/\(¬t.k=3->¬t.k=4->¬t.k=5->¬t.k=1->x=t.s):=by
 unfold ff at h;split at h
 ·rename_i hk;split at h
  ·cases h;exact⟨by omega,by omega,by omega,fun _=>QS _,fun _ _ _ h=>absurd hk h⟩
  ·cases h
 ·split at h
  ·rename_i h1 hk;split at h
   ·cases h;exact⟨by omega,by omega,by omega,fun h=>absurd h h1,fun _ _ _ _=>rfl⟩
   ·cases h
  ·split at h
   ·rename_i h1 _ hk;split at h
    ·rename_i hc;cases h;exact⟨fun _=>⟨hc.1.2,rfl⟩,by omega,by omega,fun h=>absurd h h1,fun h=>absurd hk h⟩
    ·cases h
   ·split at h
    ·rename_i h1 _ h3 hk;split at h
     ·rename_i hc;cases h;exact⟨fun h=>absurd h h3,fun _=>⟨hc.2,rfl⟩,by omega,fun h=>absurd h h1,fun _ h=>absurd hk h⟩
     ·cases h
    ·split at h
     ·rename_i h1 _ h3 h4 hk;split at h
      ·cases h;exact⟨fun h=>absurd h h3,fun h=>absurd h h4,fun _=>rfl,fun h=>absurd h h1,fun _ _ h=>absurd hk h⟩
      ·cases h
     ·split at h
      ·rename_i h1 _ h3 h4 h5 hk;split at h
       ·cases h;exact⟨fun h=>absurd h h3,fun h=>absurd h h4,fun h=>absurd h h5,fun h=>absurd h h1,fun _ _ _ _=>rfl⟩
       ·cases h
      ·cases h
theorem QV (n:Int) (m:Mem) (h0:0<=n) (hI:aF n):FnH Tryz.prog 121 [.v (.int .i64 n)] ⟨[],[]⟩ m fun r H' m' =>r= .v (.string (bs (Lib.itoa n)))/\H' =⟨[],[]⟩/\m' =m:=by
 obtain⟨u,rfl⟩:∃u:Nat,n=u:=⟨n.toNat,by omega⟩;rw[Lib.itoa_nonneg];exact WE u m (by have:=hI.2;omega)
set_option maxHeartbeats 8000000 in
theorem VX (t:Tk) (m:Mem) (ht:qA t):
  FnH Tryz.prog 47 [Tk.sv t] ⟨[],[]⟩ m fun r H' m' =>ae m m' /\H' =⟨[],[]⟩/\Ur (ff t) r:=by
 have hl:=ht.1;have hv:=V6 t m ht;cases hx:ff t with
 |none=>
  rw[hx] at hv;refine enter G4 rW Tryz.func47 rfl rfl (by kernel_rfl) rfl ?_ ?_
  ·simp only[go_sem,Tk.sv,Tk.cells]
  ·simp only[go_sem,Tk.sv,Tk.cells];refine ab (hv.mono ?_);rintro r H' m1 aN ⟨lO,rfl,rfl⟩;simp only[go_sem,Option.isSome];exact⟨lO,rfl⟩
 |some x=>
  rw[hx] at hv;refine enter G4 rW Tryz.func47 rfl rfl (by kernel_rfl) rfl ?_ ?_
  ·simp only[go_sem,Tk.sv,Tk.cells]
  ·simp only[go_sem,Tk.sv,Tk.cells];refine ab (hv.mono ?_);rintro r H' m1 aN ⟨lO,rfl,rfl⟩;simp only[go_sem,Option.isSome];have i3:=(BG hx).1;have i4:=(BG hx).2.1;have i5:=(BG hx).2.2.1;have i1:=(BG hx).2.2.2.1;have i6:=(BG hx).2.2.2.2;refine⟨fun k3=>ab ((QV t.n m1 (i3 k3).1 ht.2).mono ?_),fun k3=>⟨fun k4=>ab ((QV t.n m1 (i4 k4).1 ht.2).mono ?_),fun k4=>⟨fun k5=>ab ((VV t.s m1 hl).mono ?_),fun k5=>⟨fun k1=>ab ((VT t.s m1 hl).mono ?_),fun k1=>⟨lO,?_⟩⟩⟩⟩⟩
   ·rintro r H' m2 aH ⟨rfl,rfl,rfl⟩;simp only[go_sem];refine⟨lO,?_⟩;rw[(i3 k3).2];rfl
   ·rintro r H' m2 aH ⟨rfl,rfl,rfl⟩;simp only[go_sem];refine⟨by have:=P3 ht.2;omega,lO,?_⟩;rw[(i4 k4).2];rfl
   ·rintro r H' m2 aH ⟨rfl,rfl,rfl⟩;simp only[go_sem];refine⟨lO,?_⟩;rw[i5 k5];rfl
   ·rintro r H' m2 aH ⟨rfl,rfl,rfl⟩;simp only[go_sem];refine⟨lO,?_⟩;rw[i1 k1];rfl
   ·rw[i6 k3 k4 k5 k1];rfl
theorem Oq:∀(acc:List (List UInt8)) (x:List UInt8),Lib.join (acc++[x]) [32]=if acc=[] then x else Lib.join acc [32]++[32]++x
 |[],x=>by simp [Lib.join]
 |[y],x=>by
  rw[af (List.cons_ne_nil _ _)];show Lib.join (y::x::[]) [32]=_;rw[E6];simp [Lib.join]
 |y::z::acc,x=>by
  rw[af (List.cons_ne_nil _ _)];show Lib.join (y::z::(acc++[x])) [32]=_;have ih:=Oq (z::acc) x;rw[af (List.cons_ne_nil _ _)] at ih;rw[E6,E6,show z::(acc++[x])=z::acc++[x] from rfl,ih];simp
theorem Xs {a b c:Mem} (h:ae a b) (h' :ae b c):ae a c:=by
 rcases h' with rfl |h'
 ·exact h
 ·exact On h h'
theorem OT {m m' :Mem} {a:Option Addr} {n sz:Nat} {xs:List Value} (hle:ae m m') (h:aZ m a n sz xs):aZ m' a n sz xs:=by
 rcases hle with rfl |hle
 ·exact h
 ·exact zS hle h
set_option maxHeartbeats 8000000 in
theorem W0 (ts:List Tk) (a:Option Addr) (n c:Nat) (m:Mem) (h:aZ m a n 4 (cv ts)) (ht:∀t∈ts,qA t) (hn:n<=4611686018427387904):
  FnH Tryz.prog 23 [.v (.slice a n c)] ⟨[],[]⟩ m fun r H' m' =>ae m m' /\H' =⟨[],[]⟩/\r= .tup [.v (.string (bs (lM ts).1)),.v (.int .i64 (lM ts).2)]:=by
 have hl:ts.length=n:=by have:=h.1;rw[BR] at this;omega
 refine aR rW Tryz.func23 ?_
 ·simp only[go_sem];refine⟨fun hb=> ?_,fun hb=> ?_⟩
  ·have e:lM ts=([],5):=ah (by omega);rw[e]
  ·have hj:lM ts=match jS ts with |none=>([],1) |some l=>if 20000<(Lib.join l [32]).length then([],8) else(Lib.join l [32],0):=af (by omega)
   refine du rW (fun x:Nat×List (List UInt8)×Nat×Mem=>⟨[⟨0,[],.v (.slice a n c)⟩,⟨4,[],.vec 0 x.2.2.1⟩,⟨5,[],.v (.int .i64 x.1)⟩],[],[],[⟨0,x.2.2.1,5,1,(Lib.join x.2.1 [32]).length,jW (Lib.join x.2.1 [32])⟩],1,x.2.2.2⟩)
    (fun x=>ae m x.2.2.2/\aZ x.2.2.2 a n 4 (cv ts)/\x.1<=n/\x.2.1.length=x.1/\(∀y∈x.2.1,y.length<=10000000)/\jS ts=CI x.2.1 (jS (ts.drop x.1))) (fun x=>n - x.1) (0,[],0,m) (fun _ _=>au _) (fun x hx=>hx.1) ?_ ?_ ?_
   ·simp only[go_sem];exact⟨rfl,rfl,rfl⟩
   ·refine⟨.inl rfl,h,aG _,rfl,(fun y hy=>by cases hy),?_⟩;simp [CI]
   ·rintro⟨k,acc,u,mm⟩ ⟨h1,h3,h4,h5,h7,h6⟩;simp only at h1 h3 h4 h5 h6 h7;have hr:∀(cB:k<ts.length),Rd mm (cM a (k * 4)) (ko ts[k])/\a≠none:=fun cB=>by
     have:=dA h3 (i:=k) (by omega);rwa [Tc cB] at this
    have pU:∀(cB:k<ts.length),_:=fun cB=>(VX ts[k] mm (ht _ (List.getElem_mem cB))).mono fun r H' m' _ h=>And.intro h.1 (And.intro h.2.1 (abl h.2.2))
    have hjs:=fun cB:k=n=>show jS ts=some acc by rw[h6,List.drop_eq_nil_of_le (by omega)];simp [jS,CI]
    have n9:=aal [32] 10000000 acc h7;simp only[iB] at n9;simp only[go_sem];refine⟨fun ay=> ?_,fun cg=> ?_⟩
    ·have cB:k<ts.length:=by clear hr pU;omega
     refine⟨⟨by clear hr pU;omega,ay,(hr cB).2⟩,ko ts[k],⟨(hr cB).1,rfl⟩,?_⟩;simp only[go_sem,ko];refine ab ((pU cB).mono ?_);clear pU;rintro r H' m' hm ⟨hle,rfl,x,e,rfl,hx⟩;have sw:ae m m' :=Xs h1 hle;simp only[go_sem];refine⟨fun he=>⟨sw,?_⟩,fun he=> ?_⟩
     ·rcases hx with ⟨h8,_⟩ |⟨rfl,rfl,h8⟩
      ·exact absurd h8 he
      ·rw[hj,h6,acv cB h8];rfl
     ·have U2:ff ts[k]=some x:=by
       rcases hx with ⟨_,h8⟩ |⟨h8,_⟩
       ·exact h8
       ·rw[he] at h8;cases h8
      have De:=aav (ht _ (List.getElem_mem cB)) U2;have wN:=Oq acc x;have gm:∀y∈acc++[x],y.length<=10000000:=fun y hy=>by
       rcases List.mem_append.1 hy with hy |hy
       ·exact h7 y hy
       ·rw[List.mem_singleton.1 hy];exact De
      have qI:jS ts=CI (acc++[x]) (jS (ts.drop (k+1))):=by
       rw[h6,aau cB U2];cases jS (ts.drop (k+1))<;>simp [CI]
      have hlen:(acc++[x]).length=k+1:=by rw[aI,h5];rfl
      refine⟨fun h0=> ?_,fun h0=> ?_⟩
      ·have cQ:acc≠[]:=by
        rintro rfl;simp only[bh] at h5;omega
       rw[af cQ] at wN;refine⟨⟨by omega,by simp only[maxLen];omega⟩,⟨by omega,by simp only[maxLen];omega⟩,by unfold aF;omega,(k+1,acc++[x],u+1+1,m'),⟨⟨rfl,rfl⟩,⟨rfl,?_,?_⟩,.inl rfl⟩,⟨sw,OT hle h3,by simp only;omega,hlen,gm,qI⟩,by simp only;omega⟩
       ·simp only[wN,aI,iB]
       ·simp only[wN,Bz];rfl
      ·have wR:acc=[]:=List.eq_nil_of_length_eq_zero (by omega);rw[ah wR] at wN;subst wR;refine⟨⟨by simp only[Lib.join_nil,bh];omega,by simp only[maxLen,Lib.join_nil,bh];omega⟩,by unfold aF;omega,(k+1,[]++[x],u+1,m'),⟨⟨rfl,rfl⟩,⟨rfl,?_,?_⟩,.inl rfl⟩,⟨sw,OT hle h3,by simp only;omega,hlen,gm,qI⟩,by simp only;omega⟩
       ·simp only[wN,Lib.join_nil,bh,Nat.zero_add]
       ·simp only[wN,Lib.join_nil];rfl
    ·have Ue:jS ts=some acc:=hjs (by clear pU;omega);refine⟨fun hx=>⟨h1,?_⟩,fun hx=>⟨_,rfl,h1,?_⟩⟩
     ·rw[hj,Ue];simp only[ah (show 20000<(Lib.join acc [32]).length by clear pU;omega)]
     ·rw[hj,Ue];simp only[af (show ¬20000<(Lib.join acc [32]).length by clear pU;omega)]
end Go.Proofs.YtimddhkipjedcaaGreatDoor.E
namespace Go.Proofs.YtimddhkipjedcaaGreatDoor.E
open Go Go.RowKit
def cE (first:Bool):List UInt8->Nat
 |[]=>0
 |c::r=>if dU c.toNat||(!first&&eG c.toNat) then 1+cE false r else 0
def jh (s:List UInt8):Int×Bool:=
 match Lib.parseIntB 64 s with
 | .ok v=>(v,true)
 | .range=>(Lib.intSat 64 s,false)
 |_=>(0,false)
def dV:Bool->List UInt8->Nat
 |_,[]=>0
 |true,c::r=>if c.toNat=10 then 1+dV false r else 1+dV true r
 |false,c::r=>if c.toNat=9\/c.toNat=10\/c.toNat=13\/c.toNat=32 then 1+dV false r else if c.toNat=47/\r.head?.map UInt8.toNat=some 47 then 1+dV true r else 0
theorem BA:∀(b:Bool) (l:List UInt8),dV b l<=l.length
 |_,[]=>by simp [dV]
 |true,c::r=>by
  have h1:=BA false r;have h2:=BA true r;simp only[dV,aL];split<;>omega
 |false,c::r=>by
  have h1:=BA false r;have h2:=BA true r;simp only[dV,aL];split
  ·omega
  ·split<;>omega
theorem D7 {a b:List UInt8}:jC a b=true↔∃r,a=b++r:=by
 simp only[jC,aD,bt];constructor
 ·rintro⟨_,h⟩;exact⟨a.drop b.length,by conv=>lhs;rw[<- List.take_append_drop b.length a,h]⟩
 ·rintro⟨r,rfl⟩;exact⟨by rw[aI];omega,by simp⟩
theorem JQ {c:UInt8} {n:Nat} (h:c.toNat=n):c=UInt8.ofNat n:=by rw[<- h];simp
theorem NB {c:UInt8} {r:List UInt8}:jC (c::r) [47,47]=true↔c.toNat=47/\r.head?.map UInt8.toNat=some 47:=by
 rw[D7];constructor
 ·rintro⟨t,h⟩;simp only[dW,List.nil_append,List.cons.injEq] at h;rw[h.1,h.2];simp
 ·rintro⟨h1,h2⟩;cases r with
  |nil=>simp at h2
  |cons d r=>
   simp only[List.head?_cons,Option.map_some,dT] at h2;exact⟨r,by rw[JQ h1,JQ h2];rfl⟩
theorem JG (c:UInt8):∀(l:List UInt8),Lib.indexByte l c<l.length
 |[]=>by simp [Lib.indexByte]
 |d::r=>by
  have:=JG c r;simp only[Lib.indexByte,aL];split
  ·omega
  ·split<;>omega
abbrev vw:Tk:=⟨0,[],0,0⟩
def sU (l:List UInt8):Option (List UInt8):=je.find? fun o=>jC l o
def pN (c:UInt8):Int:=Lib.indexByte mE c
def fq:List UInt8->Nat×Int×Bool
  |[]=>(0,0,false)
  |c::r=>if c.toNat=34\/c.toNat=92 then(1,c.toNat,true) else if c.toNat=110 then(1,10,true) else if c.toNat=120 then
      (match r with
        |h::l::_=>(3,IntKind.u8.wrap (16 * pN h+pN l),decide (0<=pN h)&&decide (0<=pN l))
        |_=>(0,0,false)) else(0,0,false)
def jB:Nat->List UInt8->Option (List UInt8×Nat)
  |0,_=>none
  |_+1,[]=>none
  |f+1,c::r=>if c.toNat=34 then some ([],1) else if c.toNat<32\/126<c.toNat then none else
      if c.toNat=92 then(if(fq r).2.2=true then(jB f (r.drop (fq r).1)).map fun x=>(UInt8.ofNat (fq r).2.1.toNat::x.1,1+(fq r).1+x.2) else none)
      else(jB f r).map fun x=>(c::x.1,1+x.2)
def kP (l:List UInt8):Option (List UInt8×Nat):=jB (l.length+1) l
theorem wrap_u8 (n:Int):∃x:UInt8,IntKind.u8.wrap n=x.toNat:=by
 have h:0<=IntKind.u8.wrap n/\IntKind.u8.wrap n<256:=by
  have e:IntKind.u8.wrap n=n % 256:=by simp [IntKind.wrap,IntKind.bits,IntKind.signed]
  rw[e];omega
 exact⟨UInt8.ofNat (IntKind.u8.wrap n).toNat,by rw[UInt8.toNat_ofNat'];omega⟩
theorem YJ (l:List UInt8):∃x:UInt8,(fq l).2.1=x.toNat:=by
 unfold fq;split
 ·exact⟨0,rfl⟩
 ·rename_i c r;split
  ·exact⟨c,rfl⟩
  ·split
   ·exact⟨10,rfl⟩
   ·split
    ·split
     ·exact wrap_u8 _
     ·exact⟨0,rfl⟩
    ·exact⟨0,rfl⟩
theorem EJ (l:List UInt8):(fq l).1<=l.length/\((fq l).2.2=true->1<=(fq l).1):=by
 unfold fq;split
 ·simp
 ·rename_i c r;split
  ·simp
  ·split
   ·simp
   ·split
    ·split
     ·simp
     ·simp
    ·simp
def dN:List UInt8->Nat
 |[]=>0
 |c::r=>if eG c.toNat then 1+dN r else 0
theorem B9:∀l,dN l<=l.length
 |[]=>by simp [dN]
 |c::r=>by
  have:=B9 r;simp only[dN,aL];split<;>omega
def gL (l:List UInt8):Bool×Int×Nat×Bool:=
 let d:=dN l
 let av:=decide ((l.drop d).head?.map UInt8.toNat=some 76)
 let v:=jh (l.take d)
 (av,v.1,if av=true then d+1 else d,v.2&&decide (v.1<=if av=true then 9223372036854775807 else 2147483647)&&(decide ((l.head?.map UInt8.toNat)≠some 48)||decide (d=1)))
def pM (s:List UInt8) (p:Nat):List UInt8:=(s.drop p).take (dN (s.drop p))
theorem ad9 {s:List UInt8} {p k:Nat} (hp:p<s.length) (hk:k<=s.length) (kZ:k=p+dN (s.drop p)) (T1:p<k):
  (s.take k).drop p=pM s p/\(pM s p).length=k - p/\gL (s.drop p)=(decide ((k:Int)<s.length/\(((s.getD k 0).toNat:Nat):Int)=76),(jh (pM s p)).1,(if((k:Int)<s.length/\(((s.getD k 0).toNat:Nat):Int)=76) then k - p+1 else k - p),
   (jh (pM s p)).2&&decide ((jh (pM s p)).1<=if((k:Int)<s.length/\(((s.getD k 0).toNat:Nat):Int)=76) then 9223372036854775807 else 2147483647)&&(decide (((pM s p).getD 0 0).toNat≠48)||decide ((pM s p).length=1))):=by
 have ld:(s.take k).drop p=(s.drop p).take (dN (s.drop p)):=by
  rw[List.drop_take];congr 1;omega
 have hdn:(s.drop p).drop (dN (s.drop p))=s.drop k:=by rw[List.drop_drop,kZ]
 have wS:((s.drop p).take (dN (s.drop p))).length=k - p:=by rw[List.length_take];have:=B9 (s.drop p);omega
 have GM:((s.drop p).take (dN (s.drop p))).getD 0 0=(s.drop p).getD 0 0:=by
  rw[List.getD_eq_getElem?_getD,List.getElem?_take,ah (by omega),List.getD_eq_getElem?_getD]
 have hdg:dN (s.drop p)=k - p:=by omega
 have hh0:(s.drop p).head?.map UInt8.toNat=some ((s.drop p).getD 0 0).toNat:=by
  rw[drop_at hp];rfl
 have hh1:((s.drop k).head?.map UInt8.toNat=some 76)=((k:Int)<s.length/\(((s.getD k 0).toNat:Nat):Int)=76):=by
  rw[eq_iff_iff];rcases Nat.lt_or_ge k s.length with h' |h'
  ·rw[drop_at h'];simp only[List.head?_cons,Option.map_some,dT];omega
  ·rw[List.drop_of_length_le h'];simp only[List.head?_nil,Option.map_none];constructor
   ·intro h;cases h
   ·intro h;omega
 refine⟨ld,wS,?_⟩;unfold pM
 have hN:gL (s.drop p)=(decide (((s.drop p).drop (dN (s.drop p))).head?.map UInt8.toNat=some 76),(jh ((s.drop p).take (dN (s.drop p)))).1,
  (if decide (((s.drop p).drop (dN (s.drop p))).head?.map UInt8.toNat=some 76)=true then dN (s.drop p)+1 else dN (s.drop p)),
  (jh ((s.drop p).take (dN (s.drop p)))).2&&decide ((jh ((s.drop p).take (dN (s.drop p)))).1<=if decide (((s.drop p).drop (dN (s.drop p))).head?.map UInt8.toNat=some 76)=true then 9223372036854775807 else 2147483647)&&(decide (((s.drop p).head?.map UInt8.toNat)≠some 48)||decide (dN (s.drop p)=1))):=rfl
 rw[hN,hdn,wS,GM,hh0];generalize (s.drop p).take (dN (s.drop p))=t
 rw[hdg];simp only[hh1,bt,ne_eq,dT]
def jV:Nat->List UInt8->Nat
 |0,_=>0
 |f+1,l=>if jC l [58,58]=true/\cE true (l.drop 2)≠0 then 2+cE true (l.drop 2)+jV f (l.drop (2+cE true (l.drop 2))) else 0
def jL (l:List UInt8):Nat:=cE true l+jV (l.length+1) (l.drop (cE true l))
def gr (l:List UInt8):List UInt8:=Lib.replaceAll (l.take (jL l)) [58,58] [47]
theorem xq:∀(b:Bool) (l:List UInt8),cE b l<=l.length
 |_,[]=>by simp [cE]
 |b,c::r=>by
  have:=xq false r;simp only[cE,aL];split<;>omega
theorem E2 {a b:List UInt8} (h:jC a b=true):b.length<=a.length:=by
 obtain⟨r,rfl⟩:=D7.1 h;rw[aI];omega
def gT (l:List UInt8):Option (Int×List UInt8×Int×Nat):=
 match l with
 |[]=>none
 |c::r=>
  if dU c.toNat=true then(if fJ (gr l)=true then some (if gw.contains (gr l)=true then 2 else 1,gr l,0,jL l) else none)
  else if eG c.toNat=true then(if(gL l).2.2.2=true then some (if(gL l).1=true then 4 else 3,[],(gL l).2.1,(gL l).2.2.1) else none)
  else if c.toNat=34 then(match kP r with
   |some (b,n)=>if b.length<=1024 then some (5,b,0,1+n) else none
   |none=>none)
  else(sU l).map fun o=>(6,o,0,o.length)
theorem Rw:∀(f:Nat) (l:List UInt8),jV f l<=l.length
 |0,_=>aG _
 |f+1,l=>by
  simp only[jV];split
  ·rename_i h;have h1:=xq true (l.drop 2);have h2:=Rw f (l.drop (2+cE true (l.drop 2)));have h3:=E2 h.1;simp only[dI,aL,bh] at h1 h2 h3;omega
  ·exact aG _
theorem SN (l:List UInt8):jL l<=l.length:=by
 have h1:=xq true l;have h2:=Rw (l.length+1) (l.drop (cE true l));rw[dI] at h2;unfold jL;omega
theorem HK:∀(f:Nat) (l:List UInt8) (b:List UInt8) (n:Nat),jB f l=some (b,n)->1<=n/\n<=l.length
 |0,l,b,n,h=>by cases h
 |f+1,[],b,n,h=>by cases h
 |f+1,c::r,b,n,h=>by
  simp only[jB] at h;split at h
  ·cases h;simp
  ·split at h
   ·cases h
   ·split at h
    ·split at h
     ·obtain⟨⟨b',n'⟩,h',e⟩:=Option.map_eq_some_iff.1 h;cases e;have h1:=HK f _ _ _ h';have h2:=(EJ r).1;rw[dI] at h1;simp only[aL];omega
     ·cases h
    ·obtain⟨⟨b',n'⟩,h',e⟩:=Option.map_eq_some_iff.1 h;cases e;have h1:=HK f _ _ _ h';simp only[aL];omega
theorem WV {l o:List UInt8} (h:sU l=some o):1<=o.length/\o.length<=l.length:=by
 have h1:=List.find?_some h;have h2:=List.mem_of_find?_eq_some h;exact⟨(by decide:∀o∈je,1<=o.length) o h2,E2 h1⟩
theorem O2 {l:List UInt8} {k:Int} {t:List UInt8} {n:Int} {len:Nat} (h:gT l=some (k,t,n,len)):1<=len/\len<=l.length:=by
 cases l with
 |nil=>cases h
 |cons c r=>
  simp only[gT] at h;split at h
  ·rename_i hs;split at h
   ·cases h;refine⟨?_,SN _⟩;have:1<=cE true (c::r):=by
     simp only[cE];rw[ah (by rw[hs];rfl)];omega
    unfold jL;omega
   ·cases h
  ·split at h
   ·rename_i hd;split at h
    ·cases h;have h1:=B9 (c::r);have h2:1<=dN (c::r):=by simp only[dN];rw[ah hd];omega
     simp only[gL];split
     ·rename_i hb;refine⟨by omega,?_⟩;rcases Nat.lt_or_ge (dN (c::r)) (c::r).length with h3 |h3
      ·omega
      ·rw[List.drop_of_length_le h3] at hb;simp at hb
     ·exact⟨h2,h1⟩
    ·cases h
   ·split at h
    ·split at h
     ·rename_i b n' hq;split at h
      ·cases h;have:=HK _ _ _ _ hq;simp only[aL];omega
      ·cases h
     ·cases h
    ·obtain⟨o,ho,e⟩:=Option.map_eq_some_iff.1 h;cases e;exact WV ho
def rG (s:List UInt8):Nat->Nat->List Tk->List Tk×Int×Int
 |0,_,acc=>(acc,0,0)
 |f+1,p,acc=>
  let q:=p+dV false (s.drop p)
  if s.length<=q then(acc,0,0) else if 5000<=acc.length then([],0,5) else
   match gT (s.drop q) with
   |none=>([],q,70)
   |some (k,t,n,len)=>rG s f (q+len) (acc++[⟨k,t,n,q⟩])
def aU (s:List UInt8):List Tk×Int×Int:=if 20000<s.length then([],0,8) else rG s (s.length+1) 0 []
theorem VR (a:List Tk) (t:Tk):cv a++[Value.int .i64 t.k,.string (bs t.s),.int .i64 t.n,.int .i64 t.at_]=cv (a++[t]):=by simp [cv]
def CX (x:List Tk×Int×Int) (r:SV) (H' :Hp):Prop:=
 (x.2.2=0/\∃k u,r= .tup [.vec k u,.v (.int .i64 x.2.1),.v (.int .i64 x.2.2)]/\H' =⟨[],[⟨k,u,50,4,x.1.length,cv x.1⟩]⟩)\/
 (x.2.2≠0/\x.1=[]/\r= .tup [.v (.slice none 0 0),.v (.int .i64 x.2.1),.v (.int .i64 x.2.2)]/\H' =⟨[],[]⟩)
theorem Jp (c:Int):eG c=true↔48<=c/\c<=57:=by simp [eG]
def ajf (F:Int->Value):List Value->Option (Prop×Value)
 |[.int .u8 c]=>some (0<=c/\c<=255,F c)
 |_=>none
attribute [go_sem] ajf.eq_1
def pIs (B:List UInt8->Int->List UInt8->Prop) (F:List UInt8->Int->List UInt8->Value):List Value->Option (Prop×Value)
 |[.string a,.int .i64 c,.string b]=>some (B (tl a) c (tl b),F (tl a) c (tl b))
 |_=>none
attribute [go_sem] pIs.eq_1
def pj:Nat->List UInt8->Option Nat
 |n,[]=>some n
 |n,c::r=>if n<=(9223372036854775807 - (c.toNat - 48)) / 10 then pj (n * 10+(c.toNat - 48)) r else none
theorem OX {M:Nat}:∀(l:List UInt8) (acc u:Nat),Lib.parseUintM M acc l= .ok u->acc<=u
 |[],acc,u,h=>by simp only[Lib.parseUintM,Lib.NumEnd.ok.injEq] at h;omega
 |c::r,acc,u,h=>by
  simp only[Lib.parseUintM] at h;split at h
  ·split at h
   ·cases h
   ·split at h
    ·cases h
    ·have:=OX r _ u h;omega
  ·cases h
theorem MU:∀(l:List UInt8) (n:Nat),n<=9223372036854775807->(∀c∈l,eG c.toNat=true)->
  match pj n l with
  |some v=>Lib.parseUintM 18446744073709551615 n l= .ok v/\v<=9223372036854775807
  |none=>∀u,Lib.parseUintM 18446744073709551615 n l= .ok u->9223372036854775808<=u
 |[],n,hn,_=>⟨rfl,hn⟩
 |c::r,n,hn,hd=>by
  have hc:=(Jp _).1 (hd c (bY ..));have hr:=fun x hx=>hd x (bR _ hx)
  simp only[pj];by_cases h:n<=(9223372036854775807 - (c.toNat - 48)) / 10
  ·rw[ah h];have ih:=MU r (n * 10+(c.toNat - 48)) (by omega) hr;have e:Lib.parseUintM 18446744073709551615 n (c::r)=Lib.parseUintM 18446744073709551615 (n * 10+(c.toNat - 48)) r:=by
    simp only[Lib.parseUintM];rw[ah (by omega),af (by omega),af (by omega)]
   rw[e];exact ih
  ·rw[af h];intro u hu;simp only[Lib.parseUintM] at hu;rw[ah (by omega)] at hu;split at hu
   ·cases hu
   ·split at hu
    ·cases hu
    ·have:=OX r _ u hu;omega
theorem Nv {l:List UInt8} (cQ:l≠[]) (hd:∀c∈l,eG c.toNat=true):
  match pj 0 l with
  |some v=>jh l=((v:Int),true)/\v<=9223372036854775807
  |none=>(jh l).2=false:=by
 have h:=MU l 0 (by omega) hd;cases l with
 |nil=>exact absurd rfl cQ
 |cons c r=>
  have hc:=(Jp _).1 (hd c (bY ..));have e:jh (c::r)=match Lib.parseUintM 18446744073709551615 0 (c::r) with
   | .ok u=>if 9223372036854775808<=u then(Lib.intSat 64 (c::r),false) else((u:Int),true)
   | .range=>(Lib.intSat 64 (c::r),false)
   |_=>(0,false):=by
   unfold jh Lib.parseIntB;simp only[Lib.parseUintB];have h43:¬(c.toNat=43\/c.toNat=45):=by omega
   have Vk:¬c.toNat=45:=by omega
   rw[af h43,af (List.cons_ne_nil _ _)];cases Lib.parseUintM (2 ^ 64 - 1) 0 (c::r) with
   |ok u=>
    by_cases hu:9223372036854775808<=u
    ·simp [Vk,hu]
    ·simp [Vk,hu]
   |range=>rfl
   |_=>rfl
  rw[e];cases hr:pj 0 (c::r) with
  |some v=>
   rw[hr] at h;rw[h.1];simp only;rw[af (by omega)];exact⟨rfl,h.2⟩
  |none=>
   rw[hr] at h;cases hm:Lib.parseUintM 18446744073709551615 0 (c::r) with
   |ok u=>
    have:=h u hm;simp only;rw[ah this]
   |range=>rfl
   |_=>rfl
theorem RO:∀(l:List UInt8),∀c∈l.take (dN l),eG c.toNat=true
 |[],c,h=>by simp at h
 |d::r,c,h=>by
  simp only[dN] at h;split at h
  ·rename_i hd;rw[Nat.add_comm,List.take_succ_cons] at h;rcases List.mem_cons.1 h with rfl |h
   ·exact hd
   ·exact RO r c h
  ·simp at h
theorem Ia:∀(b:Bool) (l:List UInt8),∀c∈l.take (cE b l),c≠58
 |_,[],c,h=>by simp at h
 |b,d::r,c,h=>by
  simp only[cE] at h;split at h
  ·rename_i hd;rw[Nat.add_comm,List.take_succ_cons] at h;rcases List.mem_cons.1 h with rfl |h
   ·rintro rfl;revert hd;cases b<;>decide
   ·exact Ia false r c h
  ·simp at h
theorem P5:∀(A:List UInt8),(∀c∈A,c≠58)->Lib.index A [58,58]= -1
 |[],_=>rfl
 |a::A,h=>by
  have ih:=P5 A fun c hc=>h c (bR _ hc)
  have ha:=h a (bY ..);have hp:List.isPrefixOf [58,58] (a::A)=false:=by
   simp only[List.isPrefixOf,Bool.and_eq_false_iff];left;exact beq_eq_false_iff_ne.2 fun e=>ha e.symm
  simp only[Lib.index,hp,ih];rfl
theorem P6:∀(A r:List UInt8),(∀c∈A,c≠58)->Lib.index (A++58::58::r) [58,58]=A.length
 |[],r,_=>by simp [Lib.index,List.isPrefixOf]
 |a::A,r,h=>by
  have ih:=P6 A r fun c hc=>h c (bR _ hc)
  have ha:=h a (bY ..);have hp:List.isPrefixOf [58,58] (a::(A++58::58::r))=false:=by
   simp only[List.isPrefixOf,Bool.and_eq_false_iff];left;exact beq_eq_false_iff_ne.2 fun e=>ha e.symm
  simp only[dW,Lib.index,hp,ih];rw[af (by decide),af (by simp),aL];rfl
def wc (F:Nat) (s:List UInt8):List UInt8:=Lib.replaceK [58,58] [47] (Lib.countFrom [58,58] F s) s
theorem QU {F:Nat} {A:List UInt8} (h:∀c∈A,c≠58):wc (F+1) A=A:=by
 unfold wc Lib.countFrom;rw[P5 A h];rfl
theorem abL {F:Nat} {A r:List UInt8} (h:∀c∈A,c≠58):wc (F+1) (A++58::58::r)=A++47::wc F r:=by
 have hi:=P6 A r h;have hd:(A++58::58::r).drop (A.length+([58,58]:List UInt8).length)=r:=by
  rw[List.drop_append];simp
 unfold wc;have hc:Lib.countFrom [58,58] (F+1) (A++58::58::r)=Lib.countFrom [58,58] F r+1:=by
  simp only[Lib.countFrom];rw[hi,af (by simp),Int.toNat_natCast,hd];omega
 rw[hc,Lib.replaceK_hit _ _ _ _ _ hi,hd];simp
def tz:Nat->List UInt8->List UInt8
 |0,_=>[]
 |f+1,l=>if jC l [58,58]=true/\cE true (l.drop 2)≠0 then 47::((l.drop 2).take (cE true (l.drop 2))++tz f (l.drop (2+cE true (l.drop 2)))) else[]
theorem Sh:∀(f:Nat) (l A:List UInt8) (F:Nat),(∀c∈A,c≠58)->(A++l.take (jV f l)).length<F->wc F (A++l.take (jV f l))=A++tz f l
 |0,l,A,F,hA,hF=>by
  obtain⟨F,rfl⟩:∃g,F=g+1:=⟨F - 1,by omega⟩;simp only[jV,tz,List.take_zero,List.append_nil];exact QU hA
 |f+1,l,A,F,hA,hF=>by
  obtain⟨F,rfl⟩:∃g,F=g+1:=⟨F - 1,by omega⟩;simp only[jV] at hF;simp only[jV,tz];by_cases h:jC l [58,58]=true/\cE true (l.drop 2)≠0
  ·rw[ah h] at hF;rw[ah h,ah h];obtain⟨r,hr⟩:=D7.1 h.1;subst hr;have e2:([58,58]++r).drop 2=r:=rfl;have e3:([58,58]++r).drop (2+cE true r)=r.drop (cE true r):=by
    rw[<- List.drop_drop,e2]
   rw[e2,e3] at hF;rw[e2,e3];have e4:([58,58]++r).take (2+cE true r+jV f (r.drop (cE true r)))=58::58::(r.take (cE true r)++(r.drop (cE true r)).take (jV f (r.drop (cE true r)))):=by
    rw[Nat.add_assoc,Nat.add_comm 2];show 58::58::r.take (cE true r+jV f (r.drop (cE true r)))=_;rw[List.take_add]
   rw[e4] at hF;have ih:=Sh f (r.drop (cE true r)) (r.take (cE true r)) F (Ia true r) (by rw[aI,aL,aL] at hF;omega);rw[e4,abL hA,ih]
  ·rw[af h,af h,List.take_zero,List.append_nil];exact QU hA
theorem SM (l:List UInt8):gr l=l.take (cE true l)++tz (l.length+1) (l.drop (cE true l)):=by
 have e:∀s,Lib.replaceAll s [58,58] [47]=wc (s.length+1) s:=fun s=>by
  unfold Lib.replaceAll Lib.replace wc;rw[af (by decide)];have:Lib.replaceNum s [58,58] (-1)=Lib.count s [58,58]:=by simp [Lib.replaceNum]
  rw[this];rfl
 have h1:l.take (jL l)=l.take (cE true l)++(l.drop (cE true l)).take (jV (l.length+1) (l.drop (cE true l))):=by
  unfold jL;rw[List.take_add]
 unfold gr;rw[e,h1];exact Sh _ _ _ _ (Ia true l) (Nat.lt_succ_self _)
theorem aci {s:List UInt8} (h:gw.contains s=true):fJ s=true:=
 (by decide:∀k∈gw,fJ k=true) s (by simpa using h)
theorem V8 {c:Int} (h:dU c=true):eG c=false:=by
 cases hd:eG c with
 |false=>rfl
 |true=>
  have:=(Jp _).1 hd;simp only[dU,Bool.or_eq_true,aD,bt] at h;omega
theorem Yq {c:UInt8} {r:List UInt8}:cE true (c::r)≠0↔dU c.toNat=true:=by
 simp only[cE];cases h:dU c.toNat
 ·simp
 ·simp
def xK:List Tk->List Tk->Bool
 |[],[]=>true
 |x::a,y::b=>decide (x.k=y.k)&&decide (x.s=y.s)&&decide (x.n=y.n)&&xK a b
 |_,_=>false
def qo (t:Tk) (x:List Tk×Int×Int):List Tk×Int×Int:=if x.2.2=0 then(t::x.1,x.2.1,0) else([],x.2.1,x.2.2)
def jH:Nat->Nat->Nat->List UInt8->List Tk×Int×Int
 |0,_,_,_=>([],0,0)
 |f+1,gY,pos,l=>
  if l.drop (dV false l)=[] then([],0,0) else if 5000<=gY then([],0,5) else
   match gT (l.drop (dV false l)) with
   |none=>([],(pos+dV false l:Nat),70)
   |some (k,t,n,len)=>qo ⟨k,t,n,(pos+dV false l:Nat)⟩ (jH f (gY+1) (pos+dV false l+len) (l.drop (dV false l+len)))
def tr (acc:List Tk) (x:List Tk×Int×Int):List Tk×Int×Int:=if x.2.2=0 then(acc++x.1,x.2.1,0) else([],x.2.1,x.2.2)
theorem Yj (acc:List Tk) (t:Tk) (x:List Tk×Int×Int):tr acc (qo t x)=tr (acc++[t]) x:=by
 unfold tr qo;by_cases h:x.2.2=0
 ·simp [h]
 ·simp [h]
theorem Rq (s:List UInt8):∀(f p:Nat) (acc:List Tk),rG s f p acc=tr acc (jH f acc.length p (s.drop p))
 |0,p,acc=>by simp [rG,jH,tr]
 |f+1,p,acc=>by
  simp only[rG,jH];have e1:(s.drop p).drop (dV false (s.drop p))=s.drop (p+dV false (s.drop p)):=List.drop_drop;rw[e1];by_cases h1:s.length<=p+dV false (s.drop p)
  ·rw[ah h1,ah (List.drop_eq_nil_of_le h1)];simp [tr]
  ·rw[af h1,af (fun h=>h1 (List.drop_eq_nil_iff.1 h))];by_cases h2:5000<=acc.length
   ·rw[ah h2,ah h2];simp [tr]
   ·rw[af h2,af h2];cases ht:gT (s.drop (p+dV false (s.drop p))) with
    |none=>simp [tr]
    |some y=>
     obtain⟨k,t,n,len⟩:=y;simp only;rw[Rq s f,Yj];simp only[aI,iB,List.drop_drop,Nat.add_assoc]
theorem XJ {t:Tk} {x:List Tk×Int×Int} (h:(x.2.2=0->x.2.1=0)/\(x.2.2≠0->x.1=[])):((qo t x).2.2=0->(qo t x).2.1=0)/\((qo t x).2.2≠0->(qo t x).1=[]):=by
 unfold qo;by_cases e:x.2.2=0
 ·simp only[ah e];exact⟨fun _=>h.1 e,fun h=>absurd rfl h⟩
 ·simp only[af e];exact⟨fun h=>absurd h e,fun _=>trivial⟩
theorem Eg:∀(f gY pos:Nat) (l:List UInt8),((jH f gY pos l).2.2=0->(jH f gY pos l).2.1=0)/\((jH f gY pos l).2.2≠0->(jH f gY pos l).1=[])
 |0,_,_,_=>⟨fun _=>rfl,fun _=>rfl⟩
 |f+1,gY,pos,l=>by
  simp only[jH];split
  ·exact⟨fun _=>rfl,fun _=>rfl⟩
  ·split
   ·exact⟨fun _=>rfl,fun _=>rfl⟩
   ·split
    ·exact⟨fun h=>absurd h (by simp),fun _=>rfl⟩
    ·exact XJ (Eg f _ _ _)
theorem ZS {x:List Tk×Int×Int} (h:x.2.2≠0->x.1=[]):tr [] x=x:=by
 obtain⟨a,b,c⟩:=x;unfold tr;by_cases e:c=0
 ·subst e;rfl
 ·simp only[af e];have h1:a=[]:=h e;rw[h1]
theorem AY {s:List UInt8} (h:s.length<=20000):aU s=jH (s.length+1) 0 0 s:=by
 have e:aU s=rG s (s.length+1) 0 []:=af (by omega);rw[e,Rq,ZS (Eg _ _ _ _).2];rfl
def Stop (rest:List UInt8):Prop:=rest=[]\/∃c r,rest=c::r/\(c=10\/c=32)
theorem H9 {rest:List UInt8} (h:Stop rest):∀(b:Bool) (l:List UInt8),cE b (l++rest)=cE b l
 |b,[]=>by
  rcases h with rfl |⟨c,r,rfl,rfl |rfl⟩
  ·rfl
  ·cases b<;>rfl
  ·cases b<;>rfl
 |b,c::l=>by simp only[dW,cE,H9 h false l]
theorem Qm {rest:List UInt8} (h:Stop rest):∀(l:List UInt8),dN (l++rest)=dN l
 |[]=>by
  rcases h with rfl |⟨c,r,rfl,rfl |rfl⟩
  ·rfl
  ·rfl
  ·rfl
 |c::l=>by simp only[dW,dN,Qm h l]
theorem Hw {rest:List UInt8} (h:Stop rest):∀(o l:List UInt8),(∀c∈o,c≠10/\c≠32)->jC (l++rest) o=jC l o
 |[],l,_=>by rw[A6,A6]
 |x::o,[],ho=>by
  rw[DX,List.nil_append];rcases h with rfl |⟨c,r,rfl,hc⟩
  ·rw[DX]
  ·rw[sJ];have:=ho x (bY ..);have cQ:c≠x:=by rcases hc with rfl |rfl;exact fun e=>this.1 e.symm;exact fun e=>this.2 e.symm
   simp [cQ]
 |x::o,y::l,ho=>by
  rw[dW,sJ,sJ,Hw h o l fun c hc=>ho c (bR _ hc)]
theorem find_congr {α:Type} {p q:α->Bool}:∀(l:List α),(∀a∈l,p a=q a)->l.find? p=l.find? q
 |[],_=>rfl
 |a::l,h=>by
  simp only[List.find?_cons,h a (bY ..)];rw[find_congr l fun b hb=>h b (bR _ hb)]
theorem Wb:∀o∈je,∀c∈o,c≠10/\c≠32:=by decide
theorem X2 {rest:List UInt8} (h:Stop rest) (l:List UInt8):sU (l++rest)=sU l:=
 find_congr _ fun o ho=>Hw h o l (Wb o ho)
theorem Oz:∀(f f' :Nat) (l:List UInt8),l.length<f->l.length<f' ->jV f l=jV f' l
 |0,_,_,h,_=>absurd h (Nat.not_lt_zero _)
 |_+1,0,_,_,h=>absurd h (Nat.not_lt_zero _)
 |f+1,f' +1,l,h,h' =>by
  simp only[jV];split
  ·rename_i hc;have:=E2 hc.1;simp only[aL,bh] at this;rw[Oz f f' _ (by rw[dI];omega) (by rw[dI];omega)]
  ·rfl
theorem Oy {rest:List UInt8} (h:Stop rest):∀(f:Nat) (l:List UInt8),jV f (l++rest)=jV f l
 |0,_=>rfl
 |f+1,l=>by
  simp only[jV,Hw h [58,58] l (by decide)];by_cases hp:jC l [58,58]=true
  ·obtain⟨r,rfl⟩:=aeZ l hp;have e1:(58::58::r++rest).drop 2=r++rest:=rfl;have e2:(58::58::r).drop 2=r:=rfl;have e3:∀k,k<=r.length->(58::58::r++rest).drop (2+k)=(58::58::r).drop (2+k)++rest:=fun k hk=>by
    rw[Nat.add_comm,List.drop_append_of_le_length (by simp only[aL];omega)]
   rw[e1,e2,H9 h,e3 _ (xq _ _),Oy h f]
  ·rw[af (fun hc=>hp hc.1),af (fun hc=>hp hc.1)]
theorem P8 {rest:List UInt8} (h:Stop rest) (l:List UInt8):jL (l++rest)=jL l:=by
 unfold jL;rw[H9 h,List.drop_append_of_le_length (xq _ _),Oy h];rw[Oz ((l++rest).length+1) (l.length+1) _ (by rw[dI,aI];omega) (by rw[dI];omega)]
theorem aap {rest:List UInt8} (h:Stop rest) (l:List UInt8):gr (l++rest)=gr l:=by
 unfold gr;rw[P8 h,List.take_append_of_le_length (SN l)]
theorem Z2 {rest:List UInt8} (h:Stop rest) {l:List UInt8} (hl:l≠[]):gL (l++rest)=gL l:=by
 have e2:((l.drop (dN l)++rest).head?.map UInt8.toNat=some 76)=((l.drop (dN l)).head?.map UInt8.toNat=some 76):=by
  cases l.drop (dN l) with
  |nil=>
   rcases h with rfl |⟨c,r,rfl,rfl |rfl⟩
   ·rfl
   ·simp
   ·simp
  |cons=>rfl
 have e3:(l++rest).head? =l.head? :=by
  cases l with
  |nil=>exact absurd rfl hl
  |cons=>rfl
 simp only[gL,Qm h,List.drop_append_of_le_length (B9 l),List.take_append_of_le_length (B9 l),e3,e2]
theorem Qh {r:List UInt8} (h:(fq r).2.2=true) (rest:List UInt8):fq (r++rest)=fq r:=by
 match r,h with
 |[],h=>cases h
 |c::r,h=>
  simp only[dW,fq] at h ⊢;by_cases h1:c.toNat=34\/c.toNat=92
  ·rw[ah h1,ah h1]
  ·rw[af h1,af h1];rw[af h1] at h;by_cases h2:c.toNat=110
   ·rw[ah h2,ah h2]
   ·rw[af h2,af h2];rw[af h2] at h;by_cases h3:c.toNat=120
    ·rw[ah h3,ah h3];rw[ah h3] at h;match r,h with
     |[],h=>cases h
     |[_],h=>cases h
     |_::_::_,_=>rfl
    ·rw[af h3] at h;cases h
theorem aaK {r rest:List UInt8} (h:(fq r).2.2=false):(fq (r++10::rest)).2.2=false:=by
 match r,h with
 |[],_=>rfl
 |c::r,h=>
  simp only[dW,fq] at h ⊢;by_cases h1:c.toNat=34\/c.toNat=92
  ·rw[ah h1] at h;cases h
  ·rw[af h1];rw[af h1] at h;by_cases h2:c.toNat=110
   ·rw[ah h2] at h;cases h
   ·rw[af h2];rw[af h2] at h;by_cases h3:c.toNat=120
    ·rw[ah h3];rw[ah h3] at h;match r,h with
     |[],_=>
      have e:pN 10= -1:=by decide
      cases rest with
      |nil=>rfl
      |cons a b=>simp [e]
     |[x],_=>
      have e:pN 10= -1:=by decide
      simp [e]
     |_::_::_,h=>exact h
    ·rw[af h3]
theorem DV:∀(f f' :Nat) (l:List UInt8),l.length<f->l.length<f' ->jB f l=jB f' l
 |0,_,_,h,_=>absurd h (Nat.not_lt_zero _)
 |_+1,0,_,_,h=>absurd h (Nat.not_lt_zero _)
 |f+1,f' +1,[],_,_=>rfl
 |f+1,f' +1,c::r,h,h' =>by
  simp only[aL] at h h';simp only[jB];rw[DV f f' r (by omega) (by omega),DV f f' (r.drop (fq r).1) (by rw[dI];omega) (by rw[dI];omega)]
theorem Hq:∀(f:Nat) (l rest:List UInt8) (y:List UInt8×Nat),jB f l=some y->jB f (l++rest)=some y
 |0,_,_,_,h=>by cases h
 |f+1,[],_,_,h=>by cases h
 |f+1,c::r,rest,y,h=>by
  simp only[dW,jB] at h ⊢;by_cases h1:c.toNat=34
  ·rw[ah h1] at h ⊢;exact h
  ·rw[af h1] at h ⊢;by_cases h2:c.toNat<32\/126<c.toNat
   ·rw[ah h2] at h;cases h
   ·rw[af h2] at h ⊢;by_cases h3:c.toNat=92
    ·rw[ah h3] at h ⊢;by_cases h4:(fq r).2.2=true
     ·rw[ah h4] at h;rw[Qh h4,ah h4,List.drop_append_of_le_length (EJ r).1];obtain⟨y',h',e⟩:=Option.map_eq_some_iff.1 h;rw[Hq f _ rest y' h',<- e];rfl
     ·rw[af h4] at h;cases h
    ·rw[af h3] at h ⊢;obtain⟨y',h',e⟩:=Option.map_eq_some_iff.1 h;rw[Hq f _ rest y' h',<- e];rfl
theorem Hr:∀(f:Nat) (l rest:List UInt8),l.length<f->jB f l=none->jB f (l++10::rest)=none
 |0,_,_,h,_=>absurd h (Nat.not_lt_zero _)
 |f+1,[],rest,_,_=>rfl
 |f+1,c::r,rest,hf,h=>by
  simp only[aL] at hf;simp only[dW,jB] at h ⊢;by_cases h1:c.toNat=34
  ·rw[ah h1] at h;cases h
  ·rw[af h1] at h ⊢;by_cases h2:c.toNat<32\/126<c.toNat
   ·rw[ah h2]
   ·rw[af h2] at h ⊢;by_cases h3:c.toNat=92
    ·rw[ah h3] at h ⊢;by_cases h4:(fq r).2.2=true
     ·rw[ah h4] at h;rw[Qh h4,ah h4,List.drop_append_of_le_length (EJ r).1];rw[Hr f _ rest (by rw[dI];omega) (Option.map_eq_none_iff.1 h)];rfl
     ·rw[af (by rw[aaK (by simpa using h4)];exact Bool.false_ne_true)]
    ·rw[af h3] at h ⊢;rw[Hr f _ rest (by omega) (Option.map_eq_none_iff.1 h)];rfl
theorem W5 {l:List UInt8} {y:List UInt8×Nat} (h:kP l=some y) (rest:List UInt8):kP (l++rest)=some y:=by
 unfold kP at h ⊢;rw[DV _ ((l++rest).length+1) l (by omega) (by rw[aI];omega)] at h;exact Hq _ _ _ _ h
theorem W6 {l:List UInt8} (h:kP l=none) (rest:List UInt8):kP (l++10::rest)=none:=by
 unfold kP at h ⊢;rw[DV _ ((l++10::rest).length+1) l (by omega) (by rw[aI];omega)] at h;exact Hr _ _ _ (by rw[aI];omega) h
theorem Zu {l rest:List UInt8} (hl:l≠[]) (h:Stop rest) (hy:gT l≠none\/∃r,rest=10::r):gT (l++rest)=gT l:=by
 cases l with
 |nil=>exact absurd rfl hl
 |cons c r=>
  have e1:=aap h (c::r);have e2:=P8 h (c::r);have e3:=Z2 h hl;have e4:=X2 h (c::r);simp only[dW] at e1 e2 e3 e4;simp only[dW,gT,e1,e2,e3,e4] at hy ⊢;by_cases h1:dU c.toNat=true
  ·rw[ah h1,ah h1]
  ·rw[af h1,af h1];by_cases h2:eG c.toNat=true
   ·rw[ah h2,ah h2]
   ·rw[af h2,af h2];by_cases h3:c.toNat=34
    ·rw[ah h3,ah h3];rw[af h1,af h2,ah h3] at hy;cases hq:kP r with
     |some y=>rw[W5 hq]
     |none=>
      rw[hq] at hy;rcases hy with hy |⟨r',rfl⟩
      ·exact absurd rfl hy
      ·rw[W6 hq]
    ·rw[af h3,af h3]
theorem ED {r:List UInt8} (h:eA true r=true):∃c s,r=c::s/\c.toNat≠47/\dU c.toNat=true/\eA false s=true:=by
 cases r with
 |nil=>cases h
 |cons c s=>
  have vq:c.toNat≠47:=fun e=>by
   have hc:c=47:=UInt8.toNat_inj.1 e;subst hc;have:eA true (47::s)=false:=rfl;rw[this] at h;cases h
  simp only[eA] at h;rw[af (fun hh=>Bool.noConfusion hh.2)] at h;split at h
  ·rename_i hc;rcases hc with hc |hc
   ·exact⟨c,s,rfl,vq,hc,h⟩
   ·exact Bool.noConfusion hc.2
  ·cases h
theorem Rg {c:UInt8} {s:List UInt8} (h:eA false (c::s)=true):(c=47/\eA true s=true)\/(c.toNat≠47/\(dU c.toNat=true\/eG c.toNat=true)/\eA false s=true):=by
 simp only[eA] at h;split at h
 ·rename_i hc;exact .inl ⟨UInt8.toNat_inj.1 hc.1,h⟩
 ·rename_i hn;split at h
  ·rename_i hc;exact .inr ⟨fun e=>hn ⟨e,trivial⟩,hc.imp id (·.1),h⟩
  ·cases h
theorem Nu {r:List UInt8} (h:eA true r=true):cE true (spell r)≠0:=by
 obtain⟨c,s,rfl,vq,hc,_⟩:=ED h;simp only[spell,af vq];exact Yq.2 hc
theorem NL (l:List UInt8):cE false (58::l)=0:=by
 have h:(dU ((58:UInt8).toNat:Int)||(!false&&eG ((58:UInt8).toNat:Int)))=false:=by decide
 simp only[cE,h];rfl
theorem JH:∀(s:List UInt8) (b:Bool) (f:Nat),eA b s=true->(spell s).length<f->cE b (spell s)+jV f ((spell s).drop (cE b (spell s)))=(spell s).length
 |[],true,f,h,_=>by cases h
 |[],false,f,_,hf=>by
  cases f with
  |zero=>exact absurd hf (Nat.not_lt_zero _)
  |succ f=>rfl
 |c::s,b,f,h,hf=>by
  have key:(c.toNat≠47/\(dU c.toNat=true\/(b=false/\eG c.toNat=true))/\eA false s=true)\/(b=false/\c=47/\eA true s=true):=by
   cases b with
   |true=>obtain⟨c',s',e,h1,h2,h3⟩:=ED h;cases e;exact .inl ⟨h1,.inl h2,h3⟩
   |false=>
    rcases Rg h with ⟨h1,h2⟩ |⟨h1,h2,h3⟩
    ·exact .inr ⟨rfl,h1,h2⟩
    ·exact .inl ⟨h1,h2.imp id fun h=>⟨rfl,h⟩,h3⟩
  rcases key with ⟨h1,h2,h3⟩ |⟨rfl,rfl,h3⟩
  ·simp only[spell,af h1] at hf ⊢;have e:cE b (c::spell s)=1+cE false (spell s):=by
    simp only[cE];rw[ah (by rcases h2 with h2 |⟨rfl,h2⟩<;>simp [h2])]
   have ih:=JH s false f h3 (by simp only[aL] at hf;omega);rw[e,show 1+cE false (spell s)=cE false (spell s)+1 by omega,List.drop_succ_cons,aL];omega
  ·have nw:spell (47::s)=58::58::spell s:=rfl;rw[nw] at hf ⊢;rw[NL,List.drop_zero];cases f with
   |zero=>exact absurd hf (Nat.not_lt_zero _)
   |succ f=>
    simp only[aL] at hf ⊢;have ih:=JH s true f h3 (by omega);have e2:(58::58::spell s).drop 2=spell s:=rfl;have e3:(58::58::spell s).drop (2+cE true (spell s))=(spell s).drop (cE true (spell s)):=by rw[<- List.drop_drop,e2]
    simp only[jV,e2,e3];rw[ah ⟨by rw[sJ,sJ,A6];rfl,Nu h3⟩];omega
theorem Jk:∀(s:List UInt8) (b:Bool) (f:Nat),eA b s=true->(spell s).length<f->(spell s).take (cE b (spell s))++tz f ((spell s).drop (cE b (spell s)))=s
 |[],true,f,h,_=>by cases h
 |[],false,f,_,hf=>by
  cases f with
  |zero=>exact absurd hf (Nat.not_lt_zero _)
  |succ f=>rfl
 |c::s,b,f,h,hf=>by
  have key:(c.toNat≠47/\(dU c.toNat=true\/(b=false/\eG c.toNat=true))/\eA false s=true)\/(b=false/\c=47/\eA true s=true):=by
   cases b with
   |true=>obtain⟨c',s',e,h1,h2,h3⟩:=ED h;cases e;exact .inl ⟨h1,.inl h2,h3⟩
   |false=>
    rcases Rg h with ⟨h1,h2⟩ |⟨h1,h2,h3⟩
    ·exact .inr ⟨rfl,h1,h2⟩
    ·exact .inl ⟨h1,h2.imp id fun h=>⟨rfl,h⟩,h3⟩
  rcases key with ⟨h1,h2,h3⟩ |⟨rfl,rfl,h3⟩
  ·simp only[spell,af h1] at hf ⊢;have e:cE b (c::spell s)=1+cE false (spell s):=by
    simp only[cE];rw[ah (by rcases h2 with h2 |⟨rfl,h2⟩<;>simp [h2])]
   have ih:=Jk s false f h3 (by simp only[aL] at hf;omega);rw[e,show 1+cE false (spell s)=cE false (spell s)+1 by omega,List.drop_succ_cons,List.take_succ_cons,dW,ih]
  ·have nw:spell (47::s)=58::58::spell s:=rfl;rw[nw] at hf ⊢;rw[NL,List.drop_zero,List.take_zero,List.nil_append];cases f with
   |zero=>exact absurd hf (Nat.not_lt_zero _)
   |succ f=>
    simp only[aL] at hf;have ih:=Jk s true f h3 (by omega);have e2:(58::58::spell s).drop 2=spell s:=rfl;have e3:(58::58::spell s).drop (2+cE true (spell s))=(spell s).drop (cE true (spell s)):=by rw[<- List.drop_drop,e2]
    simp only[tz,e2,e3];rw[ah ⟨by rw[sJ,sJ,A6];rfl,Nu h3⟩,ih]
theorem O1 {s:List UInt8} (h:fJ s=true):spell s≠[]/\gT (spell s)=some (if gw.contains s=true then 2 else 1,s,0,(spell s).length):=by
 have h1:eA true s=true:=by unfold fJ at h;exact(Bool.and_eq_true_iff.1 h).2
 obtain⟨c,r,e,vq,hc,_⟩:=ED h1;have nw:spell s=c::spell r:=by rw[e];simp only[spell,af vq]
 have e1:jL (spell s)=(spell s).length:=by
  have hlen:=JH s true ((spell s).length+1) h1 (Nat.lt_succ_self _);exact hlen
 have e2:gr (spell s)=s:=by
  rw[SM];exact Jk s true _ h1 (Nat.lt_succ_self _)
 refine⟨by rw[nw];exact List.cons_ne_nil _ _,?_⟩;have e3:gT (spell s)=if fJ (gr (spell s))=true then some (if gw.contains (gr (spell s))=true then 2 else 1,gr (spell s),0,jL (spell s)) else none:=by
  rw[nw];show(if dU c.toNat=true then _ else _)=_;rw[ah hc]
 rw[e3,e2,ah h,e1]
theorem aai:∀s∈gw,spell s=s:=by decide
/-! Numbers. -/
theorem Np:∀(a b:List UInt8) (n:Nat),pj n (a++b)=(pj n a).bind fun m=>pj m b
 |[],b,n=>rfl
 |c::a,b,n=>by
  simp only[dW,pj];split
  ·exact Np a b _
  ·rfl
theorem DD (k:Nat) (h:k<10):(UInt8.ofNat (48+k)).toNat=48+k:=by
 rw[UInt8.toNat_ofNat'];omega
theorem Ip:∀(u:Nat),∀c∈Lib.decDigits u,eG c.toNat=true:=by
 intro u;induction u using Nat.strongRecOn with
 |_ u ih=>
  intro c hc;rw[Lib.decDigits] at hc;split at hc
  ·rename_i h;rw[List.mem_singleton.1 hc,DD u h];simp only[eG,aD,bt];omega
  ·rename_i h;rcases List.mem_append.1 hc with hc |hc
   ·exact ih (u / 10) (by omega) c hc
   ·rw[List.mem_singleton.1 hc,DD _ (Nat.mod_lt _ (by omega))];simp only[eG,aD,bt];omega
theorem adg:∀(u:Nat),u<=9223372036854775807->pj 0 (Lib.decDigits u)=some u:=by
 intro u;induction u using Nat.strongRecOn with
 |_ u ih=>
  intro hu;rw[Lib.decDigits];split
  ·rename_i h;simp only[pj,DD u h];rw[ah (by omega)];congr 1;omega
  ·rename_i h;rw[Np,ih (u / 10) (by omega) (by omega)];simp only[Option.bind,pj,DD _ (Nat.mod_lt u (by omega:10>0))];rw[ah (by omega)];congr 1;omega
theorem Ca (u:Nat):Lib.decDigits u≠[]:=by
 rw[Lib.decDigits];split<;>simp
theorem aaT:∀(u:Nat),1<=u->(Lib.decDigits u).head?.map UInt8.toNat≠some 48:=by
 intro u;induction u using Nat.strongRecOn with
 |_ u ih=>
  intro hu;rw[Lib.decDigits];split
  ·rename_i h;simp only[List.head?_cons,Option.map_some,DD u h];intro e;injection e with e;omega
  ·rename_i h;have:=ih (u / 10) (by omega) (by omega);cases hd:Lib.decDigits (u / 10) with
   |nil=>exact absurd hd (Ca _)
   |cons a b=>rw[hd] at this;exact this
theorem RN:∀(l r:List UInt8),(∀c∈l,eG c.toNat=true)->dN (l++r)=l.length+dN r
 |[],r,_=>by simp
 |c::l,r,h=>by
  simp only[dW,dN,aL];rw[ah (h c (bY ..)),RN l r fun d hd=>h d (bR _ hd)];omega
theorem ab1 {u:Nat} (hu:u<=9223372036854775807) (av:Bool) (hb:av=false->u<=2147483647):
  gL (Lib.decDigits u++if av=true then[76] else[])=(av,(u:Int),(Lib.decDigits u++if av=true then[76] else[]).length,true):=by
 have hd:dN (Lib.decDigits u++if av=true then[76] else[])=(Lib.decDigits u).length:=by
  rw[RN _ _ (Ip u)];cases av<;>rfl
 have hp:=Nv (Ca u) (Ip u);rw[adg u hu] at hp;obtain⟨hp,_⟩:=hp;have ht:(Lib.decDigits u++if av=true then[76] else[]).take (Lib.decDigits u).length=Lib.decDigits u:=List.take_left;have hdr:(Lib.decDigits u++if av=true then[76] else[]).drop (Lib.decDigits u).length=if av=true then[76] else[]:=List.drop_left
 have hh:(Lib.decDigits u++if av=true then[76] else[]).head? =(Lib.decDigits u).head? :=by
  cases he:Lib.decDigits u with
  |nil=>exact absurd he (Ca u)
  |cons=>rfl
 have hz:(decide ((Lib.decDigits u).head?.map UInt8.toNat≠some 48)||decide ((Lib.decDigits u).length=1))=true:=by
  rcases Nat.eq_zero_or_pos u with rfl |h
  ·rw[Lib.decDigits_one (by omega)];rfl
  ·rw[eF (aaT u h)];rfl
 have u0:decide (((if av=true then[76] else[]:List UInt8)).head?.map UInt8.toNat=some 76)=av:=by cases av<;>rfl
 simp only[gL,hd,ht,hdr,hh,hp,hz,u0];cases av with
 |true=>simp;omega
 |false=>have:=hb rfl;simp;omega
theorem YM {c:UInt8} (h:eG c.toNat=true):dU c.toNat=false:=by
 cases hs:dU c.toNat with
 |false=>rfl
 |true=>rw[V8 hs] at h;cases h
theorem QE {u:Nat} (hu:u<=9223372036854775807) (av:Bool) (hb:av=false->u<=2147483647):
  gT (Lib.decDigits u++if av=true then[76] else[])=some (if av=true then 4 else 3,[],(u:Int),(Lib.decDigits u++if av=true then[76] else[]).length):=by
 have hn:=ab1 hu av hb;have hd:=Ip u;cases he:Lib.decDigits u with
 |nil=>exact absurd he (Ca u)
 |cons c r=>
  rw[he] at hn hd;have hc:=hd c (bY ..);rw[dW] at hn ⊢;simp only[gT];rw[af (by rw[YM hc];exact Bool.false_ne_true),ah hc,hn];simp
/-! Strings. -/
theorem aco:∀n:Nat,n<256->pN (mE.getD (n / 16) 0)=(n / 16:Nat)/\pN (mE.getD (n % 16) 0)=(n % 16:Nat):=by decide
theorem abv:∀n:Nat,n<256->IntKind.u8.wrap (16 * ((n / 16:Nat):Int)+((n % 16:Nat):Int))=(n:Int):=by
 intro n h;have e:(16 * ((n / 16:Nat):Int)+((n % 16:Nat):Int))=(n:Int):=by omega
 rw[e];exact(by decide:∀n:Nat,n<256->IntKind.u8.wrap (n:Int)=(n:Int)) n h
theorem Rc (c:UInt8):UInt8.ofNat ((c.toNat:Int)).toNat=c:=by
 rw[Int.toNat_natCast];exact UInt8.ofNat_toNat
theorem ZB (c:UInt8) (X s:List UInt8) (f:Nat) (hX:X.length<f->jB f X=some (s,X.length)) (hf:(km c++X).length<f+1):
  jB (f+1) (km c++X)=some (c::s,(km c++X).length):=by
 have n34:¬(92:UInt8).toNat=34:=by decide
 have nrg:¬((92:UInt8).toNat<32\/126<(92:UInt8).toNat):=by decide
 have y92:(92:UInt8).toNat=92:=rfl;have gen:∀(Y:List UInt8) (k:Nat) (v:Int),fq (Y++X)=(k,v,true)->k=Y.length->UInt8.ofNat v.toNat=c->(92::(Y++X)).length<f+1->jB (f+1) (92::(Y++X))=some (c::s,(92::(Y++X)).length):=by
  intro Y k v he hk hv hl;simp only[jB];rw[af n34,af nrg,ah y92,he];simp only[if_true];rw[hk,List.drop_left,hX (by simp only[aL,aI] at hl;omega)];simp only[Option.map_some,hv,aL,aI,dT,Prod.mk.injEq,true_and];omega
 unfold km at hf ⊢;split
 ·rename_i h;rw[ah h] at hf;exact gen [c] 1 c.toNat (by show fq (c::X)=_;simp only[fq];rw[ah h]) rfl (Rc c) hf
 ·rename_i h;rw[af h] at hf;split
  ·rename_i h1;rw[ah h1] at hf;exact gen [110] 1 10 rfl rfl (UInt8.toNat_inj.1 (by rw[h1];rfl)) hf
  ·rename_i h1;rw[af h1] at hf;split
   ·rename_i h2;rw[ah h2] at hf;obtain⟨e1,e2⟩:=aco c.toNat c.toNat_lt;refine gen [120,mE.getD (c.toNat / 16) 0,mE.getD (c.toNat % 16) 0] 3 c.toNat ?_ rfl (Rc c) hf;show fq (120::mE.getD (c.toNat / 16) 0::mE.getD (c.toNat % 16) 0::X)=_;simp only[fq];rw[af (by decide),af (by decide),ah (by decide),e1,e2,abv c.toNat c.toNat_lt];simp;omega
   ·rename_i h2;rw[af h2] at hf;simp only[dW,List.nil_append,aL] at hf ⊢;simp only[jB];rw[af (fun e=>h (.inl e)),af h2,af (fun e=>h (.inr e)),hX (by omega)];simp only[Option.map_some,dT,Prod.mk.injEq,true_and];omega
theorem O9:∀(s:List UInt8) (f:Nat),((s.map km).flatten++[34]).length<f->jB f ((s.map km).flatten++[34])=some (s,((s.map km).flatten++[34]).length)
 |[],f,hf=>by
  cases f with
  |zero=>exact absurd hf (Nat.not_lt_zero _)
  |succ f=>rfl
 |c::s,f,hf=>by
  cases f with
  |zero=>exact absurd hf (Nat.not_lt_zero _)
  |succ f=>
   have e0:(((c::s).map km).flatten++[34])=km c++((s.map km).flatten++[34]):=by simp
   rw[e0] at hf ⊢;exact ZB c _ s f (O9 s f) hf
theorem abw {s:List UInt8} (h:s.length<=1024):gT (uq s)=some (5,s,0,(uq s).length):=by
 have e:uq s=34::((s.map km).flatten++[34]):=rfl;rw[e];simp only[gT];rw[af (by decide),af (by decide),ah (by decide)];unfold kP;rw[O9 s _ (Nat.lt_succ_self _)];simp only[ah h,aL];rw[Nat.add_comm]
theorem adH:∀o∈je,o≠[]/\gT o=some (6,o,0,o.length):=by decide
theorem RA {t:Tk} {x:List UInt8} (hI:aF t.n) (h:ff t=some x):x≠[]/\gT x=some (t.k,t.s,t.n,x.length):=by
 obtain⟨k,s,n,q⟩:=t;simp only[ff] at h ⊢;have hI:n<=9223372036854775807:=hI.2;split at h
 ·rename_i hk;split at h
  ·rename_i hc;obtain⟨rfl,h2,h3⟩:=hc;cases h;rw[QS];have:=O1 h2;rw[af (by rw[h3];exact Bool.false_ne_true)] at this;rw[hk];exact this
  ·cases h
 ·split at h
  ·rename_i hk;split at h
   ·rename_i hc;obtain⟨rfl,h2⟩:=hc;cases h;have:=O1 (aci h2);rw[ah h2,aai _ (List.contains_iff_mem.1 h2)] at this;rw[hk];exact this
   ·cases h
  ·split at h
   ·rename_i hk;split at h
    ·rename_i hc;obtain⟨⟨rfl,h2⟩,h3⟩:=hc;obtain⟨u,rfl⟩:∃u:Nat,n=u:=⟨n.toNat,by omega⟩;cases h;have:=QE (u:=u) (by omega) false (fun _=>by omega);rw[Lib.itoa_nonneg,hk];simp only[Bool.false_eq_true,if_false,List.append_nil] at this;exact⟨Ca u,this⟩
    ·cases h
   ·split at h
    ·rename_i hk;split at h
     ·rename_i hc;obtain⟨rfl,h2⟩:=hc;obtain⟨u,rfl⟩:∃u:Nat,n=u:=⟨n.toNat,by omega⟩;cases h;have:=QE (u:=u) (by omega) true (fun e=>by cases e);rw[Lib.itoa_nonneg,hk];simp only[if_true] at this;exact⟨by simp,this⟩
     ·cases h
    ·split at h
     ·rename_i hk;split at h
      ·rename_i hc;obtain⟨rfl,h2⟩:=hc;cases h;rw[hk];exact⟨by simp [uq],abw h2⟩
      ·cases h
     ·split at h
      ·rename_i hk;split at h
       ·rename_i hc;obtain⟨rfl,h2⟩:=hc;cases h;rw[hk];exact adH _ (List.contains_iff_mem.1 h2)
       ·cases h
      ·cases h
theorem WU:∀o∈je,∃c r,o=c::r/\c.toNat≠9/\c.toNat≠10/\c.toNat≠13/\c.toNat≠32/\(c.toNat=47->r=[]):=by
 intro o ho;have h:∀o∈je,(match o with |[]=>false |c::r=>decide (c.toNat≠9)&&decide (c.toNat≠10)&&decide (c.toNat≠13)&&decide (c.toNat≠32)&&(decide (c.toNat≠47)||decide (r=[])))=true:=by decide
 have:=h o ho;cases o with
 |nil=>cases this
 |cons c r=>
  simp only[aD,bt,Bool.or_eq_true] at this;exact⟨c,r,rfl,this.1.1.1.1,this.1.1.1.2,this.1.1.2,this.1.2,fun e=>this.2.resolve_left fun h=>h e⟩
theorem X3 {c:UInt8} {r o:List UInt8} (h:sU (c::r)=some o):∃o',o=c::o' /\c.toNat≠9/\c.toNat≠10/\c.toNat≠13/\c.toNat≠32/\(c.toNat=47->o' =[]):=by
 have h1:=List.find?_some h;obtain⟨d,o',rfl,h2⟩:=WU o (List.mem_of_find?_eq_some h);rw[sJ] at h1;have:c=d:=by simpa using(Bool.and_eq_true_iff.1 h1).1
 subst this;exact⟨o',rfl,h2⟩
theorem ZC {x rest:List UInt8} {k:Int} {s:List UInt8} {n:Int} (hx:x≠[]) (ht:gT x=some (k,s,n,x.length)) (h:Stop rest):dV false (x++rest)=0:=by
 cases x with
 |nil=>exact absurd rfl hx
 |cons c r=>
  simp only[gT] at ht;have key:¬(c.toNat=9\/c.toNat=10\/c.toNat=13\/c.toNat=32)/\¬(c.toNat=47/\(r++rest).head?.map UInt8.toNat=some 47):=by
   by_cases h1:dU c.toNat=true
   ·simp only[dU,Bool.or_eq_true,aD,bt] at h1;exact⟨by omega,by omega⟩
   ·rw[af h1] at ht;by_cases h2:eG c.toNat=true
    ·simp only[eG,aD,bt] at h2;exact⟨by omega,by omega⟩
    ·rw[af h2] at ht;by_cases h3:c.toNat=34
     ·exact⟨by omega,by omega⟩
     ·rw[af h3] at ht;obtain⟨o,ho,e⟩:=Option.map_eq_some_iff.1 ht;obtain⟨o',rfl,a1,a2,a3,a4,a5⟩:=X3 ho;refine⟨by omega,fun hh=> ?_⟩;have h5:=a5 hh.1;subst h5;simp only[Prod.mk.injEq,aL,bh] at e;have:r=[]:=List.eq_nil_of_length_eq_zero (by omega);subst this;rw[List.nil_append] at hh;rcases h with rfl |⟨d,r',rfl,rfl |rfl⟩
      ·have:=hh.2;simp at this
      ·have:=hh.2;simp at this
      ·have:=hh.2;simp at this
  rw[dW,dV,af key.1,af key.2]
theorem Om:∀(ts:List Tk) (xs:List (List UInt8)) (f gY pos:Nat) (sep:List UInt8),(sep=[]\/sep=[32])->jS ts=some xs->(∀t∈ts,aF t.n)->gY+ts.length<=5000->ts.length<f->
  (jH f gY pos (sep++Lib.join xs [32])).2.2=0/\xK (jH f gY pos (sep++Lib.join xs [32])).1 ts=true
 |_,_,0,_,_,_,_,_,_,_,hf=>absurd hf (Nat.not_lt_zero _)
 |[],xs,f+1,gY,pos,sep,hs,hx,_,_,_=>by
  cases hx;rcases hs with rfl |rfl
  ·exact⟨rfl,rfl⟩
  ·exact⟨rfl,rfl⟩
 |t::r,xs,f+1,gY,pos,sep,hs,hx,hI,hc,hf=>by
  simp only[jS] at hx;cases hxt:ff t with
  |none=>rw[hxt] at hx;cases hx
  |some x=>
   rw[hxt] at hx;cases hys:jS r with
   |none=>rw[hys] at hx;cases hx
   |some ys=>
    rw[hys] at hx;cases hx;obtain⟨cQ,htok⟩:=RA (hI t (bY ..)) hxt;obtain⟨th,hs',hj,jb⟩:∃th,(th=[]\/th=[32])/\Lib.join (x::ys) [32]=x++(th++Lib.join ys [32])/\Stop (th++Lib.join ys [32]):=by
     cases ys with
     |nil=>exact⟨[],.inl rfl,by simp [Lib.join],.inl rfl⟩
     |cons y ys=>exact⟨[32],.inr rfl,by simp [Lib.join],.inr ⟨32,_,rfl,.inr rfl⟩⟩
    rw[hj];have ih:=fun p=>Om r ys f (gY+1) p th hs' hys (fun t ht=>hI t (bR _ ht)) (by simp only[aL] at hc;omega) (by simp only[aL] at hf;omega)
    have hk:=ZC cQ htok jb;have vl:dV false (sep++(x++(th++Lib.join ys [32])))=sep.length:=by
     rcases hs with rfl |rfl
     ·exact hk
     ·show dV false (32::(x++(th++Lib.join ys [32])))=1;rw[dV,ah (by decide),hk]
    have hd:∀X:List UInt8,(sep++X).drop sep.length=X:=fun X=>List.drop_left
    have qK:(sep++(x++(th++Lib.join ys [32]))).drop (sep.length+x.length)=th++Lib.join ys [32]:=by
     rw[<- List.drop_drop,hd,List.drop_left]
    simp only[jH,vl,hd,qK];rw[af (by intro e;exact cQ (List.append_eq_nil_iff.1 e).1),af (by simp only[aL] at hc;omega),Zu cQ jb (.inl (by rw[htok];intro e;cases e)),htok];simp only;rw[qK];obtain⟨i1,i2⟩:=ih (pos+sep.length+x.length);unfold qo;rw[ah i1];exact⟨rfl,by simp [xK,i2]⟩
theorem Xx {xs:List (List UInt8)} (h:∀x∈xs,x≠[]):xs.length<=(Lib.join xs [32]).length:=by
 induction xs with
 |nil=>simp
 |cons x xs ih=>
  have hx:1<=x.length:=by
   have:=h x (bY ..);cases x with
   |nil=>exact absurd rfl this
   |cons=>simp
  have ih:=ih fun y hy=>h y (bR _ hy)
  cases xs with
  |nil=>simp [Lib.join];omega
  |cons y ys=>
   rw[E6];simp only[aI,aL,bh] at ih ⊢;omega
theorem Rz:∀{ts:List Tk} {xs:List (List UInt8)},(∀t∈ts,aF t.n)->jS ts=some xs->xs.length=ts.length/\∀x∈xs,x≠[]
 |[],xs,_,h=>by cases h;exact⟨rfl,fun x hx=>by cases hx⟩
 |t::r,xs,hI,h=>by
  simp only[jS] at h;cases hxt:ff t with
  |none=>rw[hxt] at h;cases h
  |some x=>
   rw[hxt] at h;cases hys:jS r with
   |none=>rw[hys] at h;cases h
   |some ys=>
    rw[hys] at h;cases h;obtain⟨i1,i2⟩:=Rz (fun t ht=>hI t (bR _ ht)) hys;refine⟨by simp [i1],fun y hy=> ?_⟩;rcases List.mem_cons.1 hy with rfl |hy
    ·exact(RA (hI t (bY ..)) hxt).1
    ·exact i2 y hy
theorem aak {ts:List Tk} (hI:∀t∈ts,aF t.n) (h:(lM ts).2=0):∃AE,aU (lM ts).1=(AE,0,0)/\xK AE ts=true:=by
 unfold lM at h ⊢;split at h
 ·cases h
 ·rename_i hl;split at h
  ·cases h
  ·rename_i xs hx;split at h
   ·cases h
   ·rename_i hj;rw[af hl];rw[af hj];show ∃AE,aU (Lib.join xs [32])=(AE,0,0)/\xK AE ts=true;rw[AY (by omega)];obtain⟨e1,e2⟩:=Rz hI hx;have e3:=Xx e2;have:=Om ts xs ((Lib.join xs [32]).length+1) 0 0 [] (.inl rfl) hx hI (by omega) (by omega);rw[List.nil_append] at this;have hn:=(Eg ((Lib.join xs [32]).length+1) 0 0 (Lib.join xs [32])).1 this.1;exact⟨_,Prod.ext rfl (Prod.ext hn this.1),this.2⟩
/-! A comment behind the text. -/
end Go.Proofs.YtimddhkipjedcaaGreatDoor.E
namespace Go.Proofs
open Go.Shelf
def Tryz.laysC174_ren:Go.Shelf.Ren:=⟨fun |174=>225 |247=>246 |245=>247 |287=>259 |279=>260 |280=>261 |281=>262 |282=>263 |321=>272 |322=>273 |316=>274 |171=>276 |205=>275 |243=>282 |246=>284 |283=>285 |284=>286 |285=>287 |286=>288 |129=>290 |317=>289 |318=>291 |319=>292 |320=>293 |337=>294 |338=>295 |n=>n,fun |9=>9 |3=>3 |2=>2 |75=>195 |85=>196 |4=>4 |167=>216 |5=>5 |53=>217 |175=>218 |46=>220 |168=>221 |37=>83 |0=>0 |210=>228 |21=>21 |127=>225 |145=>239 |143=>237 |171=>244 |173=>247 |212=>250 |51=>240 |20=>20 |213=>251 |232=>254 |233=>255 |80=>85 |n=>n,fun |15=>2 |16=>3 |17=>6 |18=>7 |19=>8 |n=>n⟩
theorem Tryz.laysC174:Go.Proofs.LaysC.n174 Tryz.prog Tryz.laysC174_ren:={
 mixed:=by kernel_rfl
 f129:=Tryz.func290.trans (congrArg some (by kernel_rfl))
 f171:=Tryz.func276.trans (congrArg some (by kernel_rfl))
 f174:=Tryz.func225.trans (congrArg some (by kernel_rfl))
 f205:=Tryz.func275.trans (congrArg some (by kernel_rfl))
 f243:=Tryz.func282.trans (congrArg some (by kernel_rfl))
 f245:=Tryz.func247.trans (congrArg some (by kernel_rfl))
 f246:=Tryz.func284.trans (congrArg some (by kernel_rfl))
 f247:=Tryz.func246.trans (congrArg some (by kernel_rfl))
 f279:=Tryz.func260.trans (congrArg some (by kernel_rfl))
 f280:=Tryz.func261.trans (congrArg some (by kernel_rfl))
 f281:=Tryz.func262.trans (congrArg some (by kernel_rfl))
 f282:=Tryz.func263.trans (congrArg some (by kernel_rfl))
 f283:=Tryz.func285.trans (congrArg some (by kernel_rfl))
 f284:=Tryz.func286.trans (congrArg some (by kernel_rfl))
 f285:=Tryz.func287.trans (congrArg some (by kernel_rfl))
 f286:=Tryz.func288.trans (congrArg some (by kernel_rfl))
 f287:=Tryz.func259.trans (congrArg some (by kernel_rfl))
 f316:=Tryz.func274.trans (congrArg some (by kernel_rfl))
 f317:=Tryz.func289.trans (congrArg some (by kernel_rfl))
 f318:=Tryz.func291.trans (congrArg some (by kernel_rfl))
 f319:=Tryz.func292.trans (congrArg some (by kernel_rfl))
 f320:=Tryz.func293.trans (congrArg some (by kernel_rfl))
 f321:=Tryz.func272.trans (congrArg some (by kernel_rfl))
 f322:=Tryz.func273.trans (congrArg some (by kernel_rfl))
 f337:=Tryz.func294.trans (congrArg some (by kernel_rfl))
 f338:=Tryz.func295.trans (congrArg some (by kernel_rfl))
 t0:=Tryz.underlying0
 a0:=Tryz.isAgg0
 z0:=Tryz.sizeOf0
 v0:=Tryz.zeroValue0
 t2:=Tryz.underlying2
 a2:=Tryz.isAgg2
 z2:=Tryz.sizeOf2
 v2:=Tryz.zeroValue2
 t3:=Tryz.underlying3
 a3:=Tryz.isAgg3
 z3:=Tryz.sizeOf3
 v3:=Tryz.zeroValue3
 t4:=Tryz.underlying4
 a4:=Tryz.isAgg4
 z4:=Tryz.sizeOf4
 v4:=Tryz.zeroValue4
 t5:=Tryz.underlying5
 a5:=Tryz.isAgg5
 z5:=Tryz.sizeOf5
 v5:=Tryz.zeroValue5
 t9:=Tryz.underlying9
 a9:=Tryz.isAgg9
 z9:=Tryz.sizeOf9
 v9:=Tryz.zeroValue9
 t20:=Tryz.underlying20
 a20:=Tryz.isAgg20
 z20:=Tryz.sizeOf20
 v20:=Tryz.zeroValue20
 t21:=Tryz.underlying21
 a21:=Tryz.isAgg21
 z21:=Tryz.sizeOf21
 v21:=Tryz.zeroValue21
 t37:=Tryz.underlying83
 a37:=Tryz.isAgg83
 z37:=Tryz.sizeOf83
 v37:=Tryz.zeroValue83
 t46:=Tryz.underlying220
 a46:=Tryz.isAgg220
 z46:=Tryz.sizeOf220
 v46:=Tryz.zeroValue220
 t51:=Tryz.underlying240
 a51:=Tryz.isAgg240
 z51:=Tryz.sizeOf240
 v51:=Tryz.zeroValue240
 t53:=Tryz.underlying217
 a53:=Tryz.isAgg217
 z53:=Tryz.sizeOf217
 v53:=Tryz.zeroValue217
 t75:=Tryz.underlying195
 a75:=Tryz.isAgg195
 z75:=Tryz.sizeOf195
 v75:=Tryz.zeroValue195
 t85:=Tryz.underlying196
 a85:=Tryz.isAgg196
 z85:=Tryz.sizeOf196
 v85:=Tryz.zeroValue196
 t127:=Tryz.underlying225
 a127:=Tryz.isAgg225
 z127:=Tryz.sizeOf225
 v127:=Tryz.zeroValue225
 t143:=Tryz.underlying237
 a143:=Tryz.isAgg237
 z143:=Tryz.sizeOf237
 v143:=Tryz.zeroValue237
 t145:=Tryz.underlying239
 a145:=Tryz.isAgg239
 z145:=Tryz.sizeOf239
 v145:=Tryz.zeroValue239
 t167:=Tryz.underlying216
 a167:=Tryz.isAgg216
 z167:=Tryz.sizeOf216
 v167:=Tryz.zeroValue216
 t168:=Tryz.underlying221
 a168:=Tryz.isAgg221
 z168:=Tryz.sizeOf221
 v168:=Tryz.zeroValue221
 t171:=Tryz.underlying244
 a171:=Tryz.isAgg244
 z171:=Tryz.sizeOf244
 v171:=Tryz.zeroValue244
 t173:=Tryz.underlying247
 a173:=Tryz.isAgg247
 z173:=Tryz.sizeOf247
 v173:=Tryz.zeroValue247
 t175:=Tryz.underlying218
 a175:=Tryz.isAgg218
 z175:=Tryz.sizeOf218
 v175:=Tryz.zeroValue218
 t210:=Tryz.underlying228
 a210:=Tryz.isAgg228
 z210:=Tryz.sizeOf228
 v210:=Tryz.zeroValue228
 t212:=Tryz.underlying250
 a212:=Tryz.isAgg250
 z212:=Tryz.sizeOf250
 v212:=Tryz.zeroValue250
 t213:=Tryz.underlying251
 a213:=Tryz.isAgg251
 z213:=Tryz.sizeOf251
 t232:=Tryz.underlying254
 a232:=Tryz.isAgg254
 z232:=Tryz.sizeOf254
 v232:=Tryz.zeroValue254
 t233:=Tryz.underlying255
 a233:=Tryz.isAgg255
 z233:=Tryz.sizeOf255
 v233:=Tryz.zeroValue255
 g15:=by kernel_rfl
 g16:=by kernel_rfl
 g17:=by kernel_rfl
 g18:=by kernel_rfl
 g19:=by kernel_rfl
 t80:=Tryz.underlying85
 a80:=Tryz.isAgg85
 z80:=Tryz.sizeOf85
 v80:=Tryz.zeroValue85
 i0:=by kernel_rfl
 i2:=by kernel_rfl
 i3:=by kernel_rfl
 i4:=by kernel_rfl
 i5:=by kernel_rfl
 i9:=by kernel_rfl
 i20:=by kernel_rfl
 i21:=by kernel_rfl
 i37:=by kernel_rfl
 i46:=by kernel_rfl
 i51:=by kernel_rfl
 i53:=by kernel_rfl
 i75:=by kernel_rfl
 i80:=by kernel_rfl
 i85:=by kernel_rfl
 i127:=by kernel_rfl
 i143:=by kernel_rfl
 i145:=by kernel_rfl
 i167:=by kernel_rfl
 i168:=by kernel_rfl
 i171:=by kernel_rfl
 i173:=by kernel_rfl
 i175:=by kernel_rfl
 i210:=by kernel_rfl
 i212:=by kernel_rfl
 i232:=by kernel_rfl
 i233:=by kernel_rfl
 m15:=by kernel_rfl
 m16:=by kernel_rfl
 m17:=by kernel_rfl
 m18:=by kernel_rfl
 m19:=by kernel_rfl
 c0:=by kernel_rfl
 c2:=by kernel_rfl
 c3:=by kernel_rfl
 c4:=by kernel_rfl
 c5:=by kernel_rfl
 c9:=by kernel_rfl
 c20:=by kernel_rfl
 c21:=by kernel_rfl
 c37:=by kernel_rfl
 c46:=by kernel_rfl
 c51:=by kernel_rfl
 c53:=by kernel_rfl
 c75:=by kernel_rfl
 c80:=by kernel_rfl
 c85:=by kernel_rfl
 c127:=by kernel_rfl
 c143:=by kernel_rfl
 c145:=by kernel_rfl
 c167:=by kernel_rfl
 c168:=by kernel_rfl
 c171:=by kernel_rfl
 c173:=by kernel_rfl
 c175:=by kernel_rfl
 c210:=by kernel_rfl
 c212:=by kernel_rfl
 c213:=by kernel_rfl
 c232:=by kernel_rfl
 c233:=by kernel_rfl}
open Go.RowKit in
theorem Tryz.strconv_ParseInt_10_at64_ok (s:ByteArray) (KG:s.size<=9223372036854775806) (v:Int) (h:Lib.parseIntB 64 s.data.toList= .ok v) (w:World):
  Calls Tryz.prog 225 #[.string s,.int .i64 10,.int .i64 64] w fun e w' =>e= .returned (.tuple #[.int .i64 v,.nilIface])/\(w' =w\/∃t,w' =Lib.bytesWorld w 5 t):=Any.strconv_ParseInt_10_at64_ok Tryz.laysC174 s KG v h w
open Go.RowKit in
theorem Tryz.strconv_ParseInt_10_at64_bad (s:ByteArray) (KJ:s.size<=281474976710656) (h1:∀v,Lib.parseIntB 64 s.data.toList≠ .ok v) (h2:Lib.parseIntB 64 s.data.toList≠ .range) (ev:Value) (w:World) (hv:w.cell? ⟨2,0,none⟩=some ev) (qJ:ev= .nilIface\/∃te pe,ev= .iface te pe):
  Calls Tryz.prog 225 #[.string s,.int .i64 10,.int .i64 64] w fun e w' =>∃N,e= .returned (.tuple #[.int .i64 (0),.iface 221 (.pointer (some ⟨N,0,none⟩))])/\w.heap.size<=N/\w'.heap[N]? =some (.cells #[.string ⟨#[80,97,114,115,101,73,110,116]⟩,.string s,ev] 228 (0,0))/\Below w.heap.size w w' :=by
 cases hp:Lib.parseIntB 64 s.data.toList with
 |ok v=>exact absurd hp (h1 v)
 |range=>exact absurd hp h2
 |_=>exact Any.strconv_ParseInt_10_at64_syntax Tryz.laysC174 s KJ hp ev w hv qJ
open Go.RowKit in
theorem Tryz.strconv_ParseInt_10_at64_range (s:ByteArray) (KJ:s.size<=281474976710656) (h:Lib.parseIntB 64 s.data.toList= .range) (ev:Value) (w:World) (hv:w.cell? ⟨3,0,none⟩=some ev) (qJ:ev= .nilIface\/∃te pe,ev= .iface te pe):
  Calls Tryz.prog 225 #[.string s,.int .i64 10,.int .i64 64] w fun e w' =>∃N,e= .returned (.tuple #[.int .i64 (Lib.intSat 64 s.data.toList),.iface 221 (.pointer (some ⟨N,0,none⟩))])/\w.heap.size<=N/\w'.heap[N]? =some (.cells #[.string ⟨#[80,97,114,115,101,73,110,116]⟩,.string s,ev] 228 (0,0))/\Below w.heap.size w w' :=Any.strconv_ParseInt_10_at64_range Tryz.laysC174 s KJ h ev w hv qJ
end Go.Proofs
namespace Go.Proofs.YtimddhkipjedcaaGreatDoor.E
open Go Go.RowKit
theorem agX:da Tryz.prog 138 0=some (0,none,1):=by kernel_rfl
theorem aeQ:da Tryz.prog 138 1=some (1,none,1):=by kernel_rfl
theorem ahA:nO Tryz.prog 138=true:=by kernel_rfl
theorem adx:fB Tryz.prog 138=some [.v (.string (bs [])),.v (.int .i64 0)]:=by kernel_rfl
theorem ajK:FK Tryz.prog 195=true:=by kernel_rfl
attribute [go_sem] agX aeQ ahA adx ajK
def GlobX (m:Mem):Prop:=Glob m/\∀w D,m.le ⟨w,D⟩->(∃k,w.cell? ⟨1,0,none⟩=some (.int .i64 k))/\(∃t p,w.cell? ⟨2,0,none⟩=some (.iface t p))/\(∃t p,w.cell? ⟨3,0,none⟩=some (.iface t p))/\
 Lib.TabIs Tryz.prog w "internal/strconv.uint64pow10" .u64 Lib.pow10Tab
theorem GlobX.up {m m' :Mem} (h:GlobX m) (hm:m.le m'):GlobX m' :=⟨Glob.up h.1 hm,fun w D hw=>h.2 w D (Mem.le_trans hm hw)⟩
theorem MK (c:Int) (m:Mem):FnH Tryz.prog 184 [.v (.int .u8 c)] ⟨[],[]⟩ m fun r H' _=>r= .v (.bool (dU c))/\H' =⟨[],[]⟩:=by
 refine aR qD Tryz.func184 ?_
 ·simp only[go_sem];rfl
theorem ML (c:Int) (m:Mem):FnH Tryz.prog 186 [.v (.int .u8 c)] ⟨[],[]⟩ m fun r H' _=>r= .v (.bool (eG c))/\H' =⟨[],[]⟩:=by
 refine aR qD Tryz.func186 ?_
 ·simp only[go_sem];rfl
abbrev cf1:Cfg:=gC (fun _=>false) [(184,vg dU),(186,vg eG)]
theorem UA:dt cf1 Tryz.prog:=by
 refine pure_cons (by kernel_rfl) (fun fe y hy _ m=> ?_) (pure_cons (by kernel_rfl) (fun fe y hy _ m=> ?_) pure_nil)
 ·obtain⟨c,rfl,rfl⟩:=II hy;exact MK c m
 ·obtain⟨c,rfl,rfl⟩:=II hy;exact ML c m
theorem N8 (s:List UInt8) (p at_:Int) (m:Mem) (h0:0<=at_) (h1:at_<=s.length) (hs:s.length<=4611686018427387904):FnH Tryz.prog 223 [.box 0 0,.v (.int .i64 at_)] ⟨[⟨0,138,[.v (.string (bs s)),.v (.int .i64 p)]⟩],[]⟩ m
  fun r H' m' =>r= .v (.int .i64 (cE true (s.drop at_.toNat)))/\H' =⟨[⟨0,138,[.v (.string (bs s)),.v (.int .i64 p)]⟩],[]⟩/\m' =m:=by
 refine aR UA Tryz.func223 ?_
 ·simp only[go_sem];refine du UA (fun k:Nat=>⟨[⟨0,[],.box 0 0⟩,⟨1,[],.v (.int .i64 at_)⟩,⟨5,[],.v (.int .i64 k)⟩],[],[⟨0,138,[.v (.string (bs s)),.v (.int .i64 p)]⟩],[],1,m⟩)
   (fun k=>at_+k<=s.length/\cE true (s.drop at_.toNat)=k+cE (k==0) (s.drop (at_.toNat+k))) (fun k=>s.length - k) 0 (fun _ _=>au _) (fun _ _=> .inl rfl) ?_ ?_ ?_
  ·simp only[go_sem];rfl
  ·simp;omega
  ·rintro k ⟨hk,hp⟩;simp only[go_sem];have hi:aF (at_+k):=by unfold aF;omega
   have hd:∀h:at_+k<s.length,s.drop (at_.toNat+k)=s.getD (at_+k).toNat 0::s.drop (at_.toNat+(k+1)):=fun h=>by
    have e:(at_+(k:Int)).toNat=at_.toNat+k:=by omega
    have hl:at_.toNat+k<s.length:=by omega
    rw[e,List.drop_eq_getElem_cons hl,List.getD_eq_getElem?_getD,List.getElem?_eq_getElem hl];rfl
   refine⟨hi,fun _=>hi,fun h=>⟨by omega,h⟩,fun _=>hi,fun h=>⟨by omega,h.2.2⟩,fun h=>⟨by unfold aF;omega,k+1,by omega,⟨by omega,?_⟩,by omega⟩,fun h=> ?_⟩
   ·rw[hp,hd h.1];have:(dU ((s.getD (at_+k).toNat 0).toNat:Int)||(!(k==0)&&eG ((s.getD (at_+k).toNat 0).toNat:Int)))=true:=by
     rcases h.2 with h2 |⟨h2,h3⟩
     ·rw[h2];rfl
     ·rw[h3];have:(k==0)=false:=by simp;omega
      rw[this];simp
    simp only[cE];rw[ah this];have e0:((k+1)==0)=false:=rfl;rw[e0];omega
   ·rw[hp];have:cE (k==0) (s.drop (at_.toNat+k))=0:=by
     by_cases ay:at_+k<s.length
     ·rw[hd ay];rcases h with h |⟨h2,h3⟩
      ·exact absurd ay h
      ·simp only[cE];rw[af];rw[h2];rcases h3 with h3 |h3
       ·have:(k==0)=true:=by simp;omega
        rw[this];simp
       ·rw[h3];simp
     ·rw[List.drop_of_length_le (by omega)];rfl
    rw[this];rfl
def AG (B:List UInt8->List UInt8->Prop) (F:List UInt8->List UInt8->Value):List Value->Option (Prop×Value)
 |[.string a,.string b]=>some (B (tl a) (tl b),F (tl a) (tl b))
 |_=>none
theorem Py {B:List UInt8->List UInt8->Prop} {F:List UInt8->List UInt8->Value} {l:List Value} {y:Prop×Value} (h:AG B F l=some y):∃a b,l=[.string (bs a),.string (bs b)]/\y=(B a b,F a b):=by
 unfold AG at h;split at h
 ·rename_i a b;cases h;exact⟨tl a,tl b,by rw[oG,oG],rfl⟩
 ·cases h
attribute [go_sem] AG.eq_1
theorem VC (a b:List UInt8) (m:Mem):FnH Tryz.prog 221 [.v (.string (bs a)),.v (.string (bs b))] ⟨[],[]⟩ m fun r H' _=>r= .v (.bool (jC a b))/\H' =⟨[],[]⟩:=by
 refine aR qD Tryz.func221 ?_
 ·simp only[go_sem];refine⟨fun h=>⟨by omega,by omega,h⟩,?_⟩;rfl
abbrev cf2:Cfg:=gC (fun _=>false) [(221,AG (fun _ _=>True) fun a b=> .bool (jC a b))]
theorem pu2:dt cf2 Tryz.prog:=by
 refine pure_cons (by kernel_rfl) (fun fe y hy _ m=> ?_) pure_nil;obtain⟨a,b,rfl,rfl⟩:=Py hy;exact VC a b m
theorem VH (a b:List UInt8) (m:Mem):FnH Tryz.prog 182 [.v (.string (bs a)),.v (.string (bs b))] ⟨[],[]⟩ m fun r H' _=>r= .v (.bool (jC a b))/\H' =⟨[],[]⟩:=by
 refine aR pu2 Tryz.func182 ?_
 ·simp only[go_sem]
def Gs (B:List UInt8->Int->Prop) (F:List UInt8->Int->Value):List Value->Option (Prop×Value)
 |[.string a,.int .u8 c]=>some (B (tl a) c,F (tl a) c)
 |_=>none
attribute [go_sem] Gs.eq_1
theorem adV {P:Program} {f:FuncId} {B:List UInt8->List UInt8->Prop} {F:List UInt8->List UInt8->Value} (h:∀a b m,B a b->FnH P f [.v (.string (bs a)),.v (.string (bs b))] ⟨[],[]⟩ m fun r H' _=>r= .v (F a b)/\H' =⟨[],[]⟩):qp P f (AG B F):=fun fe y hy hB m=>by
 obtain⟨a,b,rfl,rfl⟩:=Py hy;exact h a b m hB
theorem adW {P:Program} {f:FuncId} {B:List UInt8->Int->Prop} {F:List UInt8->Int->Value} (h:∀a c m,B a c->FnH P f [.v (.string (bs a)),.v (.int .u8 c)] ⟨[],[]⟩ m fun r H' _=>r= .v (F a c)/\H' =⟨[],[]⟩):qp P f (Gs B F):=fun fe y hy hB m=>by
 unfold Gs at hy;split at hy
 ·rename_i a c;cases hy;have:=h (tl a) c m hB;rwa [oG] at this
 ·cases hy
theorem VN (s:List UInt8) (m:Mem) (hg:GlobX m) (hs:s.length<=2147483648):
  FnH Tryz.prog 225 [.v (.string (bs s)),.v (.int .i64 10),.v (.int .i64 64)] ⟨[],[]⟩ m fun r H' m' =>(∃e,r= .v (.tuple ⟨[.int .i64 (jh s).1,e]⟩)/\GC e/\rs e=(jh s).2)/\H' =⟨[],[]⟩/\m' =m:=by
 refine(FA (args:=[.string (bs s),.int .i64 10,.int .i64 64]) (R:=fun y=>∃e,y= .tuple ⟨[.int .i64 (jh s).1,e]⟩/\GC e/\rs e=(jh s).2) fun w D kI hle=> ?_).mono ?_
 ·have eD:=qb s;obtain⟨_,⟨t4,p4,h4⟩,⟨t5,p5,h5⟩,_⟩:=hg.2 w D hle;cases hp:Lib.parseIntB 64 s with
  |ok v=>
   refine(Tryz.strconv_ParseInt_10_at64_ok (bs s) (by omega) v hp w).mono ?_;rintro e w' ⟨rfl,hw⟩;refine⟨_,rfl,⟨.nilIface,by simp [jh,hp],.inl rfl,by simp [jh,hp,rs]⟩,?_⟩;rcases hw with rfl |⟨t,rfl⟩
   ·exact Below.refl _ _
   ·exact Lib.bytesWorld_below _ _ _
  |range=>
   have Lu:(bs s).data.toList=s:=zV s;refine(Tryz.strconv_ParseInt_10_at64_range (bs s) (by omega) hp _ w h5 (.inr ⟨_,_,rfl⟩)).mono ?_;rintro e w' ⟨N,rfl,_,_,hb⟩;exact⟨_,rfl,⟨.iface 221 (.pointer (some ⟨N,0,none⟩)),by simp [jh,hp,Lu],.inr ⟨_,_,rfl⟩,by simp [jh,hp,rs]⟩,hb⟩
  |_=>
   refine(Tryz.strconv_ParseInt_10_at64_bad (bs s) (by omega) (by rw[show(bs s).data.toList=s from zV s,hp];intro v e;cases e) (by rw[show(bs s).data.toList=s from zV s,hp];intro e;cases e) _ w h4 (.inr ⟨_,_,rfl⟩)).mono ?_;rintro e w' ⟨N,rfl,_,_,hb⟩;exact⟨_,rfl,⟨.iface 221 (.pointer (some ⟨N,0,none⟩)),by simp [jh,hp],.inr ⟨_,_,rfl⟩,by simp [jh,hp,rs]⟩,hb⟩
 ·rintro r H' m' hm ⟨⟨y,rfl,e,rfl,h3⟩,h1,h2⟩;exact⟨⟨e,rfl,h3⟩,h1,h2⟩
theorem NX:∀(l:List UInt8),dV true l=(if Lib.indexByte l 10<0 then l.length else(Lib.indexByte l 10).toNat+dV false (l.drop (Lib.indexByte l 10).toNat))
 |[]=>rfl
 |c::r=>by
  have ih:=NX r;have cg:=Lib.indexByte_ge r 10;simp only[dV,Lib.indexByte,beq_iff_eq];by_cases h:c.toNat=10
  ·have:c=10:=JQ h;subst this;simp [dV]
  ·have h' :¬c=10:=fun e=>h (by rw[e];rfl)
   rw[af h,af h',ih];by_cases hn:Lib.indexByte r 10= -1
   ·rw[ah hn,ah (by omega),ah (by omega),aL];omega
   ·rw[af hn,af (by omega),af (by omega)];have e:(Lib.indexByte r 10+1).toNat=(Lib.indexByte r 10).toNat+1:=by omega
    rw[e,List.drop_succ_cons];omega
def Gy (s:List UInt8) (c:Int):Int:=Lib.indexByte s c.toNat.toUInt8
theorem aeg (s:List UInt8) (c:UInt8):Gy s c.toNat=Lib.indexByte s c:=by unfold Gy;rw[Int.toNat_natCast];simp
abbrev pIB:List Value->Option (Prop×Value):=Gs (fun _ _=>True) fun s c=> .int .i64 (Gy s c)
abbrev cf7:Cfg:=gC (fun f=>f==223||f==226||f==185||f==187||f==188||f==189||f==124||f==125) [(184,vg dU),(186,vg eG),(182,AG (fun _ _=>True) fun a b=> .bool (jC a b)),(183,pIB),(192,fr BL fun s=> .bool (fJ s))]
theorem eK:dt cf7 Tryz.prog:=by
 refine pure_cons (by kernel_rfl) (JW MK) (pure_cons (by kernel_rfl) (JW ML) (pure_cons (by kernel_rfl) (adV fun a b m _=>VH a b m) (pure_cons (by kernel_rfl) (adW fun a c m _=>My a c m) (pure_cons (by kernel_rfl) (fL Hv) pure_nil))))
theorem XM (s:List UInt8) (p:Nat) (m:Mem) (hp:p<=s.length) (hs:s.length<=1000000):
  FnH Tryz.prog 124 [.box 0 0] ⟨[⟨0,138,[.v (.string (bs s)),.v (.int .i64 p)]⟩],[]⟩ m fun r H' m' =>r= .tup []/\H' =⟨[⟨0,138,[.v (.string (bs s)),.v (.int .i64 (p+dV false (s.drop p):Nat))]⟩],[]⟩/\m' =m:=by
 refine aR eK Tryz.func124 ?_
 ·simp only[go_sem];refine Y1 eK (fun k:Nat=>⟨[⟨0,[],.box 0 0⟩],[],[⟨0,138,[.v (.string (bs s)),.v (.int .i64 k)]⟩],[],1,m⟩)
   (fun k=>k<=s.length/\p+dV false (s.drop p)=k+dV false (s.drop k)) (fun k=>s.length - k) p (by kernel_rfl) (fun _ _=>au _) (fun _ _=> .inl rfl) (fun _=> ?_) ?_ ?_ ?_
  ·simp only[go_sem]
  ·simp only[go_sem]
  ·exact⟨hp,rfl⟩
  ·rintro k0 ⟨kZ,tO⟩;simp only[go_sem];refine du eK (fun k:Nat=>⟨[⟨0,[],.box 0 0⟩],[],[⟨0,138,[.v (.string (bs s)),.v (.int .i64 k)]⟩],[],1,m⟩)
    (fun k=>k0<=k/\k<=s.length/\p+dV false (s.drop p)=k+dV false (s.drop k)) (fun k=>s.length - k) k0 (fun _ _=>au _) (fun _ _=> .inl rfl) ?_ ?_ ?_
   ·simp only[go_sem]
   ·exact⟨au _,kZ,tO⟩
   ·rintro k ⟨iM,hk,qG⟩;simp only[go_sem];refine lH eK (by kernel_rfl) (by kernel_rfl) (by kernel_rfl) ?_;simp only[go_sem];refine⟨fun ay=> ?_,fun cg=> ?_⟩
    ·refine lH eK (by kernel_rfl) (by kernel_rfl) (by kernel_rfl) ?_;simp only[go_sem];refine⟨⟨by omega,ay⟩,?_⟩;have cB:k<s.length:=by omega
     have hI:aF (k+1):=by unfold aF;omega
     rw[drop_at cB] at qG;simp only[dV] at qG;have ws:((s.getD k 0).toNat=9\/(s.getD k 0).toNat=10\/(s.getD k 0).toNat=13\/(s.getD k 0).toNat=32)->
       ∃x' :Nat,(k:Int)+1=x' /\(k0<=x' /\x' <=s.length/\p+dV false (s.drop p)=x' +dV false (s.drop x'))/\s.length - x' <s.length - k:=fun hc=>by
      rw[ah hc] at qG;exact⟨k+1,rfl,⟨by omega,cB,by omega⟩,by omega⟩
     refine⟨fun h=>⟨fun _=>⟨hI,ws (by omega)⟩,fun h' =>absurd h h'⟩,fun h9=>⟨fun h=>⟨fun _=>⟨hI,ws (by omega)⟩,fun h' =>absurd h h'⟩,fun G3=>⟨fun h=>⟨fun _=>⟨hI,ws (by omega)⟩,fun h' =>absurd h h'⟩,
      fun Vm=>⟨fun h=>⟨hI,ws (by omega)⟩,fun h32=> ?_⟩⟩⟩⟩
     rw[af (by omega)] at qG;refine lH eK (by kernel_rfl) (by kernel_rfl) (by kernel_rfl) ?_;simp only[go_sem];refine⟨⟨by omega,by omega,by omega⟩,fun hc=> ?_,fun hc=> ?_⟩
     ·have jc:Gy (s.drop k) 10=Lib.indexByte (s.drop k) 10:=rfl;have hh:(s.getD k 0).toNat=47/\(s.drop (k+1)).head?.map UInt8.toNat=some 47:=NB.1 (by rw[<- drop_at cB];exact hc);rw[ah hh] at qG;have jb:p+dV false (s.drop p)=k+dV true (s.drop k):=by
       rw[qG,drop_at cB];simp only[dV];rw[af (by omega)]
      have hi:Lib.indexByte (s.drop k) 10≠0:=by
       rw[drop_at cB];have cg:=Lib.indexByte_ge (s.drop (k+1)) 10;simp only[Lib.indexByte,beq_iff_eq];rw[af (fun e=>by rw[e] at hh;exact absurd hh.1 (by decide))];split<;>omega
      have cg:=Lib.indexByte_ge (s.drop k) 10;have uY:=JG 10 (s.drop k);rw[dI] at uY;have fF:=NX (s.drop k);refine lH eK (by kernel_rfl) (by kernel_rfl) (by kernel_rfl) ?_;simp only[go_sem,jc];refine⟨⟨by omega,by omega,by omega⟩,fun hn=> ?_,fun hn=>⟨by unfold aF;omega,k+(Lib.indexByte (s.drop k) 10).toNat,by omega,⟨by omega,?_⟩,by omega⟩⟩
      ·refine lH eK (by kernel_rfl) (by kernel_rfl) (by kernel_rfl) ?_;simp only[go_sem];refine⟨by unfold aF;omega,by unfold aF;omega,s.length,by omega,⟨au _,?_⟩,by omega⟩;rw[ah hn,dI] at fF;rw[List.drop_length];simp only[dV];omega
      ·rw[af hn,List.drop_drop] at fF;omega
     ·have:p+dV false (s.drop p)=k:=by
       rw[qG,af,Nat.add_zero];rintro⟨e1,e2⟩;rw[drop_at cB,NB.2 ⟨e1,e2⟩] at hc;cases hc
      rw[this]
    ·have e:s.drop k=[]:=List.drop_of_length_le (by omega);rw[e] at qG;rw[qG];rfl
abbrev gV (s:List UInt8) (p:Int):Bx:=⟨0,138,[.v (.string (bs s)),.v (.int .i64 p)]⟩
theorem VD (s:List UInt8) (p:Nat) (m:Mem) (hp:p<=s.length) (hs:s.length<=1000000):
  FnH Tryz.prog 189 [.box 0 0] ⟨[gV s p],[]⟩ m fun r H' m' =>m' =m/\match sU (s.drop p) with
   |some o=>r= .tup [Tk.sv ⟨6,o,0,p⟩,.v (.bool true)]/\H' =⟨[gV s (p+o.length)],[]⟩
   |none=>r= .tup [Tk.sv vw,.v (.bool false)]/\H' =⟨[gV s p],[]⟩:=by
 refine aR eK Tryz.func189 ?_
 ·simp only[go_sem];refine ab ((VF m).mono ?_);rintro r H' m' hm ⟨rfl,rfl,rfl⟩;simp only[go_sem];refine du eK (fun k:Nat=>⟨[⟨0,[],.box 0 0⟩,⟨2,[],.box 1 0⟩,⟨7,[],.vec 2 0⟩,⟨8,[],.v (.int .i64 30)⟩,⟨9,[],.v (.int .i64 k)⟩],[],[⟨1,50,vw.cells⟩,gV s p],[⟨2,0,9,1,30,strs je⟩],3,m'⟩)
   (fun k=>k<=30/\sU (s.drop p)=(je.drop k).find? fun o=>jC (s.drop p) o) (fun k=>30 - k) 0 (fun _ _=>au _) (fun _ _=> .inl rfl) ?_ ?_ ?_
  ·simp only[go_sem];exact⟨rfl,rfl⟩
  ·exact⟨by omega,rfl⟩
  ·rintro k ⟨hk,hf⟩;simp only[go_sem];have fF:je.length=30:=rfl;have jb:(strs je).length=30:=rfl;refine⟨fun ay=>⟨⟨by omega,ay⟩,by omega,?_⟩,fun cg=> ?_⟩
   ·have KK:k<je.length:=by omega
    have e:(strs je).getD k undef= .string (bs je[k]):=by
     rw[List.getD_eq_getElem?_getD,strs,List.getElem?_map,List.getElem?_eq_getElem KK];rfl
    rw[e];have yx:je[k].length<=3:=(by decide:∀o∈je,o.length<=3) _ (List.getElem_mem KK);rw[List.drop_eq_getElem_cons KK,List.find?_cons] at hf;generalize je[k]=o at yx hf
    refine lH eK (by kernel_rfl) (by kernel_rfl) (by kernel_rfl) ?_;simp only[go_sem];refine⟨⟨by omega,by omega,by omega⟩,fun h=> ?_,fun h=>⟨by unfold aF;omega,k+1,by omega,⟨by omega,?_⟩,by omega⟩⟩
    ·simp only[h] at hf;rw[hf];exact⟨by unfold aF;omega,rfl,rfl⟩
    ·simp only[h] at hf;exact hf
   ·obtain rfl:k=30:=by omega
    have e:je.drop 30=[]:=rfl;rw[e] at hf;simp only[List.find?_nil] at hf;rw[hf];trivial
theorem WD (s:List UInt8) (p:Nat) (m:Mem) (hp:p<=s.length) (hs:s.length<=1000000):
  FnH Tryz.prog 226 [.box 0 0] ⟨[gV s p],[]⟩ m fun r H' m' =>m' =m/\r= .tup [.v (.int .u8 (fq (s.drop p)).2.1),.v (.bool (fq (s.drop p)).2.2)]/\H' =⟨[gV s (p+(fq (s.drop p)).1:Nat)],[]⟩:=by
 refine aR eK Tryz.func226 ?_
 ·simp only[go_sem];cases hr:s.drop p with
  |nil=>
   refine lH eK (by kernel_rfl) (by kernel_rfl) (by kernel_rfl) ?_;simp only[go_sem,hr];exact⟨⟨by omega,by omega,by omega⟩,⟨rfl,rfl⟩,fun h=>absurd trivial h⟩
  |cons c r=>
   have hlen:(s.drop p).length=r.length+1:=by rw[hr];rfl
   rw[dI] at hlen;refine lH eK (by kernel_rfl) (by kernel_rfl) (by kernel_rfl) ?_;simp only[go_sem,hr];have h0:(0:Int)<=0/\(0:Int)<((r.length+1:Nat):Int):=by omega
   refine⟨⟨by omega,by omega,by omega⟩,h0,fun _=>h0,fun h=> ?_,fun h=>⟨h0,fun h1=> ?_,fun h1=>⟨h0,fun h2=> ?_,fun h2=> ?_⟩⟩⟩
   ·have e:fq (c::r)=(1,(c.toNat:Int),true):=by
     simp only[fq];rw[ah (by omega)]
    rw[e];exact⟨by unfold aF;omega,h0,rfl,rfl⟩
   ·have e:fq (c::r)=(1,10,true):=by
     simp only[fq];rw[af (by omega),ah (by omega)]
    rw[e];exact⟨by unfold aF;omega,rfl,rfl⟩
   ·match r,hlen,h2,h0 with
    |[],_,h2,_=>exact absurd h2.2 (by simp)
    |[_],_,h2,_=>exact absurd h2.2 (by simp)
    |x::y::r,hlen,h2,h0=>
     have e:fq (c::x::y::r)=(3,IntKind.u8.wrap (16 * pN x+pN y),decide (0<=pN x)&&decide (0<=pN y)):=by
      simp only[fq];rw[af (by omega),af (by omega),ah (by omega)]
     rw[e];simp only[List.getD_cons_zero,List.getD_cons_succ,aeg];have hb:∀z:UInt8,-1<=Lib.indexByte mE z/\Lib.indexByte mE z<16:=fun z=>⟨Lib.indexByte_ge _ _,JG z mE⟩
     have h3:=hb x;have h4:=hb y;simp only[pN];simp only[mE] at h3 h4 ⊢;simp only[aL] at hlen ⊢;exact⟨by omega,by omega,by unfold aF;omega,by unfold aF;omega,by unfold aF;omega,rfl,rfl⟩
   ·have e:fq (c::r)=(0,0,false):=by
     simp only[fq];rw[af (by omega),af (by omega)];split
     ·match r,h2 with
      |[],_=>rfl
      |[_],_=>rfl
      |x::y::r,h2=>simp only[aL] at h2;omega
     ·rfl
    rw[e];exact⟨rfl,rfl⟩
def Uo (s:List UInt8) (p:Nat) (o:Option (List UInt8×Nat)) (r:SV) (H' :Hp):Prop:=
 match o with
 |some (b,n)=>r= .tup [Tk.sv ⟨5,b,0,p⟩,.v (.bool (decide (b.length<=1024)))]/\H' =⟨[gV s (p+1+n:Nat)],[]⟩
 |none=>∃t q,r= .tup [Tk.sv t,.v (.bool false)]/\H' =⟨[gV s q],[]⟩
theorem Wp (s:List UInt8) (p:Nat) (m:Mem) (hp:p<s.length) (hs:s.length<=1000000):
  FnH Tryz.prog 188 [.box 0 0] ⟨[gV s p],[]⟩ m fun r H' m' =>m' =m/\Uo s p (kP (s.drop (p+1))) r H' :=by
 refine aR eK Tryz.func188 ?_
 ·simp only[go_sem];refine Y2 eK (by kernel_rfl) ?_;simp only[go_sem];refine⟨by unfold aF;omega,?_⟩;refine zr 5 5 1 (by decide) rfl ?_;refine du eK (fun x:Nat×List UInt8×Nat=>⟨[⟨0,[],.box 0 0⟩,⟨2,[],.box 1 0⟩,⟨4,[],.box 2 0⟩,⟨5,[],.vec 3 x.2.2⟩],[],[⟨2,50,Tk.cells ⟨5,[],0,p⟩⟩,⟨1,50,vw.cells⟩,gV s x.1],[⟨3,x.2.2,5,1,x.2.1.length,jW x.2.1⟩],4,m⟩)
   (fun x=>p+1<=x.1/\x.1<=s.length/\x.2.1.length<=x.1/\∃f,s.length - x.1<f/\kP (s.drop (p+1))=(jB f (s.drop x.1)).map fun y=>(x.2.1++y.1,x.1 - (p+1)+y.2)) (fun x=>s.length - x.1) (p+1,[],0) (fun _ _=>by first |omega |(simp only;omega)) (fun _ _=> .inl rfl) ?_ ?_ ?_
  ·simp only[go_sem];exact⟨rfl,rfl⟩
  ·refine⟨au _,hp,aG _,(s.drop (p+1)).length+1,by rw[dI];omega,?_⟩;show kP _=(kP _).map _;cases kP (s.drop (p+1)) with
   |none=>rfl
   |some x=>simp
  ·rintro⟨q,b,v⟩ ⟨h1,h2,h3,f,hf,hq⟩;simp only at h1 h2 h3 hf hq;obtain⟨f,rfl⟩:∃g,f=g+1:=⟨f - 1,by omega⟩;simp only[go_sem];refine lH eK (by kernel_rfl) (by kernel_rfl) (by kernel_rfl) ?_;simp only[go_sem];refine⟨fun cg=> ?_,fun ay=> ?_⟩
   ·have e:s.drop q=[]:=List.drop_of_length_le (by omega);rw[e] at hq;have Dk:kP (s.drop (p+1))=none:=hq;rw[Dk];exact⟨⟨5,[],0,p⟩,_,rfl,rfl⟩
   ·have hql:q<s.length:=by omega
    rw[drop_at hql] at hq;simp only[jB] at hq;refine lH eK (by kernel_rfl) (by kernel_rfl) (by kernel_rfl) ?_;simp only[go_sem];refine⟨⟨by omega,by omega⟩,by unfold aF;omega,fun h34=> ?_,fun h34=> ?_⟩
    ·rw[ah (by omega)] at hq;refine⟨b,rfl,?_⟩;rw[hq];refine⟨?_,?_⟩
     ·have:decide ((b.length:Int)<=1024)=decide ((b++[]).length<=1024):=by rw[List.append_nil,decide_eq_decide];omega
      rw[this,List.append_nil]
     ·have:((p+1+(q - (p+1)+1):Nat):Int)=q+1:=by omega
      simp only[this]
    ·rw[af (by omega)] at hq;refine⟨fun aj4=> ?_,fun aj4=>⟨fun h92=>⟨by kernel_rfl,?_⟩,fun h92=> ?_⟩⟩
     ·rw[ah (by omega)] at hq;have Dk:kP (s.drop (p+1))=none:=hq;rw[Dk];exact⟨⟨5,[],0,p⟩,_,rfl,rfl⟩
     ·rw[af (by omega),ah (by omega)] at hq;have nw:=WD s (q+1) m (by omega) hs;refine bo (nw.mono ?_);rintro r H' m' hm ⟨rfl,rfl,rfl⟩;simp only[go_sem];obtain⟨oV,ck⟩:=EJ (s.drop (q+1));obtain⟨x,hx⟩:=YJ (s.drop (q+1));rw[hx] at hq ⊢;rw[dI] at oV;rw[List.drop_drop] at hq;generalize (fq (s.drop (q+1))).1=a at hq oV ck ⊢
      generalize (fq (s.drop (q+1))).2.2=k at hq ck ⊢
      have ex:UInt8.ofNat ((x.toNat:Int)).toNat=x:=by rw[Int.toNat_natCast];simp
      rw[ex] at hq;refine⟨fun hk=> ?_,fun hk=> ?_⟩
      ·subst hk;have Dk:kP (s.drop (p+1))=none:=hq;rw[Dk];exact⟨⟨5,[],0,p⟩,_,rfl,rfl⟩
      ·subst hk;have ha:=ck rfl;have J8:jW b++[Value.int .u8 (x.toNat:Int)]=jW (b++[x]):=by rw[Bz];rfl
       refine⟨⟨by omega,by simp only[maxLen];omega⟩,(q+1+a,b++[x],v+1),⟨rfl,rfl,rfl,by simp,J8⟩,⟨by first |omega |(simp only;omega),by first |omega |(simp only;omega),by simp only[aI,iB];omega,f,by first |omega |(simp only;omega),?_⟩,by first |omega |(simp only;omega)⟩;rw[hq,ah rfl];cases jB f (s.drop (q+1+a)) with
       |none=>rfl
       |some x=>
        have:q - (p+1)+(1+a+x.2)=q+1+a - (p+1)+x.2:=by omega
        simp [this]
     ·rw[af (by omega),af (by omega)] at hq;have J8:jW b++[Value.int .u8 ((s.getD q 0).toNat:Int)]=jW (b++[s.getD q 0]):=by rw[Bz];rfl
      refine⟨⟨by omega,by simp only[maxLen];omega⟩,(q+1,b++[s.getD q 0],v+1),⟨rfl,rfl,rfl,by simp,J8⟩,⟨by first |omega |(simp only;omega),by first |omega |(simp only;omega),by simp only[aI,iB];omega,f,by first |omega |(simp only;omega),?_⟩,by first |omega |(simp only;omega)⟩;rw[hq];cases jB f (s.drop (q+1)) with
      |none=>rfl
      |some x=>
       have:q - (p+1)+(1+x.2)=q+1 - (p+1)+x.2:=by omega
       simp [this]
theorem Rf {t:List UInt8}:(!decide (((t.getD 0 0).toNat:Int)=48)||decide ((t.length:Int)=1))=(decide ((t.getD 0 0).toNat≠48)||decide (t.length=1)):=by
 have e1:decide (((t.getD 0 0).toNat:Int)=48)=decide ((t.getD 0 0).toNat=48):=by rw[decide_eq_decide];omega
 have e2:decide ((t.length:Int)=1)=decide (t.length=1):=by rw[decide_eq_decide];omega
 rw[e1,e2];simp
theorem Ww (s:List UInt8) (p:Nat) (m:Mem) (hg:GlobX m) (hp:p<s.length) (hs:s.length<=1000000) (hd:eG (s.getD p 0).toNat=true):
  FnH Tryz.prog 187 [.box 0 0] ⟨[gV s p],[]⟩ m fun r H' m' =>m' =m/\
   r= .tup [Tk.sv ⟨if(gL (s.drop p)).1=true then 4 else 3,[],(gL (s.drop p)).2.1,p⟩,.v (.bool (gL (s.drop p)).2.2.2)]/\H' =⟨[gV s (p+(gL (s.drop p)).2.2.1:Nat)],[]⟩:=by
 refine aR eK Tryz.func187 ?_
 ·simp only[go_sem];refine du eK (fun k:Nat=>⟨[⟨0,[],.box 0 0⟩,⟨2,[],.box 1 0⟩,⟨4,[],.v (.int .i64 p)⟩],[],[⟨1,50,vw.cells⟩,gV s k],[],2,m⟩)
   (fun k=>p<=k/\k<=s.length/\p+dN (s.drop p)=k+dN (s.drop k)) (fun k=>s.length - k) p (fun _ _=>au _) (fun _ _=> .inl rfl) ?_ ?_ ?_
  ·simp only[go_sem]
  ·exact⟨au _,by omega,rfl⟩
  ·rintro k ⟨qG,hk,hdk⟩;simp only[go_sem];refine lH eK (by kernel_rfl) (by kernel_rfl) (by kernel_rfl) ?_;simp only[go_sem];refine⟨fun h=>⟨by omega,h⟩,fun h=>⟨by unfold aF;omega,k+1,rfl,⟨by omega,by omega,?_⟩,by omega⟩,fun h=> ?_⟩
   ·have e:dN (s.drop k)=1+dN (s.drop (k+1)):=by
     rw[drop_at (by omega)];simp only[dN];rw[ah h.2]
    omega
   ·have aj0:dN (s.drop k)=0:=by
     rcases h with h |h
     ·rw[List.drop_of_length_le (by omega)];rfl
     ·rcases Nat.lt_or_ge k s.length with h' |h'
      ·rw[drop_at h'];simp only[dN];rw[h];rfl
      ·rw[List.drop_of_length_le h'];rfl
    have kZ:k=p+dN (s.drop p):=by omega
    have T1:p<k:=by
     rw[kZ,drop_at hp];simp only[dN];rw[ah hd];omega
    clear hdk h aj0;have AK:=ad9 hp hk kZ T1;have ld:=AK.1;have wS:=AK.2.1;have F9:=AK.2.2;have pR:=VN (pM s p) m hg (by rw[wS];omega);refine lH eK (by kernel_rfl) (by kernel_rfl) (by kernel_rfl) ?_;simp only[go_sem,ld];refine⟨⟨by omega,by omega,by omega⟩,?_⟩;refine lH eK (by kernel_rfl) (by kernel_rfl) (by kernel_rfl) ?_;simp only[go_sem,ld];refine⟨fun h=>⟨by omega,h⟩,fun h=>⟨by unfold aF;omega,by kernel_rfl,bo (pR.mono ?_)⟩,fun h=>ab (pR.mono ?_)⟩
    ·rintro r H' m' hm ⟨⟨e,rfl,he1,he2⟩,rfl,rfl⟩;clear pR;rcases he1 with rfl |⟨te,ve,rfl⟩
     ·simp only[go_sem];refine bO (.hoist 0 (.hoist 1 (.hoist 2 (.hoist 3 (.hoist 4 (.hoist 5 (.hoist 6 (.hoist 7 (.hoist 8 (.hoist 9 (.hoist 10 (.hoist 11 (.hoist 12 (.hoist 13 (.hoist 14 (.hoist 15 (.hoist 16 (.hoist 17 (.hoist 18 (.alt 19 [18,17,16,15,14] (.hoist 20 .done) .stop)))))))))))))))))))) eK (by kernel_rfl) (by kernel_rfl) ?_;simp only[go_sem,F9];have oU:(jh (pM s p)).2=true:=he2.symm;refine⟨.inl rfl,fun _=>by rw[wS];omega,?_,?_⟩
      ·rw[ah h,ah h,oU,Bool.true_and,Rf]
      ·rw[ah h];have:((p+(k - p+1):Nat):Int)=k+1:=by omega
       rw[this]
     ·simp only[go_sem];refine bO (.hoist 0 (.hoist 1 (.hoist 2 (.hoist 3 (.hoist 4 (.hoist 5 (.hoist 6 (.hoist 7 (.hoist 8 (.hoist 9 (.hoist 10 (.hoist 11 (.hoist 12 (.hoist 13 (.hoist 14 (.hoist 15 (.hoist 16 (.hoist 17 (.hoist 18 (.alt 19 [18,17,16,15,14] (.hoist 20 .done) .stop)))))))))))))))))))) eK (by kernel_rfl) (by kernel_rfl) ?_;simp only[go_sem,F9];have oU:(jh (pM s p)).2=false:=he2.symm;refine⟨.inr ⟨_,_,rfl⟩,?_,?_⟩
      ·rw[ah h,ah h,oU];rfl
      ·rw[ah h];have:((p+(k - p+1):Nat):Int)=k+1:=by omega
       rw[this]
    ·rintro r H' m' hm ⟨⟨e,rfl,he1,he2⟩,rfl,rfl⟩;clear pR;rcases he1 with rfl |⟨te,ve,rfl⟩
     ·simp only[go_sem];refine bO (.hoist 0 (.hoist 1 (.hoist 2 (.hoist 3 (.hoist 4 (.hoist 5 (.hoist 6 (.hoist 7 (.hoist 8 (.hoist 9 (.hoist 10 (.hoist 11 (.hoist 12 (.hoist 13 (.hoist 14 (.hoist 15 (.hoist 16 (.hoist 17 (.hoist 18 (.alt 19 [18,17,16,15,14] (.hoist 20 .done) .stop)))))))))))))))))))) eK (by kernel_rfl) (by kernel_rfl) ?_;simp only[go_sem,F9];have h:¬((k:Int)<s.length/\(((s.getD k 0).toNat:Nat):Int)=76):=fun x=>h.elim (fun y=>y x.1) (fun y=>y x.2)
      have oU:(jh (pM s p)).2=true:=he2.symm;refine⟨.inl rfl,fun _=>by rw[wS];omega,?_,?_⟩
      ·rw[af h,af h,oU,Bool.true_and,Rf]
      ·rw[af h];have:((p+(k - p):Nat):Int)=k:=by omega
       rw[this]
     ·simp only[go_sem];refine bO (.hoist 0 (.hoist 1 (.hoist 2 (.hoist 3 (.hoist 4 (.hoist 5 (.hoist 6 (.hoist 7 (.hoist 8 (.hoist 9 (.hoist 10 (.hoist 11 (.hoist 12 (.hoist 13 (.hoist 14 (.hoist 15 (.hoist 16 (.hoist 17 (.hoist 18 (.alt 19 [18,17,16,15,14] (.hoist 20 .done) .stop)))))))))))))))))))) eK (by kernel_rfl) (by kernel_rfl) ?_;simp only[go_sem,F9];have h:¬((k:Int)<s.length/\(((s.getD k 0).toNat:Nat):Int)=76):=fun x=>h.elim (fun y=>y x.1) (fun y=>y x.2)
      have oU:(jh (pM s p)).2=false:=he2.symm;refine⟨.inr ⟨_,_,rfl⟩,?_,?_⟩
      ·rw[af h,af h,oU];rfl
      ·rw[af h];have:((p+(k - p):Nat):Int)=k:=by omega
       rw[this]
theorem acn (l:List UInt8) (hl:l.length<=1000000):BL (gr l):=by
 have h:=QT (l.take (jL l)) [58,58] [47] (by simp) (by rw[List.length_take];omega);rw[List.length_take] at h;simp only[aL,bh] at h;unfold BL gr;omega
theorem VB (s:List UInt8) (p:Nat) (m:Mem) (hg:GlobX m) (hp:p<s.length) (hs:s.length<=1000000):
  FnH Tryz.prog 185 [.box 0 0] ⟨[gV s p],[]⟩ m fun r H' m' =>m.le m' /\
   r= .tup [Tk.sv ⟨if gw.contains (gr (s.drop p))=true then 2 else 1,gr (s.drop p),0,p⟩,.v (.bool (fJ (gr (s.drop p))))]/\H' =⟨[gV s (p+jL (s.drop p):Nat)],[]⟩:=by
 refine aR eK Tryz.func185 ?_
 ·simp only[go_sem];refine bO (.hoist 0 (.hoist 1 (.hoist 2 (.hoist 3 (.hoist 4 (.hoist 5 (.hoist 6 (.hoist 7 (.hoist 8 (.alt 9 [3,2,1,0] (.hoist 10 (.hoist 11 (.hoist 12 (.alt 13 [] .done .stop)))) .stop)))))))))) eK (by kernel_rfl) (by kernel_rfl) ?_;simp only[go_sem];have j2:=xq true (s.drop p);rw[dI] at j2;refine ab ((N8 s p p m (by omega) (by omega) (by omega)).mono ?_);rintro r H' m' hm ⟨rfl,rfl,rfl⟩;simp only[go_sem];refine⟨by unfold aF;omega,?_⟩;refine abe eK (fun x:Nat×Nat=>⟨[⟨0,[],.box 0 0⟩,⟨2,[],.box 1 0⟩,⟨3,[],.v (.bool false)⟩,⟨4,[],.v (.int .i64 p)⟩],[],[⟨1,50,vw.cells⟩,gV s x.1],[],3,m'⟩)
   (fun x=>p<=x.1/\x.1<=s.length/\s.length - x.1<x.2/\p+jL (s.drop p)=x.1+jV x.2 (s.drop x.1)) (fun x=>s.length - x.1) (p+cE true (s.drop p),(s.drop p).length+1)
   (fun _:Unit=>⟨[⟨0,[],.box 0 0⟩,⟨2,[],.box 1 0⟩,⟨3,[],.v (.bool false)⟩,⟨4,[],.v (.int .i64 p)⟩],[],[⟨1,50,vw.cells⟩,gV s (p+jL (s.drop p):Nat)],[],3,m'⟩) (fun _=>p+jL (s.drop p)<=s.length)
   (by kernel_rfl) (fun _ _=>au _) (fun _ _=> .inl rfl) (fun _=> ?_) ?_ ?_ (fun _ _=>au _) (fun _ _=> .inl rfl) (fun _=> ?_) (fun _ hJ=> ?_) ?_
  ·simp only[go_sem]
  ·simp only[go_sem];rfl
  ·refine⟨Nat.le_add_right _ _,by omega,by rw[dI];simp only;omega,?_⟩;simp only[jL,List.drop_drop];omega
  ·simp only[go_sem]
  ·simp only[go_sem];have et:(s.take (p+jL (s.drop p))).drop p=(s.drop p).take (jL (s.drop p)):=by
    rw[List.drop_take];congr 1;omega
   have aT:=VY ((s.drop p).take (jL (s.drop p))) [58,58] [47] m' hg.1 (by rw[List.length_take,dI];omega) (by simp) (by simp);have eS:Lib.replaceAll ((s.drop p).take (jL (s.drop p))) [58,58] [47]=gr (s.drop p):=rfl;have GH:BL (gr (s.drop p)):=acn _ (by rw[dI];omega);refine bO (.hoist 0 (.hoist 1 (.hoist 2 (.hoist 3 (.hoist 4 (.hoist 5 (.hoist 6 (.hoist 7 (.hoist 8 (.hoist 9 (.hoist 11 (.alt 10 [11] (.hoist 12 (.alt 13 [12,11] (.alt 14 [] .done .stop) .stop)) (.alt 13 [11,9,8,7,6,5,4,3,2,1,0] (.alt 10 [11] (.hoist 12 (.alt 14 [] .done .stop)) .stop) .stop))))))))))))) eK (by kernel_rfl) (by kernel_rfl) ?_;simp only[go_sem,et];refine⟨⟨by omega,by omega,by omega⟩,ab (aT.mono ?_),ab (aT.mono ?_)⟩
   ·clear aT;rintro r H' kq aH ⟨rfl,rfl,rfl⟩;simp only[go_sem,eS];refine bO (.hoist 1 (.hoist 2 (.alt 0 [2,1] (.alt 3 [] .done .stop) .stop))) eK (by kernel_rfl) (by kernel_rfl) ?_;simp only[go_sem];refine ab ((He kq).mono ?_);rintro r H' m3 bI ⟨rfl,rfl,rfl⟩;simp only[go_sem];refine⟨by kernel_rfl,fun ad cp m1 aN bg bU=>bo ((yP gw (gr (s.drop p)) ad 28 cp m1 bU (by decide)).mono ?_)⟩;rintro r H' m4 cT ⟨rfl,rfl⟩;simp only[go_sem];refine⟨fun hk=> ?_,fun hk=> ?_⟩
    ·refine bO (.hoist 0 (.hoist 1 (.hoist 2 (.alt 3 [0] (.alt 4 [] (.hoist 5 .done) .stop) .stop)))) eK (by kernel_rfl) (by kernel_rfl) ?_;simp only[go_sem];refine⟨GH,Mem.le_trans aN cT,?_⟩;rw[ah hk]
    ·refine bO (.hoist 0 (.hoist 1 (.hoist 2 (.alt 3 [0] (.alt 4 [] (.hoist 5 .done) .stop) .stop)))) eK (by kernel_rfl) (by kernel_rfl) ?_;simp only[go_sem];refine⟨GH,Mem.le_trans aN cT,?_⟩;rw[af (by rw[hk];exact Bool.false_ne_true)]
   ·clear aT;rintro r H' kq aH ⟨rfl,rfl,rfl⟩;simp only[go_sem,eS];refine bO (.hoist 1 (.hoist 2 (.alt 0 [2,1] (.alt 3 [] .done .stop) .stop))) eK (by kernel_rfl) (by kernel_rfl) ?_;simp only[go_sem];refine ab ((He kq).mono ?_);rintro r H' m3 bI ⟨rfl,rfl,rfl⟩;simp only[go_sem];refine⟨by kernel_rfl,fun ad cp m1 aN bg bU=>bo ((yP gw (gr (s.drop p)) ad 28 cp m1 bU (by decide)).mono ?_)⟩;rintro r H' m4 cT ⟨rfl,rfl⟩;simp only[go_sem];refine⟨fun hk=> ?_,fun hk=> ?_⟩
    ·refine bO (.hoist 0 (.hoist 1 (.hoist 2 (.alt 3 [0] (.alt 4 [] (.hoist 5 .done) .stop) .stop)))) eK (by kernel_rfl) (by kernel_rfl) ?_;simp only[go_sem];refine⟨GH,Mem.le_trans aN cT,?_⟩;rw[ah hk]
    ·refine bO (.hoist 0 (.hoist 1 (.hoist 2 (.alt 3 [0] (.alt 4 [] (.hoist 5 .done) .stop) .stop)))) eK (by kernel_rfl) (by kernel_rfl) ?_;simp only[go_sem];refine⟨GH,Mem.le_trans aN cT,?_⟩;rw[af (by rw[hk];exact Bool.false_ne_true)]
  ·rintro⟨k,f⟩ ⟨h1,h2,h3,h4⟩;simp only at h1 h2 h3 h4;obtain⟨f,rfl⟩:∃g,f=g+1:=⟨f - 1,by omega⟩;simp only[jV] at h4;simp only[go_sem];refine lH eK (by kernel_rfl) (by kernel_rfl) (by kernel_rfl) ?_;simp only[go_sem];refine⟨⟨by omega,by omega,by omega⟩,fun h=> ?_,fun h=> ?_⟩
   ·have vl:k+2<=s.length:=by
     have:=E2 h;rw[dI] at this;simp only[aL,bh] at this;omega
    have ajR:=xq true (s.drop (k+2));rw[dI] at ajR;rw[List.drop_drop,List.drop_drop] at h4;have e2:((k:Int)+2).toNat=k+2:=by omega
    refine⟨by unfold aF;omega,by kernel_rfl,bo ((N8 s k (k+2) m' (by omega) (by omega) (by omega)).mono ?_)⟩;rintro r H' kq aH ⟨rfl,rfl,rfl⟩;simp only[go_sem,e2];refine⟨fun h0=>⟨(),?_,?_⟩,fun h0=>⟨by unfold aF;omega,by unfold aF;omega,(k+(2+cE true (s.drop (k+2))),f),by simp only;omega,⟨by simp only;omega,by simp only;omega,by simp only;omega,?_⟩,by simp only;omega⟩⟩
    ·rw[af (by rintro⟨_,x⟩;exact x (by omega))] at h4;rw[h4];rfl
    ·rw[af (by rintro⟨_,x⟩;exact x (by omega))] at h4;omega
    ·rw[ah ⟨h,by omega⟩] at h4;simp only;omega
   ·rw[af (by rw[h];rintro⟨x,_⟩;cases x)] at h4;exact⟨(),by rw[h4];rfl,by omega⟩
def KY (s:List UInt8) (p:Nat) (o:Option (Int×List UInt8×Int×Nat)) (r:SV) (H' :Hp):Prop:=
 match o with
 |some (k,t,n,len)=>r= .tup [Tk.sv ⟨k,t,n,p⟩,.v (.bool true)]/\H' =⟨[gV s (p+len:Nat)],[]⟩
 |none=>∃t q,r= .tup [Tk.sv t,.v (.bool false)]/\H' =⟨[gV s q],[]⟩
def yi (s:List UInt8) (p:Nat) (m:Mem) (r:SV) (H' :Hp) (m' :Mem):Prop:=
 m.le m' /\∃(t:Tk) (b:Bool) (q:Int),r= .tup [Tk.sv t,.v (.bool b)]/\H' =⟨[gV s q],[]⟩/\KY s p (gT (s.drop p)) (.tup [Tk.sv t,.v (.bool b)]) ⟨[gV s q],[]⟩
theorem ab5 {s:List UInt8} {p:Nat} {m m' :Mem} {r:SV} {H' :Hp} (hp:p<s.length) (h1:dU (s.getD p 0).toNat=true)
  (h:m.le m' /\r= .tup [Tk.sv ⟨if gw.contains (gr (s.drop p))=true then 2 else 1,gr (s.drop p),0,p⟩,.v (.bool (fJ (gr (s.drop p))))]/\H' =⟨[gV s (p+jL (s.drop p):Nat)],[]⟩):yi s p m r H' m' :=by
 obtain⟨hle,rfl,rfl⟩:=h;refine⟨hle,_,_,_,rfl,rfl,?_⟩;have e:gT (s.drop p)=if fJ (gr (s.drop p))=true then some (if gw.contains (gr (s.drop p))=true then 2 else 1,gr (s.drop p),0,jL (s.drop p)) else none:=by
  rw[drop_at hp];show(if dU (s.getD p 0).toNat=true then _ else _)=_;rw[ah h1]
 rw[e];cases hn:fJ (gr (s.drop p)) with
 |true=>exact⟨rfl,rfl⟩
 |false=>exact⟨_,_,rfl,rfl⟩
theorem Z6 {s:List UInt8} {p:Nat} {m m' :Mem} {r:SV} {H' :Hp} (hm:m.le m') (hp:p<s.length) (h1:dU (s.getD p 0).toNat=false) (h2:eG (s.getD p 0).toNat=true)
  (h:m' =m/\r= .tup [Tk.sv ⟨if(gL (s.drop p)).1=true then 4 else 3,[],(gL (s.drop p)).2.1,p⟩,.v (.bool (gL (s.drop p)).2.2.2)]/\H' =⟨[gV s (p+(gL (s.drop p)).2.2.1:Nat)],[]⟩):yi s p m r H' m' :=by
 obtain⟨_,rfl,rfl⟩:=h;refine⟨hm,_,_,_,rfl,rfl,?_⟩;have e:gT (s.drop p)=if(gL (s.drop p)).2.2.2=true then some (if(gL (s.drop p)).1=true then 4 else 3,[],(gL (s.drop p)).2.1,(gL (s.drop p)).2.2.1) else none:=by
  rw[drop_at hp];show(if dU (s.getD p 0).toNat=true then _ else if eG (s.getD p 0).toNat=true then _ else _)=_;rw[af (by rw[h1];exact Bool.false_ne_true),ah h2]
 rw[e];cases hn:(gL (s.drop p)).2.2.2 with
 |true=>exact⟨rfl,rfl⟩
 |false=>exact⟨_,_,rfl,rfl⟩
theorem Z5 {s:List UInt8} {p:Nat} {m m' :Mem} {r:SV} {H' :Hp} (hm:m.le m') (hp:p<s.length) (h1:dU (s.getD p 0).toNat=false) (h2:eG (s.getD p 0).toNat=false) (h3:(((s.getD p 0).toNat:Nat):Int)=34)
  (h:m' =m/\Uo s p (kP (s.drop (p+1))) r H'):yi s p m r H' m' :=by
 obtain⟨_,h⟩:=h;have e:gT (s.drop p)=match kP (s.drop (p+1)) with
   |some (b,n)=>if b.length<=1024 then some (5,b,0,1+n) else none
   |none=>none:=by
  rw[drop_at hp];show(if dU (s.getD p 0).toNat=true then _ else if eG (s.getD p 0).toNat=true then _ else if(s.getD p 0).toNat=34 then _ else _)=_;rw[af (by rw[h1];exact Bool.false_ne_true),af (by rw[h2];exact Bool.false_ne_true),ah (by omega)];first |done |rfl
 unfold yi;rw[e];cases hq:kP (s.drop (p+1)) with
 |none=>
  rw[hq] at h;obtain⟨t,q,rfl,rfl⟩:=h;exact⟨hm,t,false,q,rfl,rfl,t,q,rfl,rfl⟩
 |some x=>
  obtain⟨b,n⟩:=x;rw[hq] at h;obtain⟨rfl,rfl⟩:=h;refine⟨hm,_,_,_,rfl,rfl,?_⟩;by_cases hb:b.length<=1024
  ·simp only[ah hb,eF hb];exact⟨rfl,by rw[Nat.add_assoc]⟩
  ·simp only[af hb,di hb];exact⟨_,_,rfl,rfl⟩
theorem ab4 {s:List UInt8} {p:Nat} {m m' :Mem} {r:SV} {H' :Hp} (hm:m.le m') (hp:p<s.length) (h1:dU (s.getD p 0).toNat=false) (h2:eG (s.getD p 0).toNat=false) (h3:¬(((s.getD p 0).toNat:Nat):Int)=34)
  (h:m' =m/\match sU (s.drop p) with
   |some o=>r= .tup [Tk.sv ⟨6,o,0,p⟩,.v (.bool true)]/\H' =⟨[gV s (p+o.length)],[]⟩
   |none=>r= .tup [Tk.sv vw,.v (.bool false)]/\H' =⟨[gV s p],[]⟩):yi s p m r H' m' :=by
 obtain⟨_,h⟩:=h;have e:gT (s.drop p)=(sU (s.drop p)).map fun o=>(6,o,0,o.length):=by
  rw[drop_at hp];show(if dU (s.getD p 0).toNat=true then _ else if eG (s.getD p 0).toNat=true then _ else if(s.getD p 0).toNat=34 then _ else _)=_;rw[af (by rw[h1];exact Bool.false_ne_true),af (by rw[h2];exact Bool.false_ne_true),af (by omega)]
 unfold yi;rw[e];cases hq:sU (s.drop p) with
 |none=>
  rw[hq] at h;obtain⟨rfl,rfl⟩:=h;exact⟨hm,vw,false,p,rfl,rfl,vw,p,rfl,rfl⟩
 |some o=>
  rw[hq] at h;obtain⟨rfl,rfl⟩:=h;exact⟨hm,_,_,_,rfl,rfl,rfl,rfl⟩
theorem Yu (s:List UInt8) (p:Nat) (m:Mem) (hg:GlobX m) (hp:p<s.length) (hs:s.length<=1000000):
  FnH Tryz.prog 125 [.box 0 0] ⟨[gV s p],[]⟩ m fun r H' m' =>yi s p m r H' m' :=by
 refine aR eK Tryz.func125 ?_
 ·simp only[go_sem];refine lH eK (by kernel_rfl) (by kernel_rfl) (by kernel_rfl) ?_;simp only[go_sem]
  refine⟨by omega,fun h1=>ab (((VB s p m hg hp hs).mono fun r H' m' hm h=>ab5 hp h1 h).mono ?_),fun h1=>⟨fun h2=>ab (((Ww s p m hg hp hs h2).mono fun r H' m' hm h=>Z6 hm hp h1 h2 h).mono ?_),
   fun h2=>⟨fun h3=>ab (((Wp s p m hp hs).mono fun r H' m' hm h=>Z5 hm hp h1 h2 h3 h).mono ?_),fun h3=>ab (((VD s p m (by omega) hs).mono fun r H' m' hm h=>ab4 hm hp h1 h2 h3 h).mono ?_)⟩⟩⟩
  all_goals
   rintro r H' m' hm ⟨hle,t,b,q,rfl,rfl,hN⟩;simp only[go_sem];exact⟨hle,t,b,q,rfl,rfl,hN⟩
theorem adp {s:List UInt8} {p:Nat} {o:Option (Int×List UInt8×Int×Nat)} {t:Tk} {q:Int} (h:KY s p o (.tup [Tk.sv t,.v (.bool false)]) ⟨[gV s q],[]⟩):o=none:=by
 cases o with
 |none=>rfl
 |some x=>
  obtain⟨k,tt,n,len⟩:=x;have h1:=h.1;simp at h1
theorem abj {s:List UInt8} {p:Nat} {o:Option (Int×List UInt8×Int×Nat)} {t:Tk} {q:Int} (h:KY s p o (.tup [Tk.sv t,.v (.bool true)]) ⟨[gV s q],[]⟩):
  ∃k tt n len,o=some (k,tt,n,len)/\t=⟨k,tt,n,p⟩/\q=(p+len:Nat):=by
 cases o with
 |none=>
  obtain⟨t',q',h1,_⟩:=h;simp at h1
 |some x=>
  obtain⟨k,tt,n,len⟩:=x;obtain⟨h1,h2⟩:=h;obtain⟨tk,ts,tn,ta⟩:=t;simp only[Tk.sv,Tk.cells,SV.tup.injEq,List.cons.injEq,SV.agg.injEq,SV.v.injEq,Value.int.injEq,Value.string.injEq,true_and,and_true] at h1;simp only[Hp.mk.injEq,List.cons.injEq,Bx.mk.injEq,SV.v.injEq,Value.int.injEq,true_and,and_true] at h2;obtain⟨rfl,h12,rfl,rfl⟩:=h1;have:=zQ h12;subst this;exact⟨_,_,_,_,rfl,rfl,h2⟩
theorem Hb (s:List UInt8) (m:Mem) (hg:GlobX m) (hs:s.length<=4611686018427387904):
  FnH Tryz.prog 48 [.v (.string (bs s))] ⟨[],[]⟩ m fun r H' m' =>ae m m' /\CX (aU s) r H' :=by
 refine aR eK Tryz.func48 ?_
 ·simp only[go_sem];refine⟨fun h=> ?_,fun h=> ?_⟩
  ·have e:aU s=([],0,8):=ah (by omega);rw[e];exact .inr ⟨by decide,rfl,rfl,rfl⟩
  ·refine zr 5 50 4 (by decide) rfl ?_;have Lu:aU s=rG s (s.length+1) 0 []:=af (by omega);refine du eK (fun x:Nat×List Tk×Nat×Mem=>⟨[⟨0,[],.v (.string (bs s))⟩,⟨5,[],.vec 1 x.2.2.1⟩,⟨6,[],.box 0 0⟩],[],[gV s x.1],[⟨1,x.2.2.1,50,4,x.2.1.length,cv x.2.1⟩],2,x.2.2.2⟩)
    (fun x=>ae m x.2.2.2/\GlobX x.2.2.2/\x.1<=s.length/\x.2.1.length<=5000/\∃f,s.length - x.1<f/\aU s=rG s f x.1 x.2.1) (fun x=>s.length - x.1) (0,[],0,m) (fun _ _=>au _) (fun x hx=>hx.1) ?_ ?_ ?_
   ·simp only[go_sem];exact⟨rfl,rfl⟩
   ·exact⟨.inl rfl,hg,aG _,aG _,s.length+1,by simp only;omega,Lu⟩
   ·rintro⟨p,acc,u,mm⟩ ⟨h1,h2,h3,h4,f,h5,h6⟩;simp only at h1 h2 h3 h4 h5 h6;obtain⟨f,rfl⟩:∃g,f=g+1:=⟨f - 1,by omega⟩;simp only[rG] at h6;have hsk:=BA false (s.drop p);rw[dI] at hsk;have iO:=XM s p mm h3 (by omega);obtain⟨q,hq⟩:∃q,p+dV false (s.drop p)=q:=⟨_,rfl⟩;rw[hq] at h6 iO;have hqs:q<=s.length:=by omega
    simp only[go_sem];refine ab (iO.mono ?_);rintro r H' m' hm ⟨rfl,rfl,rfl⟩;clear iO;simp only[go_sem];refine⟨fun cg=>⟨h1,?_⟩,fun ay=>⟨fun an5=>⟨h1,?_⟩,fun aou=>ab ((Yu s q m' h2 (by omega) (by omega)).mono ?_)⟩⟩
    ·rw[h6,ah (by omega)];exact .inl ⟨rfl,_,_,rfl,rfl⟩
    ·rw[h6,af (by omega),ah (by omega)];exact .inr ⟨by decide,rfl,rfl,rfl⟩
    ·rintro r H' kq aH ⟨hle,t,b,qq,rfl,rfl,hN⟩;simp only[go_sem,Tk.sv,Tk.cells];have AL:ae m kq:=On h1 hle;refine⟨fun hb=>⟨AL,?_⟩,fun hb=>⟨⟨by omega,by simp only[maxLen];omega⟩,?_⟩⟩
     ·have ht:=adp (hb▸hN);rw[h6,af (by omega),af (by omega),ht];exact .inr ⟨by simp,rfl,rfl,rfl⟩
     ·obtain⟨k,tt,n,len,ht,e1,e2⟩:=abj (hb▸hN);rw[ht] at h6;rw[af (by omega),af (by omega)] at h6;have hlen:=O2 ht;rw[dI] at hlen;refine⟨(q+len,acc++[t],u+1,kq),⟨rfl,e2,⟨rfl,by simp,VR acc t⟩,.inl rfl⟩,⟨AL,h2.up hle,by simp only;omega,by simp only[aI,iB];omega,f,by simp only;omega,?_⟩,by simp only;omega⟩;rw[h6,e1]
end Go.Proofs.YtimddhkipjedcaaGreatDoor.E
namespace Go.Proofs.YtimddhkipjedcaaGreatDoor.E
open Go Go.ChangeShapes Go.WideShapes Go.ChangeAt Go.RowKit
theorem Tg: "*" ++ "errors.errorString" = "*errors.errorString" :=by decide
theorem wq (u:TypeId) (h:Tryz.prog.typeName? 3 u=some "*errors.errorString"):u=237:=
 typeName_ptr_named (nm:= "errors.errorString") (by rw[Tg];kernel_rfl) (by kernel_rfl) (by decide) u (by rw[Tg];exact h)
theorem aas {W:World} (U8:laidMetH Tryz.prog Aa W) (hs:W.ShapedOpen Tryz.prog):GlobX ⟨W,lG W⟩:=by
 have hg:=acu U8 hs;have hL:=U8;rw[MakeChecks.laidMetH_plain _ _ _ (by kernel_rfl)] at hL;have h3:=hL.tail.tail;have ht:=Lib.tabIs_of_head (P:=Tryz.prog) (zs:=Lib.pow10Tab) (g:=6) (t:=250) (e:=217) (n:=20) (by kernel_rfl) (by kernel_rfl) (by kernel_rfl) (by kernel_rfl) (by kernel_rfl) (by kernel_rfl) h3;obtain⟨a5,_,v5,_⟩:=laid_sentinel (P:=Tryz.prog) (g:=3) (ti:=195) (tp:=237) (te:=239) (ts:=9) h3.tail.tail (by kernel_rfl) (by kernel_rfl) Tryz.underlying195 wq Tryz.underlying237 Tryz.underlying239 rfl rfl (by kernel_rfl) (by kernel_rfl) (by kernel_rfl);obtain⟨a4,_,v4,_⟩:=laid_sentinel (P:=Tryz.prog) (g:=2) (ti:=195) (tp:=237) (te:=239) (ts:=9) h3.tail.tail.tail (by kernel_rfl) (by kernel_rfl) Tryz.underlying195 wq Tryz.underlying237 Tryz.underlying239 rfl rfl (by kernel_rfl) (by kernel_rfl) (by kernel_rfl);obtain⟨k,hk⟩:=g1 W hs;refine⟨hg,fun w D hle=> ?_⟩;exact⟨⟨k,EW hle hk⟩,⟨_,_,EW hle (by rw[World.var?_cell (by kernel_rfl) v4 0];rfl)⟩,⟨_,_,EW hle (by rw[World.var?_cell (by kernel_rfl) v5 0];rfl)⟩,R1 hle ht⟩
theorem W2 {H:Type} {lF:TypeId×Value->H} {a:Assume} {C:Checked} {os:Os} {f:FuncId} {fn:Func} {s:ChangeSpec} {conds:List PathCond} {apart fresh handsOn again:Bool} {X:World->Array Value->Prop}
  (hX:∀(w w' :World) (args:Array Value),w.heap=w'.heap->X w args->X w' args)
  (own:ownKnob C.prog.godebug=none) (started:os.Started) (aea:C.prog.inits.idxOf? f=none) (fU:C.prog.funcs[f]? =some fn)
  (witness:∃(w:World) (tape:Tape) (i:Input),w.os=os/\(w.forCall tape i).Shaped C.prog/\i.vars=[]/\Input.okWide C.prog (w.forCall tape i) .any w.heap.size f i/\
   ((s.pre lF C.prog fn conds apart (w.forCall tape i).memory i.args/\X (w.forCall tape i).memory i.args)/\sizedMet lF C.prog fn (OpenSpec.ofChange s) apart (w.forCall tape i).memory i.args)/\a.holds C.prog (lone (Frame.enter C.prog f i.args .normal) [] (w.forCall tape i)))
  (aaV:∀(W:World) (base:Nat) (args:Array Value) (ds gs:List (DataW H)) (before:List MemPlace),
   (∀(j:Nat) t v,fn.params[j]? =some t->args[j]? =some v->Value.okWide C.prog W .any base t v)->
   DataW.Whole lF C.prog fn.params.toList s.vars apart W args.toList ds gs before->X W args->W.ShapedOpen C.prog->
   (DataW.weightsEach C.prog (fn.params.toList++s.plain.varTypes C.prog) (ds++gs)).all (· <=reachBytes)=true->
   Calls C.prog f args W fun e W' =>∃v,e= .returned v/\s.post lF C.prog fn apart fresh handsOn again W args v W'):
  ReturnsInHanded a C os f .any (fun w args=>(s.pre lF C.prog fn conds apart w args/\X w args)/\sizedMet lF C.prog fn (OpenSpec.ofChange s) apart w args) (s.post lF C.prog fn apart fresh handsOn again):=by
 refine returnsInHanded_of_calls own started aea witness ?_;intro w tape i _ Dj _ ar ajQ anU;obtain⟨_,_,_,fn',hfn',_,_,_,_,F6⟩:=ar;have e:fn' =fn:=Option.some.inj (hfn'.symm.trans fU);subst e;obtain⟨⟨⟨ds,gs,before,hw,hc⟩,hx⟩,hz⟩:=ajQ;have Dg:=DataW.Whole.of_heap (w' :=w.forCall tape i) (by rfl) hw;refine(aaV (w.forCall tape i) w.heap.size i.args ds gs before F6 Dg (hX _ _ _ (by rfl) hx) Dj (hz.weights hw)).mono fun e W' ⟨v,he,hp⟩=> ?_
 subst he;exact ChangeSpec.post_blind hp
theorem adt:fB Tryz.prog 62=some [.v (.slice none 0 0),.v (.int .i64 0),.v (.int .i64 0),.v (.bool false),.v (.int .i64 0)]:=by kernel_rfl
theorem ahG:eR Tryz.prog 62=some (some 5):=by kernel_rfl
theorem aie:bX Tryz.prog 62=5:=by kernel_rfl
theorem acJ:da Tryz.prog 62 0=some (0,none,1):=by kernel_rfl
theorem acI:da Tryz.prog 62 1=some (1,none,1):=by kernel_rfl
theorem acH:da Tryz.prog 62 2=some (2,none,1):=by kernel_rfl
theorem acG:da Tryz.prog 62 3=some (3,none,1):=by kernel_rfl
theorem acF:da Tryz.prog 62 4=some (4,none,1):=by kernel_rfl
theorem ahv:nO Tryz.prog 62=true:=by kernel_rfl
theorem ahC:eR Tryz.prog 45=some none:=by kernel_rfl
theorem ahO:eR Tryz.prog 4=some none:=by kernel_rfl
theorem ain:bX Tryz.prog 4=1:=by kernel_rfl
attribute [go_sem] ahO ain ahC adt ahG aie acJ acI acH acG acF ahv ko
structure PSt where
 i:Nat
 fl:Bool
 off:Int
abbrev pH (ts:List Tk) (en:Int) (s:PSt):Hp:=⟨[⟨0,62,[.vec 1 0,.v (.int .i64 s.i),.v (.int .i64 en),.v (.bool s.fl),.v (.int .i64 s.off)]⟩],[⟨1,0,50,4,ts.length,cv ts⟩]⟩
abbrev tkS (t:Tk):SV:= .agg [.v (.int .i64 t.k),.v (.string (bs t.s)),.v (.int .i64 t.n),.v (.int .i64 t.at_)]
def zT:Tk:=⟨0,[],0,0⟩
def fD (ts:List Tk) (i:Nat):Tk:=ts.getD i zT
theorem Iq {ts:List Tk} {i:Nat} (h:i<ts.length):((cv ts).drop (i * 4)).take 4=ko (fD ts i):=by
 induction ts generalizing i with
 |nil=>cases h
 |cons t r ih=>
  cases i with
  |zero=>simp [cv,ko,fD]
  |succ i=>
   have:=ih (i:=i) (by simpa using h);have e:cv (t::r)=ko t++cv r:=by simp [cv,ko]
   have e2:fD (t::r) (i+1)=fD r i:=rfl;rw[e2,e,show(i+1) * 4=4+i * 4 by omega,<- List.drop_drop];exact this
theorem ze (ts:List Tk) (en:Int) (s:PSt) (m:Mem) (hn:ts.length<=100000000):FnH Tryz.prog 151 [.box 0 0] (pH ts en s) m fun r H' _=>r=tkS (fD ts s.i)/\H' =pH ts en s:=by
 refine aR aB Tryz.func151 ?_
 ·simp only[go_sem];refine bO (.hoist 0 (.hoist 1 (.hoist 2 (.hoist 3 (.hoist 4 (.hoist 5 (.hoist 6 (.hoist 7 (.hoist 8 (.hoist 9 .done)))))))))) aB (by kernel_rfl) (by kernel_rfl) ?_;simp only[go_sem];refine⟨fun h=> ?_,fun h=> ?_⟩
  ·have hi:s.i<ts.length:=by omega
   have hc:=Iq hi;refine bO (.hoist 0 (.hoist 1 (.hoist 2 (.hoist 3 (.hoist 4 (.hoist 5 (.hoist 6 (.hoist 7 (.hoist 8 (.hoist 9 (.alt 10 [] .done .stop))))))))))) aB (by kernel_rfl) (by kernel_rfl) ?_;simp only[go_sem,hc];exact⟨⟨by omega,h⟩,by have:(cv ts).length=ts.length * 4:=BR ts;omega⟩
  ·have:fD ts s.i=zT:=by rw[fD,List.getD_eq_getElem?_getD,List.getElem?_eq_none (by omega)];rfl
   rw[this];rfl
def bu (ts:List Tk) (i:Nat) (w:List UInt8):Bool:=(decide ((fD ts i).k=2)||decide ((fD ts i).k=6))&&decide ((fD ts i).s=w)
theorem EC (ts:List Tk) (en:Int) (s:PSt) (w:List UInt8) (m:Mem) (hn:ts.length<=100000000):FnH Tryz.prog 74 [.box 0 0,.v (.string (bs w))] (pH ts en s) m fun r H' m' =>ae m m' /\r= .v (.bool (bu ts s.i w))/\H' =pH ts en s:=by
 have hp:=ze ts en s m hn;refine aR aB Tryz.func74 ?_
 ·simp only[go_sem];refine ab (hp.mono ?_);clear hp;rintro r H' m1 aN ⟨rfl,rfl⟩;simp only[go_sem];exact⟨.inr aN,rfl⟩
def kA (ts:List Tk) (en:Int) (s:PSt):PSt:=if s.fl=true then s else⟨ts.length,true,if s.i<ts.length then(fD ts s.i).at_ else en⟩
theorem aeY {ts:List Tk} {i:Nat} (h:i<ts.length):(cv ts).getD (i * 4+3) undef= .int .i64 (fD ts i).at_:=by
 have:=congrArg (fun l=>l[3]?) (Iq h);simp only[List.getElem?_take,List.getElem?_drop] at this;rw[ah (by decide)] at this;rw[List.getD_eq_getElem?_getD,this];rfl
theorem Be (ts:List Tk) (en:Int) (s:PSt) (m:Mem) (hn:ts.length<=100000000):FnH Tryz.prog 32 [.box 0 0] (pH ts en s) m fun r H' m' =>r= .tup []/\m' =m/\H' =pH ts en (kA ts en s):=by
 refine aR aB Tryz.func32 ?_
 ·simp only[go_sem];refine⟨fun h=>by rw[kA,ah h],fun h=> ?_⟩;have h' :¬s.fl=true:=by rw[h];decide
  refine bO (.hoist 0 (.hoist 1 (.hoist 2 (.hoist 3 (.hoist 4 (.hoist 5 (.hoist 6 (.hoist 7 (.hoist 8 (.hoist 9 .done)))))))))) aB (by kernel_rfl) (by kernel_rfl) ?_;simp only[go_sem];refine⟨fun hi=> ?_,fun hi=> ?_⟩
  ·have tT:s.i<ts.length:=by omega
   have hc:=aeY tT;refine bO (.hoist 0 (.hoist 1 (.hoist 2 (.hoist 3 (.hoist 4 (.hoist 5 (.hoist 6 (.hoist 7 (.hoist 8 (.hoist 9 (.hoist 10 (.hoist 11 (.hoist 12 (.hoist 13 (.alt 14 [] .done .stop))))))))))))))) aB (by kernel_rfl) (by kernel_rfl) ?_;simp only[go_sem,hc];have hl:=BR ts;rw[kA,af h',ah tT];exact⟨⟨by omega,hi⟩,by omega,by omega,rfl⟩
  ·have tT:¬s.i<ts.length:=by omega
   rw[kA,af h',af tT]
def PSt.next (s:PSt):PSt:=⟨s.i+1,s.fl,s.off⟩
theorem bC {ts:List Tk} {i:Nat} {w:List UInt8} (h:bu ts i w=true):i<ts.length:=by
 by_cases hi:i<ts.length
 ·exact hi
 ·have e:fD ts i=zT:=by rw[fD,List.getD_eq_getElem?_getD,List.getElem?_eq_none (by omega)];rfl
  rw[bu,e] at h;simp [zT] at h
theorem uc (ts:List Tk) (en:Int) (s:PSt) (w:List UInt8) (m:Mem) (hn:ts.length<=100000000):FnH Tryz.prog 49 [.box 0 0,.v (.string (bs w))] (pH ts en s) m fun r H' m' =>ae m m' /\r= .v (.bool (bu ts s.i w))/\H' =pH ts en (if bu ts s.i w=true then s.next else s):=by
 have hp:=EC ts en s w m hn;have ay:=bC (ts:=ts) (i:=s.i) (w:=w);refine aR aB Tryz.func49 ?_
 ·simp only[go_sem];refine ab (hp.mono ?_);clear hp;rintro r H' m1 aN ⟨l1,rfl,rfl⟩;simp only[go_sem];refine⟨fun h=>⟨l1,?_⟩,fun h=> ?_⟩
  ·rw[h];exact⟨rfl,rfl⟩
  ·have hi:=ay h;rw[h];exact⟨by unfold aF;omega,l1,rfl,rfl⟩
theorem WC (ts:List Tk) (en:Int) (s:PSt) (w:List UInt8) (m:Mem) (hn:ts.length<=100000000):FnH Tryz.prog 52 [.box 0 0,.v (.string (bs w))] (pH ts en s) m fun r H' m' =>ae m m' /\r= .tup []/\H' =pH ts en (if bu ts s.i w=true then s.next else kA ts en s):=by
 have hp:=uc ts en s w m hn;have hf:=fun m' =>Be ts en s m' hn
 refine aR aB Tryz.func52 ?_
 ·simp only[go_sem];refine ab (hp.mono ?_);clear hp;rintro r H' m1 aN ⟨l1,rfl,rfl⟩;cases h:bu ts s.i w with
  |true=>
   clear hf;simp only[go_sem];exact l1
  |false=>
   simp only[go_sem];refine ab ((hf m1).mono ?_);clear hf;rintro r H' m2 aH ⟨rfl,rfl,rfl⟩;simp only[go_sem];exact l1
theorem ac8 {k:IntKind} {n:Int} {x:Value} (h:nU (.v (.int k n)) (.v x)=true):∃a,x= .int k a:=by
 cases x<;>simp only[nU] at h;case int k' a=>exact⟨a,by have:=of_decide_eq_true h;subst this;rfl⟩
 all_goals cases h
theorem ac7 {s:ByteArray} {x:Value} (h:nU (.v (.string s)) (.v x)=true):∃a,x= .string a:=by
 cases x<;>simp only[nU] at h;case string a=>exact⟨a,rfl⟩
 all_goals cases h
theorem eq_int {k:IntKind} {a:Int} {y:Value} {e:Bool} (h:nG (.v (.int k a)) (.v y)=some e):∃b,y= .int k b/\e=decide (a=b):=by
 cases y<;>simp only[nG] at h;case int k' b=>
  split at h
  ·rename_i hk;subst hk;exact⟨b,rfl,(Option.some.inj h).symm⟩
  ·cases h
 all_goals cases h
theorem aeU {a:ByteArray} {y:Value} {e:Bool} (h:nG (.v (.string a)) (.v y)=some e):∃b,y= .string b/\e=decide (tl a=tl b):=by
 cases y<;>simp only[nG] at h;case string b=>exact⟨b,rfl,(Option.some.inj h).symm⟩
 all_goals cases h
theorem Ej {z:SV} {zs:List SV} {xs:List Value} (h:jr (z::zs) (xs.map .v)=true):∃x r,xs=x::r/\nU z (.v x)=true/\jr zs (r.map .v)=true:=by
 cases xs with
 |nil=>simp [jr] at h
 |cons x r=>simp only[bN,jr,aD] at h;exact⟨x,r,rfl,h.1,h.2⟩
theorem EG {xs:List Value} (h:jr [] (xs.map .v)=true):xs=[]:=by
 cases xs with
 |nil=>rfl
 |cons x r=>simp [jr] at h
theorem HR {x:Value} {xs ys:List Value} {b:Bool} (h:ig ((x::xs).map .v) (ys.map .v)=some b):∃y r e e',ys=y::r/\nG (.v x) (.v y)=some e/\ig (xs.map .v) (r.map .v)=some e' /\b=(e&&e'):=by
 cases ys with
 |nil=>simp [ig] at h
 |cons y r=>
  simp only[bN,ig,Option.bind_eq_some_iff,Option.map_eq_some_iff] at h;obtain⟨e,he,e',sA,rfl⟩:=h;exact⟨y,r,e,e',rfl,he,sA,rfl⟩
theorem OP {ys:List Value} {b:Bool} (h:ig [] (ys.map .v)=some b):ys=[]/\b=true:=by
 cases ys with
 |nil=>simp only[List.map_nil,ig,dT] at h;exact⟨rfl,h.symm⟩
 |cons y r=>simp [ig] at h
def kindOk (P:Program) (t:TypeId):SV->Bool
 | .v (.int _ _)=>match P.underlying t with |some (.int _)=>true |_=>false
 | .v (.string _)=>match P.underlying t with |some .string=>true |_=>false
 | .v (.bool _)=>match P.underlying t with |some .bool=>true |_=>false
 |_=>false
def CV (P:Program):Nat->List SV->List Field->Bool
 |_,[],[]=>true
 |off,z::zs,f::fs=>f.name != "_" &&decide (f.offset=off)&&decide (eR P f.type=some none)&&kindOk P f.type z&&CV P (off+1) zs fs
 |_,_,_=>false
theorem Nk {P:Program} {t:TypeId} {z:SV} {x y:Value} {e:Bool} {w:World} (d:Nat) (hk:kindOk P t z=true) (hf:nU z (.v x)=true) (he:nG (.v x) (.v y)=some e):
  (Op.equalIn (d+1) t x y).run P w= .ok e w:=by
 cases z with
 |v z=>
  cases z with
  |int k n=>
   obtain⟨a,rfl⟩:=ac8 hf;obtain⟨b,rfl,rfl⟩:=eq_int he;simp only[kindOk] at hk;split at hk
   ·rename_i k' hu;rw[run_equalIn_int w d t k k' a b hu,Bool.beq_eq_decide_eq]
   ·cases hk
  |string n=>
   obtain⟨a,rfl⟩:=ac7 hf;obtain⟨b,rfl,rfl⟩:=aeU he;simp only[kindOk] at hk;split at hk
   ·rename_i hu;rw[run_equalIn_string w d t a b hu,zd,zd,Bool.beq_eq_decide_eq]
   ·cases hk
  |bool n=>
   cases x<;>simp only[nU] at hf;case bool a=>
    cases y<;>simp only[nG] at he;case bool b=>
     cases he;simp only[kindOk] at hk;split at hk
     ·rename_i hu;rw[run_equalIn_bool' w d t a b hu]
     ·cases hk
    all_goals cases he
   all_goals cases hf
  |_=>cases hk
 |_=>cases hk
theorem IC {P:Program} {d:Nat} {w:World} {cs ds:List Value}:∀{fs:List Field} {zs:List SV} {off:Nat} {us vs:List Value} {b:Bool},
  CV P off zs fs=true->jr zs (us.map .v)=true->ig (us.map .v) (vs.map .v)=some b->cs.drop off=us->ds.drop off=vs->(Op.eqFields (d+1) ⟨cs⟩ ⟨ds⟩ fs).run P w= .ok b w
 |[],zs,off,us,vs,b,h,hf,he,hu,hv=>by
  cases zs with
  |nil=>
   cases EG hf;rw[List.map_nil] at he;obtain⟨_,rfl⟩:=OP he;rfl
  |cons z zs=>cases h
 |f::fs,zs,off,us,vs,b,h,hf,he,hu,hv=>by
  cases zs with
  |nil=>cases h
  |cons z zs=>
   simp only[CV,aD,bt,bne_iff_ne] at h;obtain⟨⟨⟨⟨h1,h2⟩,h3⟩,h4⟩,h5⟩:=h;obtain⟨x,Lb,rfl,g1,g2⟩:=Ej hf;obtain⟨y,K0,e,e',rfl,g3,g4,rfl⟩:=HR he;have hx:cs[off]? =some x:=by
    have:=congrArg (fun l:List Value=>l[0]?) hu;simpa using this
   have hy:ds[off]? =some y:=by
    have:=congrArg (fun l:List Value=>l[0]?) hv;simpa using this
   have Di:cs.drop (off+1)=Lb:=by
    have:=congrArg (List.drop 1) hu;rw[List.drop_drop] at this;simpa [Nat.add_comm] using this
   have Lt:ds.drop (off+1)=K0:=by
    have:=congrArg (List.drop 1) hv;rw[List.drop_drop] at this;simpa [Nat.add_comm] using this
   subst h2;simp only[Op.eqFields,ah h1,Sem.run_bind,xf h3 (show _ from hx),xf h3 (show _ from hy),Result.andThen_ok,Nk d h4 g1 g3];cases e with
   |false=>simp
   |true=>
    simp only[Bool.not_true,Bool.false_eq_true,if_false,Bool.true_and];exact IC h5 g2 g4 Di Lt
theorem RH {P:Program} {t:TypeId} {zs:List SV} {fs:List Field} (hz:fB P t=some zs) (hg:P.eqGuardType P.depth t=false) (hu:P.underlying t=some (.struct (P.fieldsOf t))) (hp:P.stoodInHeld t=false)
  (pU:(P.fieldsOf t).toList=fs) (h:CV P 0 zs fs=true):vb P t:=by
 intro xs ys b w o o' op he hf;rw[hz] at hf;refine⟨run_eqGuard_agg w op t o o' _ _ hg,?_⟩;show(Op.equalIn (9999+1) t _ _).run _ w=_;rw[run_equalIn_struct w 9999 t _ _ hu hp,pU];exact IC (d:=9998) h hf he rfl rfl
theorem akS:eR Tryz.prog 4=some none:=by kernel_rfl
theorem sz4:bX Tryz.prog 4=1:=by kernel_rfl
theorem KX:eR Tryz.prog 30=some (some 3):=by kernel_rfl
theorem aib:bX Tryz.prog 30=3:=by kernel_rfl
theorem S9:fB Tryz.prog 30=some [.v (.int .i64 0),.v (.int .u8 0),.v (.string (bs []))]:=by kernel_rfl
theorem aeK:da Tryz.prog 30 0=some (0,none,1):=by kernel_rfl
theorem aeJ:da Tryz.prog 30 1=some (1,none,1):=by kernel_rfl
theorem aeI:da Tryz.prog 30 2=some (2,none,1):=by kernel_rfl
theorem akI:nO Tryz.prog 30=true:=by kernel_rfl
theorem qn:vb Tryz.prog 30:=RH S9 (by kernel_rfl) (by kernel_rfl) (by kernel_rfl) rfl (by kernel_rfl)
theorem akO:eR Tryz.prog 33=some (some 8):=by kernel_rfl
theorem szX:bX Tryz.prog 33=8:=by kernel_rfl
theorem ae9:fB Tryz.prog 33=some [.v (.int .i64 0),.v (.int .i64 0),.v (.string (bs [])),.v (.string (bs [])),.v (.int .i64 0),.v (.int .u8 0),.v (.string (bs [])),.v (.slice none 0 0)]:=by kernel_rfl
theorem aeH:da Tryz.prog 33 0=some (0,none,1):=by kernel_rfl
theorem aeG:da Tryz.prog 33 1=some (1,none,1):=by kernel_rfl
theorem aeF:da Tryz.prog 33 2=some (2,none,1):=by kernel_rfl
theorem aeE:da Tryz.prog 33 3=some (3,none,1):=by kernel_rfl
theorem aeD:da Tryz.prog 33 4=some (4,some 3,3):=by kernel_rfl
theorem aeC:da Tryz.prog 33 5=some (7,none,1):=by kernel_rfl
theorem akH:nO Tryz.prog 33=true:=by kernel_rfl
theorem ahK:eR Tryz.prog 31=some none:=by kernel_rfl
theorem aij:bX Tryz.prog 31=1:=by kernel_rfl
theorem akd:iP Tryz.prog 31=some 33:=by kernel_rfl
theorem ahJ:eR Tryz.prog 55=some none:=by kernel_rfl
theorem akP:eR Tryz.prog 165=some (some 5):=by kernel_rfl
theorem szS:bX Tryz.prog 165=5:=by kernel_rfl
theorem afa:fB Tryz.prog 165=some [.v (.bool false),.v (.bool false),.v (.bool false),.v (.int .i64 0),.v (.int .i64 0)]:=by kernel_rfl
theorem aeP:da Tryz.prog 165 0=some (0,none,1):=by kernel_rfl
theorem aeO:da Tryz.prog 165 1=some (1,none,1):=by kernel_rfl
theorem aeN:da Tryz.prog 165 2=some (2,none,1):=by kernel_rfl
theorem aeM:da Tryz.prog 165 3=some (3,none,1):=by kernel_rfl
theorem aeL:da Tryz.prog 165 4=some (4,none,1):=by kernel_rfl
theorem akJ:nO Tryz.prog 165=true:=by kernel_rfl
attribute [go_sem] akS sz4 KX aib S9 aeK aeJ aeI akI akO szX ae9 aeH aeG aeF aeE aeD aeC akH ahK aij akd ahJ akP szS afa aeP aeO aeN aeM aeL akJ
def eI:List UInt8:=[60,105,110,105,116,62]
def zD:List UInt8:=[60,99,108,105,110,105,116,62]
def py (s:List UInt8):Bool:=decide (s=eI)||decide (s=zD)||(fJ s&&decide (Lib.indexByte s 47<0))
def dn (s:List UInt8):Bool:=py s&&decide (s.getD 0 0≠60)&& !dd s&& !gw.contains s
theorem Xz (s:List UInt8) (m:Mem) (hs:BL s):FnH Tryz.prog 208 [.v (.string (bs s))] ⟨[],[]⟩ m fun r H' _=>r= .v (.bool (py s))/\H' =⟨[],[]⟩:=by
 refine aR rW Tryz.func208 ?_
 ·simp only[go_sem];refine⟨fun h=> ?_,fun h=>⟨hs,fun h1=>ab ((My s 47 m).mono ?_),fun h1=> ?_⟩⟩
  ·simp only[py,eI,zD];rcases h with h |h<;>simp [h]
  ·rintro r H' m' hm ⟨rfl,rfl⟩;simp only[go_sem];have h2:=h.1;have h3:=h.2;simp [py,eI,zD,h1,h2,h3]
  ·have h2:=h.1;have h3:=h.2;simp [py,eI,zD,h1,h2,h3]
abbrev cfM:Cfg:=gC (fun _=>false) [(208,fr BL fun s=> .bool (py s)),(192,fr BL fun s=> .bool (fJ s)),(134,fr BL fun s=> .bool (dd s))]
theorem Uw:dt cfM Tryz.prog:=pure_cons (by kernel_rfl) (fL Xz) (pure_cons (by kernel_rfl) (fL Hv) (pure_cons (by kernel_rfl) (fL A5) pure_nil))
theorem P4 {s:List UInt8} (h:py s=true):0<s.length:=by
 cases s with
 |nil=>simp [py,eI,zD,fJ,eA] at h
 |cons a r=>simp
theorem HO (s:List UInt8) (m:Mem) (hs:BL s):FnH Tryz.prog 155 [.v (.string (bs s))] ⟨[],[]⟩ m fun r H' _=>r= .v (.bool (dn s))/\H' =⟨[],[]⟩:=by
 refine aR Uw Tryz.func155 ?_
 ·simp only[go_sem];have e:∀u:UInt8,((u.toNat:Int)=60)=(u=60):=fun u=>propext ⟨fun h=>UInt8.toNat_inj.1 (by have:(60:UInt8).toNat=60:=rfl;omega),fun h=>by rw[h];rfl⟩
  simp only[e];refine⟨hs,fun h=>⟨by omega,by have:=P4 h;omega⟩,fun _=>hs,fun h=>ab ((He m).mono ?_),fun h=> ?_⟩
  ·rintro r H' m' hm ⟨rfl,rfl,rfl⟩;simp only[go_sem];refine⟨by kernel_rfl,fun a c m1 aN hc bU=>bo ((yP gw s a 28 c m1 bU (by omega)).mono ?_)⟩;rintro r H' m' aH ⟨rfl,rfl⟩;have h1:=h.1.1;have h2:=h.1.2;have h3:=h.2;generalize hb:gw.contains s=kb
   simp only[go_sem];rw[dn,h1,h3,hb,eF h2];rfl
  ·rw[dn];rcases h with (h |h) |h
   ·simp [h]
   ·have:decide (s.getD 0 0≠60)=false:=by rw[h];rfl
    rw[this];simp
   ·simp [h]
def o7 (d b:Int) (s:List UInt8):Bool:=if d<0\/8<d then false else if b=73\/b=74 then decide (s=[]) else if b=86 then decide (d=0)&&decide (s=[]) else if b=76 then fJ s else false
def dw (d b:Int) (s:List UInt8):Bool:=o7 d b s&&decide (b≠86)&&(decide (b≠76)||dd s)
def rX (F:Int->Int->List UInt8->Bool):List Value->Option (Prop×Value)
 |[.agg ⟨[.int .i64 d,.int .u8 b,.string s]⟩]=>some (BL (tl s),.bool (F d b (tl s)))
 |_=>none
attribute [go_sem] rX.eq_1
theorem vI {P:Program} {f:FuncId} {F:Int->Int->List UInt8->Bool} (h:∀d b a m,BL a->FnH P f [.v (.agg ⟨[.int .i64 d,.int .u8 b,.string (bs a)]⟩)] ⟨[],[]⟩ m fun r H' _=>r= .v (.bool (F d b a))/\H' =⟨[],[]⟩):qp P f (rX F):=fun fe y hy hB m=>by
 unfold rX at hy;split at hy
 ·rename_i d b a;cases hy;have:=h d b (tl a) m hB;rwa [oG] at this
 ·cases hy
theorem WN (d b:Int) (s:List UInt8) (m:Mem) (hs:BL s):FnH Tryz.prog 211 [.v (.agg ⟨[.int .i64 d,.int .u8 b,.string (bs s)]⟩)] ⟨[],[]⟩ m fun r H' _=>r= .v (.bool (o7 d b s))/\H' =⟨[],[]⟩:=by
 refine aR Uw Tryz.func211 ?_
 ·simp only[go_sem];refine⟨fun h=>by simp only[o7,ah h],fun h=> ?_⟩;have h0:¬(d<0\/8<d):=fun h' =>h'.elim h.1 h.2
  simp only[o7,af h0];refine⟨fun h1=> ?_,fun h1=> ?_⟩
  ·simp [h1]
  ·refine⟨fun h2=>by simp [h2],fun h2=> ?_⟩;refine⟨fun h3=>by simp [h3],fun h3=>⟨fun h4=>⟨hs,by simp [h4]⟩,fun h4=>by simp [h1,h2,h3,h4]⟩⟩
abbrev cfT:Cfg:=gC (fun _=>false) [(211,rX o7),(134,fr BL fun s=> .bool (dd s))]
theorem puT:dt cfT Tryz.prog:=pure_cons (by kernel_rfl) (vI WN) (pure_cons (by kernel_rfl) (fL A5) pure_nil)
theorem HD (d b:Int) (s:List UInt8) (m:Mem) (hs:BL s):FnH Tryz.prog 157 [.v (.agg ⟨[.int .i64 d,.int .u8 b,.string (bs s)]⟩)] ⟨[],[]⟩ m fun r H' _=>r= .v (.bool (dw d b s))/\H' =⟨[],[]⟩:=by
 refine aR puT Tryz.func157 ?_
 ·simp only[go_sem];refine⟨hs,fun _=>hs,?_⟩;simp [dw]
def pn (c:UInt8):Bool:=decide (c.toNat=10)||(decide (32<=c.toNat)&&decide (c.toNat<=126))
def nC (s:List UInt8):Bool:=s.all pn&&decide (s.length<=1024)
theorem Xh (s:List UInt8) (m:Mem) (hs:BL s):FnH Tryz.prog 210 [.v (.string (bs s))] ⟨[],[]⟩ m fun r H' _=>r= .v (.bool (nC s))/\H' =⟨[],[]⟩:=by
 refine aR qD Tryz.func210 ?_
 ·simp only[go_sem];refine du qD (fun k:Nat=>⟨[⟨0,[],.v (.string (bs s))⟩,⟨6,[],.v (.int .i64 s.length)⟩,⟨7,[],.v (.int .i64 k)⟩],[],[],[],0,m⟩)
   (fun k=>k<=s.length/\(s.take k).all pn=true) (fun k=>s.length - k) 0 (fun _ _=>au _) (fun _ _=> .inl rfl) ?_ ?_ ?_
  ·simp only[go_sem];rfl
  ·simp
  ·rintro k ⟨hk,hp⟩;simp only[go_sem];refine⟨fun ay=> ?_,fun cg=> ?_⟩
   ·have cB:k<s.length:=by omega
    have hd:=drop_at cB;refine⟨⟨by omega,ay⟩,fun h=> ?_,fun h=>⟨by unfold aF;have:s.length<=4611686018427387904:=hs;omega,k+1,by omega,⟨by omega,?_⟩,by omega⟩⟩
    ·have hb:pn (s.getD k 0)=false:=by
      simp only[pn,Bool.or_eq_false_iff,Bool.and_eq_false_iff,decide_eq_false_iff_not];exact⟨by omega,by omega⟩
     have:s.all pn=false:=by
      rw[<- List.take_append_drop k s,List.all_append,hd,List.all_cons,hb];simp
     rw[nC,this,Bool.false_and]
    ·have hb:pn (s.getD k 0)=true:=by
      simp only[pn,Bool.or_eq_true,aD,bt];omega
     rw[List.take_succ_eq_append_getElem cB,List.all_append,hp,List.all_cons];have e:s.getD k 0=s[k]:=by rw[List.getD_eq_getElem?_getD,List.getElem?_eq_getElem cB];rfl
     rw[e] at hb;simp [hb]
   ·rw[fi (by omega)] at hp;rw[nC,hp,Bool.true_and,decide_eq_decide];omega
def eP (k:Int):Bool×Bool×Bool×Int×Int:=
 if k=6 then(true,false,false,0,0)
 else if k=7 then(true,false,false,1,1)
 else if k=8 then(true,true,false,0,0)
 else if k=9\/k=16 then(false,false,false,2,2)
 else if k=10 then(true,false,false,1,17)
 else if k=11 then(true,true,false,0,16)
 else if k=12 then(true,false,false,0,16)
 else if k=13 then(false,true,false,0,16)
 else if k=14\/k=17\/k=18 then(false,false,true,1,1)
 else if k=15\/k=19\/k=20\/k=21 then(false,false,false,1,1)
 else(false,false,false,0,0)
def isKind (k:Int):Bool:=decide (1<=k)&&decide (k<=21)
theorem kinds {k:Int} (h:isKind k=true):k=1\/k=2\/k=3\/k=4\/k=5\/k=6\/k=7\/k=8\/k=9\/k=10\/k=11\/k=12\/k=13\/k=14\/k=15\/k=16\/k=17\/k=18\/k=19\/k=20\/k=21:=by
 simp only[isKind,aD,bt] at h;omega
theorem WW (k:Int) (m:Mem):FnH Tryz.prog 154 [.v (.int .i64 k)] ⟨[],[]⟩ m fun r H' m' =>m' =m/\H' =⟨[],[]⟩/\r= .tup [.agg [.v (.bool (eP k).1),.v (.bool (eP k).2.1),.v (.bool (eP k).2.2.1),.v (.int .i64 (eP k).2.2.2.1),.v (.int .i64 (eP k).2.2.2.2)],.v (.bool (isKind k))]:=by
 refine aR qD Tryz.func154 ?_
 ·cases hk:isKind k with
  |true=>
   rcases kinds hk with h |h |h |h |h |h |h |h |h |h |h |h |h |h |h |h |h |h |h |h |h<;>subst h<;>simp only[go_sem,eP,Int.reduceEq,ao,aq]
  |false=>
   have fm:¬(1<=k/\k<=21):=by simpa [isKind] using hk
   have e:∀j:Int,1<=j->j<=21->(k=j)=False:=fun j h1 h2=>eq_false fun h=>fm (h▸⟨h1,h2⟩)
   have e1:=e 1 (by decide) (by decide);have e2:=e 2 (by decide) (by decide);have e3:=e 3 (by decide) (by decide);have e4:=e 4 (by decide) (by decide);have e5:=e 5 (by decide) (by decide);have e6:=e 6 (by decide) (by decide);have e7:=e 7 (by decide) (by decide);have e8:=e 8 (by decide) (by decide);have e9:=e 9 (by decide) (by decide);have jc:=e 10 (by decide) (by decide);have lW:=e 11 (by decide) (by decide);have Mn:=e 12 (by decide) (by decide);have Mm:=e 13 (by decide) (by decide);have Ml:=e 14 (by decide) (by decide);have Mk:=e 15 (by decide) (by decide);have Mj:=e 16 (by decide) (by decide);have Mi:=e 17 (by decide) (by decide);have Mh:=e 18 (by decide) (by decide);have Mg:=e 19 (by decide) (by decide);have Mf:=e 20 (by decide) (by decide);have Me:=e 21 (by decide) (by decide);simp only[go_sem,eP,e1,e2,e3,e4,e5,e6,e7,e8,e9,jc,lW,Mn,Mm,Ml,Mk,Mj,Mi,Mh,Mg,Mf,Me,aq]
def nR (k n:Int) (s:List UInt8):Bool:=
 if k=1 then decide (0<=n)&&decide (n<=2147483647)&&decide (s=[])
 else if k=2 then decide (0<=n)&&decide (s=[])
 else if k=3 then decide (n=0)&&nC s
 else if k=15 then decide (n=0)&&(decide (s=[45])||decide (s=[33]))
 else if k=16 then decide (n=0)&&opsL.contains s
 else decide (n=0)&&decide (s=[])
abbrev cfP:Cfg:=gC (fun _=>false) [(210,fr BL fun s=> .bool (nC s))]
theorem puP:dt cfP Tryz.prog:=pure_cons (by kernel_rfl) (fL Xh) pure_nil
theorem aaf (k n:Int) (s c:List UInt8) (d b:Int) (nm:List UInt8) (sl:Value) (m:Mem) (hg:Glob m) (hs:BL s):
  FnH Tryz.prog 156 [.v (.agg ⟨[.int .i64 k,.int .i64 n,.string (bs s),.string (bs c),.int .i64 d,.int .u8 b,.string (bs nm),sl]⟩)] ⟨[],[]⟩ m fun r H' m' =>ae m m' /\H' =⟨[],[]⟩/\r= .v (.bool (nR k n s)):=by
 refine aR puP Tryz.func156 ?_
 ·simp only[go_sem];refine⟨fun h=>by simp only[nR,ah h],fun h1=>⟨fun h=>by simp only[nR,af h1,ah h],fun h2=>⟨fun h=>⟨fun _=>hs,by simp only[nR,af h1,af h2,ah h]⟩,fun h3=>⟨fun h=>by simp only[nR,af h1,af h2,af h3,ah h],fun h4=>⟨fun h=> ?_,fun h=>by simp only[nR,af h1,af h2,af h3,af h4,af h]⟩⟩⟩⟩⟩;have wQ:=hg.2;refine wQ.elim fun ad wQ=>wQ.elim fun cp wQ=>⟨.slice (some ad) 19 cp,fun _=>wQ.1,fun hn=>ab ((yP opsL s (some ad) 19 cp m wQ.2.2 (by omega)).mono ?_),fun hn=> ?_⟩
  ·rintro r H' m' hm ⟨rfl,rfl⟩;simp only[go_sem];refine⟨.inr hm,?_⟩;simp only[nR,af h1,af h2,af h3,af h4,ah h,eF hn,Bool.true_and]
  ·simp only[nR,af h1,af h2,af h3,af h4,ah h,di hn,Bool.false_and]
def mu (k n:Int) (s c:List UInt8) (d b:Int) (nm:List UInt8) (l:Nat):Bool:=
 isKind k&&decide ((eP k).2.2.2.1<=l)&&decide (l<=(eP k).2.2.2.2)&&(if(eP k).1=true then dn s&&decide (n=0) else nR k n s)&&(if(eP k).2.1=true then dd c else decide (c=[]))
  &&(if(eP k).2.2.1=true then dw d b nm&&(decide (k≠14)||decide (d<8)) else decide (d=0)&&decide (b=0)&&decide (nm=[]))
abbrev pX:Cfg:=gC (fun _=>false) [(155,fr BL fun s=> .bool (dn s)),(157,rX dw),(134,fr BL fun s=> .bool (dd s))]
theorem pP:dt pX Tryz.prog:=pure_cons (by kernel_rfl) (fL HO) (pure_cons (by kernel_rfl) (vI HD) (pure_cons (by kernel_rfl) (fL A5) pure_nil))
theorem aQ {P:Program} {f:FuncId} {args jT:List SV} {H:Hp} {m:Mem} {R:SV->Hp->Mem->Prop} (h:FnH P f args H m R) (e:∀V,jT.map (den V)=args.map (den V)):FnH P f jT H m R:=
 fun V w D h1 h2 h3=>by rw[e V];exact h V w D h1 h2 h3
theorem Yt (k n:Int) (s c:List UInt8) (d b:Int) (nm:List UInt8) (a:Option Addr) (l cp:Nat) (m:Mem) (hg:Glob m) (hs:BL s) (hc:BL c) (hn:BL nm):
  FnH Tryz.prog 64 [.v (.agg ⟨[.int .i64 k,.int .i64 n,.string (bs s),.string (bs c),.int .i64 d,.int .u8 b,.string (bs nm),.slice a l cp]⟩)] ⟨[],[]⟩ m fun r H' m' =>ae m m' /\H' =⟨[],[]⟩/\r= .v (.bool (mu k n s c d b nm l)):=by
 refine aR pP Tryz.func64 ?_
 ·simp only[go_sem];refine ab (((WW k m).mono (R' :=fun r H' m' =>m' =m/\H' =⟨[],[]⟩/\∃i cl ty lo hi,eP k=(i,cl,ty,lo,hi)/\r= .tup [.agg [.v (.bool i),.v (.bool cl),.v (.bool ty),.v (.int .i64 lo),.v (.int .i64 hi)],.v (.bool (isKind k))]) fun r H' m' hm h=>⟨h.1,h.2.1,_,_,_,_,_,rfl,h.2.2⟩).mono ?_);rintro r H' m' hm ⟨rfl,rfl,i,cl,ty,lo,hi,Dj,rfl⟩;simp only[go_sem,qn];have Lz:∀x:Bool,(isKind k=false\/(l:Int)<lo)\/hi<(l:Int)->false=(isKind k&&decide (lo<=(l:Int))&&decide ((l:Int)<=hi)&&x):=fun x h=>by
   rcases h with (h |h) |h
   ·simp [h]
   ·rw[di (by omega:¬lo<=(l:Int))];simp
   ·rw[di (by omega:¬(l:Int)<=hi)];simp
  have hN:mu k n s c d b nm l=(isKind k&&decide (lo<=(l:Int))&&decide ((l:Int)<=hi)&&(if i=true then dn s&&decide (n=0) else nR k n s)&&(if cl=true then dd c else decide (c=[]))
    &&(if ty=true then dw d b nm&&(decide (k≠14)||decide (d<8)) else decide (d=0)&&decide (b=0)&&decide (nm=[]))):=by simp only[mu,Dj]
  refine⟨fun h=> ?_,fun h=> ?_⟩
  ·rw[hN,Bool.and_assoc,Bool.and_assoc];exact Lz _ h
  ·have e1:=h.1.1;have e2:decide (lo<=(l:Int))=true:=eF (by have:=h.1.2;omega);have e3:decide ((l:Int)<=hi)=true:=eF (by have:=h.2;omega);have hM:mu k n s c d b nm l=((if i=true then dn s&&decide (n=0) else nR k n s)&&(if cl=true then dd c else decide (c=[]))&&(if ty=true then dw d b nm&&(decide (k≠14)||decide (d<8)) else decide (d=0)&&decide (b=0)&&decide (nm=[]))):=by
    rw[hN,e1,e2,e3];simp only[Bool.true_and]
   refine⟨fun hi=>⟨hs,fun cH=>⟨fun _=>hc,fun ht=>⟨fun _=>hn,by rw[hM];simp [hi,cH,ht,Bool.and_assoc]⟩,fun ht=>by rw[hM];simp [hi,cH,ht,Bool.and_assoc]⟩,fun cH=>⟨fun ht=>⟨fun _=>hn,by rw[hM];simp [hi,cH,ht,Bool.and_assoc]⟩,fun ht=>by rw[hM];simp [hi,cH,ht,Bool.and_assoc]⟩⟩,fun hi=>ab ((aQ (aaf k n s c d b nm (.slice a l cp) m' hg hs) (fun V=>rfl)).mono ?_)⟩;rintro r H' m2 aH ⟨hle,rfl,rfl⟩;simp only[go_sem,qn];exact⟨fun cH=>⟨fun _=>hc,fun ht=>⟨fun _=>hn,hle,by rw[hM];simp [hi,cH,ht,Bool.and_assoc]⟩,fun ht=>⟨hle,by rw[hM];simp [hi,cH,ht,Bool.and_assoc]⟩⟩,fun cH=>⟨fun ht=>⟨fun _=>hn,hle,by rw[hM];simp [hi,cH,ht,Bool.and_assoc]⟩,fun ht=>⟨hle,by rw[hM];simp [hi,cH,ht,Bool.and_assoc]⟩⟩⟩
structure Ty where
 dim:Int
 base:Int
 name:List UInt8
inductive Ex where
 |mk (k n:Int) (s c:List UInt8) (ty:Ty) (args:List Ex)
inductive St where
 |mk (k:Int) (name:List UInt8) (ty:Ty) (tg ex:Ex) (body alt:List St)
abbrev av:Nat:=2000000
def nY (t:Ty):Prop:=aF t.dim/\(0<=t.base/\t.base<256)/\t.name.length<=av
def aK (k n:Int) (s c:List UInt8) (ty:Ty) (sl:Value):List Value:=[.int .i64 k,.int .i64 n,.string (bs s),.string (bs c),.int .i64 ty.dim,.int .u8 ty.base,.string (bs ty.name),sl]
def Us (k n:Int) (s c:List UInt8) (ty:Ty) (l:Nat):Prop:=aF k/\aF n/\s.length<=av/\c.length<=av/\nY ty/\l<=av
mutual
def bJ (m:Mem):Ex->List Value->Prop
 | .mk k n s c ty args,cs=>∃a cp xs,cs=aK k n s c ty (.slice a args.length cp)/\args.length<=cp/\aZ m a args.length 8 xs/\Us k n s c ty args.length/\dY m args xs
def dY (m:Mem):List Ex->List Value->Prop
 |[],_=>True
 |e::r,xs=>bJ m e (xs.take 8)/\dY m r (xs.drop 8)
end
theorem rv {m:Mem}:∀{l:List Ex} {xs:List Value} {i:Nat} (_:dY m l xs) (hi:i<l.length),bJ m l[i] ((xs.drop (i * 8)).take 8)
 |[],_,_,_,hi=>absurd hi (Nat.not_lt_zero _)
 |e::r,xs,0,h,_=>by simp only[dY] at h;simpa using h.1
 |e::r,xs,i+1,h,hi=>by
  simp only[dY] at h;have:=rv (i:=i) h.2 (by simpa using hi);rw[List.drop_drop] at this;rw[show(i+1) * 8=8+i * 8 by omega];exact this
mutual
theorem EI {m m' :Mem} (hle:m.le m'):∀(e:Ex) (cs:List Value),bJ m e cs->bJ m' e cs
 | .mk k n s c ty args,cs,h=>by
  simp only[bJ] at h ⊢;obtain⟨a,cp,xs,h1,h2,h3,h4,h5⟩:=h;exact⟨a,cp,xs,h1,h2,zS hle h3,h4,Ek hle args xs h5⟩
theorem Ek {m m' :Mem} (hle:m.le m'):∀(l:List Ex) (xs:List Value),dY m l xs->dY m' l xs
 |[],_,_=>by simp only[dY]
 |e::r,xs,h=>by
  simp only[dY] at h ⊢;exact⟨EI hle e _ h.1,Ek hle r _ h.2⟩
end
mutual
def b6:Ex->Nat
 | .mk _ _ _ _ _ args=>kN args+1
def kN:List Ex->Nat
 |[]=>0
 |e::r=>max (b6 e) (kN r)
end
theorem zh:∀{l:List Ex} {i:Nat} (hi:i<l.length),b6 l[i]<=kN l
 |[],_,hi=>absurd hi (Nat.not_lt_zero _)
 |e::r,0,_=>by simp only[kN];exact Nat.le_max_left _ _
 |e::r,i+1,hi=>by
  have:=zh (l:=r) (i:=i) (by simpa using hi);simp only[kN];exact cZ this (Nat.le_max_right _ _)
theorem Ea:∀{l:List Ex} {i:Nat} (hi:i<l.length),kN (l.take (i+1))=max (kN (l.take i)) (b6 l[i])
 |[],_,hi=>absurd hi (Nat.not_lt_zero _)
 |e::r,0,_=>by simp [kN]
 |e::r,i+1,hi=>by
  have:=Ea (l:=r) (i:=i) (by simpa using hi);simp only[List.take_succ_cons,kN,this];rw[List.getElem_cons_succ,Nat.max_assoc]
def aJ (f:FuncId) (args:List SV) (m:Mem) (v:Value):Prop:=FnH Tryz.prog f args ⟨[],[]⟩ m fun r H' m' =>ae m m' /\H' =⟨[],[]⟩/\r= .v v
theorem Zy {α:Type} {l:List α} {B:α->Bool} {k:Nat} (h:k<l.length):(l.take (k+1)).any B=((l.take k).any B||B l[k]):=by
 rw[List.take_succ_eq_append_getElem h,List.any_append];simp
theorem Glob.upM {m m' :Mem} (h:Glob m) (hm:ae m m'):Glob m' :=by
 rcases hm with rfl |hm
 ·exact h
 ·exact h.up hm
theorem bw {m m' :Mem} {e:Ex} {cs:List Value} (hle:ae m m') (h:bJ m e cs):bJ m' e cs:=by
 rcases hle with rfl |hle
 ·exact h
 ·exact EI hle e cs h
theorem uh {m m' :Mem} {l:List Ex} {cs:List Value} (hle:ae m m') (h:dY m l cs):dY m' l cs:=by
 rcases hle with rfl |hle
 ·exact h
 ·exact Ek hle l cs h
theorem ax {m m' :Mem} {a:Option Addr} {n sz:Nat} {xs:List Value} (hle:ae m m') (h:aZ m a n sz xs):aZ m' a n sz xs:=by
 rcases hle with rfl |hle
 ·exact h
 ·exact zS hle h
theorem aa {m m' kq:Mem} (h:ae m m') (h' :ae m' kq):ae m kq:=by
 rcases h with rfl |h
 ·exact h'
 ·rcases h' with rfl |h'
  ·exact .inr h
  ·exact .inr (Mem.le_trans h h')
theorem WA (f:FuncId) (B:Ex->Bool) (l:List Ex) (a:Option Addr) (n c:Nat) (xs:List Value) (m:Mem) (hl:l.length=n) (hr:aZ m a n 8 xs) (he:dY m l xs) (hn:n<=av) (ar:iY Tryz.prog f=true)
  (hf:∀i (hi:i<l.length) cs m',ae m m' ->bJ m' l[i] cs->aJ f [.v (.agg ⟨cs⟩)] m' (.bool (B l[i]))):
  FnH Tryz.prog 158 [.v (.slice a n c),.v (.func (.func f) ⟨[]⟩ ⟨[]⟩)] ⟨[],[]⟩ m fun r H' m' =>ae m m' /\H' =⟨[],[]⟩/\∃i:Int,r= .v (.int .i64 i)/\decide (0<=i)=l.any B:=by
 refine aR aB Tryz.func158 ?_
 ·simp only[go_sem];refine du aB (fun x:Nat×Mem=>⟨[⟨0,[],.v (.slice a n c)⟩,⟨1,[],.v (.func (.func f) ⟨[]⟩ ⟨[]⟩)⟩,⟨7,[],.v (.int .i64 n)⟩,⟨8,[],.v (.int .i64 x.1)⟩],[],[],[],0,x.2⟩)
   (fun x=>ae m x.2/\x.1<=n/\(l.take x.1).any B=false) (fun x=>n - x.1) (0,m) (fun _ _=>au _) (fun x hx=>hx.1) ?_ ?_ ?_
  ·simp only[go_sem];rfl
  ·exact⟨.inl rfl,aG _,rfl⟩
  ·rintro⟨k,mm⟩ ⟨h1,h2,h3⟩;simp only at h1 h2 h3;have ej:gP.own f=false:=rfl;have UP:∀(hk:k<n),Rd mm (cM a (k * 8)) ((xs.drop (k * 8)).take 8)/\a≠none:=fun hk=>dA (ax h1 hr) hk
   have Dp:∀(hk:k<n),((xs.drop (k * 8)).take 8).length=8:=fun hk=>by
    have:=hr.1;have hm:(k+1) * 8<=n * 8:=Nat.mul_le_mul_right _ hk;rw[List.length_take,dI];omega
   simp only[go_sem,ej];refine⟨fun ay=> ?_,fun cg=>⟨h1,?_⟩⟩
   ·have hk:k<n:=by clear hf;omega
    have cB:k<l.length:=by clear hf;omega
    refine⟨⟨by clear hf;omega,ay,(UP hk).2⟩,_,⟨(UP hk).1,Dp hk⟩,ar,bo ((hf k cB _ mm h1 (bw h1 (rv he cB))).mono ?_)⟩;clear hf;rintro r H' m' hm ⟨hle,rfl,rfl⟩;simp only[go_sem];refine⟨fun hb=>⟨aa h1 hle,?_⟩,fun hb=>⟨by unfold aF;simp only[av] at hn;omega,(k+1,m'),⟨by simp,.inl rfl⟩,⟨aa h1 hle,by simp only;omega,?_⟩,by simp only;omega⟩⟩
    ·have:l.any B=true:=List.any_eq_true.2 ⟨_,List.getElem_mem cB,hb⟩;rw[this];simp
    ·simp only;rw[Zy cB,h3,hb];rfl
   ·rw[fi (by clear hf;omega)] at h3;rw[h3];rfl
theorem Mz (f:FuncId) (B:Ex->Bool) (l:List Ex) (a:Option Addr) (n c:Nat) (xs:List Value) (m:Mem) (hl:l.length=n) (hr:aZ m a n 8 xs) (he:dY m l xs) (hn:n<=av) (ar:iY Tryz.prog f=true)
  (hf:∀i (hi:i<l.length) cs m',ae m m' ->bJ m' l[i] cs->aJ f [.v (.agg ⟨cs⟩)] m' (.bool (B l[i]))):
  aJ 65 [.v (.slice a n c),.v (.func (.func f) ⟨[]⟩ ⟨[]⟩)] m (.bool (l.any B)):=by
 refine aR aB Tryz.func65 ?_
 ·simp only[go_sem];refine ab ((WA f B l a n c xs m hl hr he hn ar hf).mono ?_);clear hf;rintro r H' m' hm ⟨hle,rfl,i,rfl,hi⟩;simp only[go_sem];exact⟨hle,hi⟩
mutual
def bG:Ex->Bool
 | .mk k n s c ty args=>mu k n s c ty.dim ty.base ty.name args.length&&gg args
def gg:List Ex->Bool
 |[]=>true
 |e::r=>bG e&&gg r
end
theorem Hj:∀(l:List Ex),(!l.any fun e=> !bG e)=gg l
 |[]=>rfl
 |e::r=>by
  simp only[List.any_cons,gg,<- Hj r];cases bG e<;>simp
theorem p6:∀(h:Nat) (e:Ex) (cs:List Value) (m:Mem),b6 e<=h->Glob m->bJ m e cs->aJ 33 [.v (.agg ⟨cs⟩)] m (.bool (bG e))
 |0,.mk k n s c ty args,cs,m,hd,_,_=>by simp [b6] at hd
 |h+1,.mk k n s c ty args,cs,m,hd,hg,he=>by
  simp only[bJ] at he;obtain⟨a,cp,xs,rfl,bg,hr,ar,eE⟩:=he;have hn:=ar.2.2.2.2.2;simp only[b6] at hd;have hf:∀i (hi:i<args.length) cs m',ae m m' ->bJ m' args[i] cs->aJ 66 [.v (.agg ⟨cs⟩)] m' (.bool (!bG args[i])):=fun i hi cs m' hle aT=>by
   have hlen:∃c0 c1 c2 c3 c4 c5 c6 c7,cs=[c0,c1,c2,c3,c4,c5,c6,c7]:=by
    cases rA:args[i] with
    |mk k n s c ty args=>
     rw[rA] at aT;simp only[bJ] at aT;obtain⟨a,cp,xs,rfl,_⟩:=aT;exact⟨_,_,_,_,_,_,_,_,rfl⟩
   have ih:=p6 h args[i] cs m' (by have:=zh hi;omega) (hg.upM hle) aT;obtain⟨c0,c1,c2,c3,c4,c5,c6,c7,rfl⟩:=hlen;refine aR aB Tryz.func66 ?_
   ·simp only[go_sem];refine ab ((aQ ih (fun V=>rfl)).mono ?_);rintro r H' m2 aH ⟨aY,rfl,rfl⟩;simp only[go_sem];exact aY
  have hv:=fun m' (hm:ae m m')=>Mz 66 (fun e=> !bG e) args a args.length cp xs m' rfl (ax hm hr) (uh hm eE) hn (by kernel_rfl) (fun i hi cs m2 hle=>hf i hi cs m2 (aa hm hle))
  have agJ:=Yt k n s c ty.dim ty.base ty.name a args.length cp m hg (cZ ar.2.2.1 (by decide)) (cZ ar.2.2.2.1 (by decide)) (cZ ar.2.2.2.2.1.2.2 (by decide));clear hf;refine enter gP aB Tryz.func33 rfl rfl (by kernel_rfl) rfl ?_ ?_
  ·simp only[go_sem,aK]
  ·simp only[go_sem,aK];refine ab ((aQ agJ (fun V=>rfl)).mono ?_);rintro r H' m2 aH ⟨hle,rfl,rfl⟩;simp only[go_sem];refine⟨fun hb=>ab ((hv m2 hle).mono ?_),fun hb=>⟨hle,?_⟩⟩
   ·clear hv;rintro r H' m3 bI ⟨lx,rfl,rfl⟩;simp only[go_sem];refine⟨aa hle lx,?_⟩;rw[Hj,bG,hb,Bool.true_and]
   ·rw[bG,hb,Bool.false_and]
structure Nd where
 k:Int
 n:Int
 s:List UInt8
 c:List UInt8
 ty:Ty
 a:Option Addr
 l:Nat
 cp:Nat
def Nd.cs (x:Nd):List Value:=[.int .i64 x.k,.int .i64 x.n,.string (bs x.s),.string (bs x.c),.int .i64 x.ty.dim,.int .u8 x.ty.base,.string (bs x.ty.name),.slice x.a x.l x.cp]
theorem o5 {m:Mem} {e:Ex} {cs:List Value} (h:bJ m e cs):∃x:Nd,cs=x.cs:=by
 cases e with
 |mk k n s c ty args=>
  simp only[bJ] at h;obtain⟨a,cp,xs,rfl,_⟩:=h;exact⟨⟨k,n,s,c,ty,a,args.length,cp⟩,rfl⟩
theorem Bi:∀(h:Nat) (e:Ex) (cs:List Value) (m:Mem),b6 e<=h->h<=av->bJ m e cs->aJ 34 [.v (.agg ⟨cs⟩)] m (.int .i64 (b6 e))
 |0,.mk k n s c ty args,cs,m,hd,_,_=>by simp [b6] at hd
 |h+1,.mk k n s c ty args,cs,m,hd,hb,he=>by
  simp only[bJ] at he;obtain⟨a,cp,xs,rfl,bg,hr,ar,eE⟩:=he;have hn:=ar.2.2.2.2.2;simp only[b6] at hd;refine enter gP aB Tryz.func34 rfl rfl (by kernel_rfl) rfl ?_ ?_
  ·simp only[go_sem,aK]
  ·simp only[go_sem,aK];refine du aB (fun x:Nat×Mem=>⟨[⟨3,[],.v (.int .i64 (kN (args.take x.1)))⟩,⟨7,[],.v (.slice a args.length cp)⟩,⟨8,[],.v (.int .i64 args.length)⟩,⟨9,[],.v (.int .i64 x.1)⟩],[],[],[],1,x.2⟩)
    (fun x=>ae m x.2/\x.1<=args.length) (fun x=>args.length - x.1) (0,m) (fun _ _=>au _) (fun x hx=>hx.1) ?_ ?_ ?_
   ·simp only[go_sem];exact⟨rfl,rfl⟩
   ·exact⟨.inl rfl,aG _⟩
   ·rintro⟨i,mm⟩ ⟨h1,h2⟩;simp only at h1 h2;have hx:∀(hi:i<args.length),∃x:Nd,Rd mm (cM a (i * 8)) x.cs/\a≠none/\aJ 34 [.v (.agg ⟨x.cs⟩)] mm (.int .i64 (b6 args[i])):=fun hi=>by
     have aT:=bw h1 (rv eE hi);obtain⟨x,hx⟩:=o5 aT;have bU:=dA (ax h1 hr) hi;rw[hx] at aT bU;exact⟨x,bU.1,bU.2,Bi h args[i] x.cs mm (by have:=zh hi;omega) (by omega) aT⟩
    simp only[go_sem];refine⟨fun ay=> ?_,fun cg=> ?_⟩
    ·refine Exists.elim (hx (by clear hx;omega)) fun x bP=>⟨⟨by clear hx bP;omega,ay,bP.2.1⟩,x.cs,⟨bP.1,rfl⟩,?_⟩
     clear hx;have ha:=bP.2.2;simp only[go_sem,Nd.cs];refine ab ((aQ ha (fun V=>rfl)).mono ?_);clear bP ha;rintro r H' m2 aH ⟨aY,rfl,rfl⟩;simp only[go_sem];have hi:i<args.length:=by omega
     have ld:=Ea hi;refine⟨by unfold aF;simp only[av] at hn;omega,(i+1,m2),⟨⟨?_,by simp⟩,.inl rfl⟩,⟨aa h1 aY,by simp only;omega⟩,by simp only;omega⟩;simp only;rw[ld];split<;>omega
    ·clear hx;have:args.take i=args:=fi (by omega);rw[this];simp only[b6];exact⟨by unfold aF;simp only[av] at hb;omega,h1,by omega⟩
mutual
def dM:Ex->Nat
 | .mk _ _ _ _ _ args=>fb args+1
def fb:List Ex->Nat
 |[]=>0
 |e::r=>dM e+fb r
end
theorem ahL:eR Tryz.prog 45=some none:=by kernel_rfl
theorem aik:bX Tryz.prog 45=1:=by kernel_rfl
attribute [go_sem] ahL aik
def sg (s:List UInt8):Tk:=⟨6,s,0,0⟩
def kw (s:List UInt8):Tk:=⟨2,s,0,0⟩
def aM (s:List UInt8):Tk:=⟨1,s,0,0⟩
theorem mO (a b:List Tk):cv (a++b)=cv a++cv b:=by simp [cv]
theorem zw {l:List (List UInt8)} {a:Option Addr} {n:Nat} {m:Mem} (hr:aZ m a n 1 (strs l)) {k:Nat} (hk:k<l.length):Rd m (cM a k) [.string (bs l[k])]/\a≠none:=by
 have hl:l.length=n:=by have:=hr.1;simpa [strs] using this
 obtain⟨hx,h,cQ⟩:=BM hr (by omega:k<n);have e:(strs l)[k]= .string (bs l[k]):=by simp [strs]
 rw[e] at h;exact⟨h,cQ⟩
def iH:List UInt8:=[105,110,116]
def iE:List UInt8:=[108,111,110,103]
def qh:List UInt8:=[118,111,105,100]
def iW (b:Int) (nm:List UInt8):Tk:=if b=73 then kw iH else if b=74 then kw iE else if b=86 then kw qh else aM nm
def gU (d:Int):List Tk:=(List.replicate d.toNat [sg [91],sg [93]]).flatten
def b5 (d b:Int) (nm:List UInt8):List Tk:=iW b nm::gU d
theorem rf (d:Int):(gU d).length=d.toNat * 2:=by simp [gU,List.length_flatten,Nat.mul_comm]
def bF:Bool->List (List Tk)->List Tk
 |_,[]=>[]
 |f,t::r=>(if f=true then t else sg [44]::t)++bF false r
def bj (l:List (List Tk)):List Tk:=sg [40]::(bF true l++[sg [41]])
theorem HQ:∀{l:List (List Tk)} {f:Bool} {k:Nat} (h:k<l.length),bF f (l.take (k+1))=bF f (l.take k)++(if 0<k\/f=false then sg [44]::l[k] else l[k])
 |[],_,_,h=>absurd h (Nat.not_lt_zero _)
 |t::r,f,0,_=>by cases f<;>simp [bF]
 |t::r,f,k+1,h=>by
  have:=HQ (l:=r) (f:=false) (k:=k) (by simpa using h);simp only[List.take_succ_cons,bF,this,List.append_assoc];simp
def iG (k:Int):Bool:=decide (k=15)||decide (k=16)||decide (k=17)||decide (k=18)
def gl (b:Bool) (t:List Tk):List Tk:=if b=true then bj [t] else t
def fN (ts:List (Bool×List Tk)) (i:Nat):List Tk:=(ts.getD i (false,[])).2
def dR (ts:List (Bool×List Tk)) (i:Nat):List Tk:=gl (ts.getD i (false,[])).1 (ts.getD i (false,[])).2
def bW (k n:Int) (s c:List UInt8) (ty:Ty) (ts:List (Bool×List Tk)):List Tk:=
 if k=1 then[⟨3,[],n,0⟩]
 else if k=2 then[⟨4,[],n,0⟩]
 else if k=3 then[⟨5,s,0,0⟩]
 else if k=4 then[kw [110,117,108,108]]
 else if k=5 then[kw [116,104,105,115]]
 else if k=6 then[aM s]
 else if k=7 then dR ts 0++[sg [46]]++[aM s]
 else if k=8 then[aM c]++[sg [46]]++[aM s]
 else if k=9 then dR ts 0++[sg [91]]++fN ts 1++[sg [93]]
 else if k=10 then dR ts 0++[sg [46]]++[aM s]++bj ((ts.drop 1).map (·.2))
 else if k=11 then[aM c]++[sg [46]]++[aM s]++bj (ts.map (·.2))
 else if k=12 then[kw [115,117,112,101,114]]++[sg [46]]++[aM s]++bj (ts.map (·.2))
 else if k=13 then[kw [110,101,119]]++[aM c]++bj (ts.map (·.2))
 else if k=14 then[kw [110,101,119]]++b5 ty.dim ty.base ty.name++[sg [91]]++fN ts 0++[sg [93]]
 else if k=15 then[sg s]++dR ts 0
 else if k=16 then dR ts 0++[sg s]++dR ts 1
 else if k=17 then dR ts 0++[kw [97,115]]++b5 ty.dim ty.base ty.name
 else if k=18 then dR ts 0++[kw [105,115]]++b5 ty.dim ty.base ty.name
 else if k=19 then[kw [108,101,110]]++bj [fN ts 0]
 else if k=20 then[kw iH]++bj [fN ts 0]
 else if k=21 then[kw iE]++bj [fN ts 0]
 else[]
def Ex.k:Ex->Int | .mk k _ _ _ _ _=>k
mutual
def aC:Ex->List Tk
 | .mk k n s c ty args=>bW k n s c ty (aS args)
def aS:List Ex->List (Bool×List Tk)
 |[]=>[]
 |e::r=>(iG e.k,aC e)::aS r
end
theorem A7:∀(l:List Ex),aS l=l.map fun e=>(iG e.k,aC e)
 |[]=>rfl
 |e::r=>by simp only[aS,A7 r,bN]
abbrev cap:Nat:=800000000
theorem Bj:∀(l:List (List Tk)) (f:Bool) (k:Nat),(bF f (l.take k)).length<=(bF f l).length
 |[],_,_=>by simp
 |t::r,f,0=>by simp [bF]
 |t::r,f,k+1=>by
  have:=Bj r false k;simp only[List.take_succ_cons,bF,aI];omega
theorem BO (l:List Ex):(aS l).map (·.2)=l.map aC:=by rw[A7,List.map_map];rfl
theorem QD (l:List Ex):((aS l).drop 1).map (·.2)=(l.drop 1).map aC:=by rw[A7,<- List.map_drop,List.map_map];rfl
theorem zM {l:List Ex} {i:Nat} (h:i<l.length):fN (aS l) i=aC l[i]:=by
 rw[fN,A7,List.getD_eq_getElem?_getD,List.getElem?_map,List.getElem?_eq_getElem h];rfl
theorem rq {l:List Ex} {i:Nat} (h:i<l.length):dR (aS l) i=gl (iG l[i].k) (aC l[i]):=by
 rw[dR,A7,List.getD_eq_getElem?_getD,List.getElem?_map,List.getElem?_eq_getElem h];rfl
theorem abi {m:Mem} {a:Option Addr} {n sz c:Nat} {xs:List Value} (h:aZ m a n sz xs) (hn:1<=n) (hc:n<=c):aZ m (if c=1 then a else a.map (·.add (1 * sz))) (n - 1) sz (xs.drop sz):=by
 have hl:=h.1;have hm:(n - 1) * sz+sz=n * sz:=by rw[<- Nat.succ_mul];congr 1;omega
 refine⟨by rw[dI];omega,fun h0=> ?_⟩;have eD:0<n * sz\/n * sz=0:=by omega
 obtain⟨ad,rfl,hs,jE⟩:=h.2 (by omega);rw[af (by omega:¬c=1),Nat.one_mul];obtain⟨e1,e2,e3⟩:=mQ ad sz hs;refine⟨ad.add sz,rfl,e3,fun j hj=> ?_⟩;obtain⟨h1,h2⟩:=jE (sz+j) (by omega);obtain⟨g1,g2,g3⟩:=mQ ad (sz+j) hs;obtain⟨f1,f2,f3⟩:=mQ (ad.add sz) j e3;have LK:(ad.add sz).add j=ad.add (sz+j):=by
  cases hA:(ad.add sz).add j;cases hB:ad.add (sz+j);rw[hA] at f1 f2 f3;rw[hB] at g1 g2 g3;simp only at f1 f2 f3 g1 g2 g3;rw[f1,f2,f3,g1,g2,g3,e1,e2,Nat.add_assoc]
 refine⟨by rw[LK,h1,List.getElem?_drop],by rw[e1,e2,Nat.add_assoc];exact h2⟩
theorem aaE {m:Mem} {l:List Ex} {xs:List Value} (h:dY m l xs) (hl:1<=l.length):dY m (l.drop 1) (xs.drop 8):=by
 cases l with
 |nil=>simp at hl
 |cons e r=>simp only[dY] at h;exact h.2
theorem zf {k n:Int} {s c:List UInt8} {d b:Int} {nm:List UInt8} {l:Nat} (h:mu k n s c d b nm l=true):isKind k=true/\(eP k).2.2.2.1<=l/\d<=8:=by
 simp only[mu,aD,bt] at h;obtain⟨⟨⟨⟨⟨h1,h2⟩,h3⟩,h4⟩,h5⟩,h6⟩:=h;refine⟨h1,h2,?_⟩;by_cases ht:(eP k).2.2.1=true
 ·rw[ah ht] at h6;simp only[aD,dw] at h6;have:=h6.1.1.1;unfold o7 at this;split at this
  ·cases this
  ·omega
 ·rw[af ht] at h6;simp only[aD,bt] at h6;omega
theorem xa:∀{l:List Ex},gg l=true->∀e∈l,bG e=true
 |[],_,e,he=>by cases he
 |x::r,h,e,he=>by
  simp only[gg,aD] at h;rcases List.mem_cons.1 he with rfl |he
  ·exact h.1
  ·exact xa h.2 e he
theorem A8:∀{l:List Ex} {e:Ex},e∈l->b6 e<=kN l
 |[],e,he=>by cases he
 |x::r,e,he=>by
  simp only[kN];rcases List.mem_cons.1 he with rfl |he
  ·omega
  ·have:=A8 he;omega
mutual
def rM:Ex->Prop
 | .mk k n s c ty args=>Us k n s c ty args.length/\rE args
def rE:List Ex->Prop
 |[]=>True
 |e::r=>rM e/\rE r
end
mutual
theorem I3 {m:Mem}:∀(e:Ex) (cs:List Value),bJ m e cs->rM e
 | .mk k n s c ty args,cs,h=>by
  simp only[bJ] at h;obtain⟨a,cp,xs,h1,h2,h3,h4,h5⟩:=h;simp only[rM];exact⟨h4,OV args xs h5⟩
theorem OV {m:Mem}:∀(l:List Ex) (xs:List Value),dY m l xs->rE l
 |[],_,_=>by simp only[rE]
 |e::r,xs,h=>by
  simp only[dY] at h;simp only[rE];exact⟨I3 e _ h.1,OV r _ h.2⟩
end
theorem xM {s:List UInt8} (h:s.length<=2000000):qA (sg s):=⟨h,(by unfold aF;decide:aF 0)⟩
theorem oC {s:List UInt8} (h:s.length<=2000000):qA (kw s):=⟨h,(by unfold aF;decide:aF 0)⟩
theorem agb {s:List UInt8} (h:s.length<=2000000):qA (aM s):=⟨h,(by unfold aF;decide:aF 0)⟩
def eT (p:Tk->Prop) (l:List Tk):Prop:=∀t∈l,p t
theorem sN {p:Tk->Prop}:eT p []:=fun _ h=>by cases h
theorem vA {p:Tk->Prop} {t:Tk} {l:List Tk} (h:p t) (h' :eT p l):eT p (t::l):=fun x hx=>by
 rcases List.mem_cons.1 hx with rfl |hx
 ·exact h
 ·exact h' x hx
theorem bQ {p:Tk->Prop} {a b:List Tk} (h:eT p a) (h' :eT p b):eT p (a++b):=fun x hx=>by
 rcases List.mem_append.1 hx with hx |hx
 ·exact h x hx
 ·exact h' x hx
theorem NO {p:Tk->Prop} (hp:p (sg [44])):∀{l:List (List Tk)} {f:Bool},(∀t∈l,eT p t)->eT p (bF f l)
 |[],_,_=>sN
 |t::r,f,h=>by
  simp only[bF];refine bQ ?_ (NO hp fun x hx=>h x (bR _ hx));cases f
  ·exact vA hp (h t bY)
  ·exact h t bY
structure SgOk (p:Tk->Prop):Prop where
 comma:p (sg [44])
 lp:p (sg [40])
 rp:p (sg [41])
 lb:p (sg [91])
 rb:p (sg [93])
 dot:p (sg [46])
 kint:p (kw iH)
 klong:p (kw iE)
 kvoid:p (kw qh)
 knull:p (kw [110,117,108,108])
 kthis:p (kw [116,104,105,115])
 ksuper:p (kw [115,117,112,101,114])
 knew:p (kw [110,101,119])
 kas:p (kw [97,115])
 kis:p (kw [105,115])
 klen:p (kw [108,101,110])
theorem zi {p:Tk->Prop} (hp:SgOk p) {l:List (List Tk)} (h:∀t∈l,eT p t):eT p (bj l):=
 vA hp.lp (bQ (NO hp.comma h) (vA hp.rp sN))
theorem abb {p:Tk->Prop} (hp:SgOk p) (d:Int):eT p (gU d):=fun t ht=>by
 simp only[gU,List.mem_flatten,List.mem_replicate] at ht;obtain⟨l,⟨_,rfl⟩,ht⟩:=ht;simp only[List.mem_cons,List.not_mem_nil,or_false] at ht;rcases ht with rfl |rfl
 ·exact hp.lb
 ·exact hp.rb
theorem By {p:Tk->Prop} (hp:SgOk p) (d b:Int) {nm:List UInt8} (hn:b≠73->b≠74->b≠86->p (aM nm)):eT p (b5 d b nm):=by
 refine vA ?_ (abb hp d);unfold iW;split
 ·exact hp.kint
 ·split
  ·exact hp.klong
  ·split
   ·exact hp.kvoid
   ·rename_i h1 h2 h3;exact hn h1 h2 h3
theorem aba {p:Tk->Prop} (hp:SgOk p) {b:Bool} {t:List Tk} (h:eT p t):eT p (gl b t):=by
 cases b
 ·exact h
 ·exact zi hp fun x hx=>by rw[List.mem_singleton.1 hx];exact h
theorem dK {p:Tk->Prop} {t:Tk} (h:p t):eT p [t]:=vA h sN
theorem E1 {p:Tk->Prop} {ts:List (Bool×List Tk)} (h:∀x∈ts,eT p x.2) (i:Nat):eT p (fN ts i):=by
 unfold fN;rw[List.getD_eq_getElem?_getD];cases hx:ts[i]? with
 |none=>exact sN
 |some x=>exact h x (List.mem_of_getElem? hx)
theorem vE {p:Tk->Prop} (hp:SgOk p) {ts:List (Bool×List Tk)} (h:∀x∈ts,eT p x.2) (i:Nat):eT p (dR ts i):=aba hp (E1 h i)
theorem Z4 {p:Tk->Prop} (hp:SgOk p) {k n:Int} {s c:List UInt8} {ty:Ty} {ts:List (Bool×List Tk)} (h:∀x∈ts,eT p x.2)
  (h1:k=1->p ⟨3,[],n,0⟩) (h2:k=2->p ⟨4,[],n,0⟩) (h3:k=3->p ⟨5,s,0,0⟩) (hs:(eP k).1=true->p (aM s)) (hc:(eP k).2.1=true->p (aM c)) (ho:k=15\/k=16->p (sg s))
  (ht:(eP k).2.2.1=true->ty.base≠73->ty.base≠74->ty.base≠86->p (aM ty.name)):eT p (bW k n s c ty ts):=by
 have hl:∀(l:List (Bool×List Tk)),(∀x∈l,x∈ts)->eT p (bj (l.map (·.2))):=fun l hl=>zi hp fun t ht=>by
  obtain⟨x,hx,rfl⟩:=List.mem_map.1 ht;exact h x (hl x hx)
 have oV:∀i,eT p (bj [fN ts i]):=fun i=>zi hp fun x hx=>by rw[List.mem_singleton.1 hx];exact E1 h i
 by_cases hk:isKind k=true
 ·rcases kinds hk with h' |h' |h' |h' |h' |h' |h' |h' |h' |h' |h' |h' |h' |h' |h' |h' |h' |h' |h' |h' |h' <;>subst h'
  ·exact dK (h1 rfl)
  ·exact dK (h2 rfl)
  ·exact dK (h3 rfl)
  ·exact dK hp.knull
  ·exact dK hp.kthis
  ·exact dK (hs rfl)
  ·exact bQ (bQ (vE hp h 0) (dK hp.dot)) (dK (hs rfl))
  ·exact bQ (bQ (dK (hc rfl)) (dK hp.dot)) (dK (hs rfl))
  ·exact bQ (bQ (bQ (vE hp h 0) (dK hp.lb)) (E1 h 1)) (dK hp.rb)
  ·exact bQ (bQ (bQ (vE hp h 0) (dK hp.dot)) (dK (hs rfl))) (hl _ fun x hx=>List.mem_of_mem_drop hx)
  ·exact bQ (bQ (bQ (dK (hc rfl)) (dK hp.dot)) (dK (hs rfl))) (hl _ fun x hx=>hx)
  ·exact bQ (bQ (bQ (dK hp.ksuper) (dK hp.dot)) (dK (hs rfl))) (hl _ fun x hx=>hx)
  ·exact bQ (bQ (dK hp.knew) (dK (hc rfl))) (hl _ fun x hx=>hx)
  ·exact bQ (bQ (bQ (bQ (dK hp.knew) (By hp _ _ (ht rfl))) (dK hp.lb)) (E1 h 0)) (dK hp.rb)
  ·exact bQ (dK (ho (.inl rfl))) (vE hp h 0)
  ·exact bQ (bQ (vE hp h 0) (dK (ho (.inr rfl)))) (vE hp h 1)
  ·exact bQ (bQ (vE hp h 0) (dK hp.kas)) (By hp _ _ (ht rfl))
  ·exact bQ (bQ (vE hp h 0) (dK hp.kis)) (By hp _ _ (ht rfl))
  ·exact bQ (dK hp.klen) (oV 0)
  ·exact bQ (dK hp.kint) (oV 0)
  ·exact bQ (dK hp.klong) (oV 0)
 ·have e:∀j:Int,1<=j->j<=21->k≠j:=fun j h1 h2 h' =>hk (by subst h';simp [isKind,h1,h2])
  have:bW k n s c ty ts=[]:=by
   unfold bW;rw[af (e 1 (by decide) (by decide)),af (e 2 (by decide) (by decide)),af (e 3 (by decide) (by decide)),af (e 4 (by decide) (by decide)),af (e 5 (by decide) (by decide)),af (e 6 (by decide) (by decide)),af (e 7 (by decide) (by decide)),af (e 8 (by decide) (by decide)),af (e 9 (by decide) (by decide)),af (e 10 (by decide) (by decide)),af (e 11 (by decide) (by decide)),af (e 12 (by decide) (by decide)),af (e 13 (by decide) (by decide)),af (e 14 (by decide) (by decide)),af (e 15 (by decide) (by decide)),af (e 16 (by decide) (by decide)),af (e 17 (by decide) (by decide)),af (e 18 (by decide) (by decide)),af (e 19 (by decide) (by decide)),af (e 20 (by decide) (by decide)),af (e 21 (by decide) (by decide))]
  rw[this];exact sN
theorem abE:SgOk qA:=by constructor<;>exact⟨by decide,by unfold aF;decide⟩
def mA:List (Bool×List Tk)->Nat
 |[]=>0
 |x::r=>x.2.length+3+mA r
theorem abY (b:Bool) (t:List Tk):(gl b t).length<=t.length+2:=by
 cases b
 ·simp [gl]
 ·simp [gl,bj,bF]
theorem OK:∀(l:List (Bool×List Tk)) (f:Bool),(bF f (l.map (·.2))).length<=mA l
 |[],_=>by simp [bF]
 |x::r,f=>by
  have:=OK r false;simp only[bN,bF,mA,aI];cases f<;>simp<;>omega
theorem IL (l:List (Bool×List Tk)):(bj (l.map (·.2))).length<=mA l+2:=by
 have:=OK l true;simp only[bj,aL,aI,bh];omega
theorem Ey (l:List (Bool×List Tk)):(dR l 0).length+mA (l.drop 1)<=mA l:=by
 cases l with
 |nil=>simp [dR,gl,mA]
 |cons x r=>
  have:=abY x.1 x.2;simp only[dR,List.getD_cons_zero,List.drop_one,List.tail_cons,mA];omega
theorem R7 (l:List (Bool×List Tk)):(fN l 0).length<=mA l:=by
 cases l with
 |nil=>simp [fN]
 |cons x r=>simp only[fN,List.getD_cons_zero,mA];omega
theorem Sl (l:List (Bool×List Tk)):(dR l 0).length<=mA l:=by have:=Ey l;omega
theorem ad7 (l:List (Bool×List Tk)):(dR l 0).length+(dR l 1).length<=mA l:=by
 have h1:=Ey l;have h2:=Sl (l.drop 1);have e:dR (l.drop 1) 0=dR l 1:=by simp [dR,List.getD_eq_getElem?_getD,List.getElem?_drop]
 rw[e] at h2;omega
theorem adN (l:List (Bool×List Tk)):(dR l 0).length+(fN l 1).length<=mA l:=by
 have h1:=Ey l;have h2:=R7 (l.drop 1);have e:fN (l.drop 1) 0=fN l 1:=by simp [fN,List.getD_eq_getElem?_getD,List.getElem?_drop]
 rw[e] at h2;omega
theorem zt (d b:Int) (nm:List UInt8) (h:d<=8):(b5 d b nm).length<=17:=by
 simp only[b5,aL,rf];omega
theorem Q7 (t:List Tk):(bj [t]).length=t.length+2:=by simp [bj,bF]
theorem Z3 {k n:Int} {s c:List UInt8} {ty:Ty} {ts:List (Bool×List Tk)} (hk:isKind k=true) (hd:ty.dim<=8):(bW k n s c ty ts).length<=22+mA ts:=by
 have a1:=Sl ts;have a2:=ad7 ts;have a3:=R7 ts;have a4:=adN ts;have a5:=IL ts;have a6:=IL (ts.drop 1);have a7:=Ey ts;have a8:=zt ty.dim ty.base ty.name hd;have a9:=Q7 (fN ts 0);rcases kinds hk with h' |h' |h' |h' |h' |h' |h' |h' |h' |h' |h' |h' |h' |h' |h' |h' |h' |h' |h' |h' |h' <;>subst h' <;>
  simp only[bW,Int.reduceEq,↓reduceIte,aI,aL,bh]<;>omega
mutual
theorem zn:∀(e:Ex),bG e=true->(aC e).length+3<=28 * dM e
 | .mk k n s c ty args,h=>by
  simp only[bG,aD] at h;obtain⟨hk,_,hd⟩:=zf h.1;have h1:=Z3 (n:=n) (s:=s) (c:=c) (ts:=aS args) hk hd;have h2:=Ih args h.2;simp only[aC,dM];omega
theorem Ih:∀(l:List Ex),gg l=true->mA (aS l)<=28 * fb l
 |[],_=>by simp [aS,mA]
 |e::r,h=>by
  simp only[gg,aD] at h;have h1:=zn e h.1;have h2:=Ih r h.2;simp only[aS,mA,fb];omega
end
def Uf (e:Ex):List UInt8×Int:=if bG e=true then(if 24<b6 e then([],9) else lM (aC e)) else([],4)
structure Sd where
 k:Int
 name:List UInt8
 ty:Ty
 tg:Nd
 ex:Nd
 a:Option Addr
 l:Nat
 cp:Nat
 b:Option Addr
 l2:Nat
 cp2:Nat
def Sd.cs (x:Sd):List Value:=[.int .i64 x.k,.string (bs x.name),.int .i64 x.ty.dim,.int .u8 x.ty.base,.string (bs x.ty.name),.int .i64 x.tg.k,.int .i64 x.tg.n,.string (bs x.tg.s),.string (bs x.tg.c),.int .i64 x.tg.ty.dim,.int .u8 x.tg.ty.base,.string (bs x.tg.ty.name),.slice x.tg.a x.tg.l x.tg.cp,.int .i64 x.ex.k,.int .i64 x.ex.n,.string (bs x.ex.s),.string (bs x.ex.c),.int .i64 x.ex.ty.dim,.int .u8 x.ex.ty.base,.string (bs x.ex.ty.name),.slice x.ex.a x.ex.l x.ex.cp,.slice x.a x.l x.cp,.slice x.b x.l2 x.cp2]
theorem ahF:eR Tryz.prog 73=some (some 23):=by kernel_rfl
theorem aid:bX Tryz.prog 73=23:=by kernel_rfl
theorem ads:fB Tryz.prog 73=some [.v (.int .i64 0),.v (.string (bs [])),.v (.int .i64 0),.v (.int .u8 0),.v (.string (bs [])),.v (.int .i64 0),.v (.int .i64 0),.v (.string (bs [])),.v (.string (bs [])),.v (.int .i64 0),.v (.int .u8 0),.v (.string (bs [])),.v (.slice none 0 0),.v (.int .i64 0),.v (.int .i64 0),.v (.string (bs [])),.v (.string (bs [])),.v (.int .i64 0),.v (.int .u8 0),.v (.string (bs [])),.v (.slice none 0 0),.v (.slice none 0 0),.v (.slice none 0 0)]:=by kernel_rfl
theorem ahu:nO Tryz.prog 73=true:=by kernel_rfl
theorem ae3:eR Tryz.prog 36=some none:=by kernel_rfl
theorem afl:bX Tryz.prog 36=1:=by kernel_rfl
theorem ag5:iP Tryz.prog 36=some 73:=by kernel_rfl
theorem acE:da Tryz.prog 73 0=some (0,none,1):=by kernel_rfl
theorem acD:da Tryz.prog 73 1=some (1,none,1):=by kernel_rfl
theorem acC:da Tryz.prog 73 2=some (2,some 3,3):=by kernel_rfl
theorem acB:da Tryz.prog 73 3=some (5,some 8,8):=by kernel_rfl
theorem acA:da Tryz.prog 73 4=some (13,some 8,8):=by kernel_rfl
theorem acz:da Tryz.prog 73 5=some (21,none,1):=by kernel_rfl
theorem acy:da Tryz.prog 73 6=some (22,none,1):=by kernel_rfl
structure Mc where
 fl:Int
 res:Ty
 name:List UInt8
 pa:Option Addr
 pl:Nat
 pc:Nat
 hb:Bool
 a:Option Addr
 l:Nat
 cp:Nat
def Mc.cs (x:Mc):List Value:=[.int .i64 x.fl,.int .i64 x.res.dim,.int .u8 x.res.base,.string (bs x.res.name),.string (bs x.name),.slice x.pa x.pl x.pc,.bool x.hb,.slice x.a x.l x.cp]
theorem ahI:eR Tryz.prog 98=some (some 8):=by kernel_rfl
theorem aih:bX Tryz.prog 98=8:=by kernel_rfl
theorem adu:fB Tryz.prog 98=some [.v (.int .i64 0),.v (.int .i64 0),.v (.int .u8 0),.v (.string (bs [])),.v (.string (bs [])),.v (.slice none 0 0),.v (.bool false),.v (.slice none 0 0)]:=by kernel_rfl
theorem ahx:nO Tryz.prog 98=true:=by kernel_rfl
theorem ae5:eR Tryz.prog 57=some none:=by kernel_rfl
theorem afn:bX Tryz.prog 57=1:=by kernel_rfl
theorem ag7:iP Tryz.prog 57=some 98:=by kernel_rfl
theorem acR:da Tryz.prog 98 0=some (0,none,1):=by kernel_rfl
theorem acQ:da Tryz.prog 98 1=some (1,some 3,3):=by kernel_rfl
theorem acP:da Tryz.prog 98 2=some (4,none,1):=by kernel_rfl
theorem acO:da Tryz.prog 98 3=some (5,none,1):=by kernel_rfl
theorem acN:da Tryz.prog 98 4=some (6,none,1):=by kernel_rfl
theorem acM:da Tryz.prog 98 5=some (7,none,1):=by kernel_rfl
structure Cc where
 fl:Int
 name:List UInt8
 super:List UInt8
 ia:Option Addr
 il:Nat
 ic:Nat
 fa:Option Addr
 fn:Nat
 fc:Nat
 ma:Option Addr
 ml:Nat
 mc:Nat
 sa:Option Addr
 sl:Nat
 sc:Nat
def Cc.cs (x:Cc):List Value:=[.int .i64 x.fl,.string (bs x.name),.string (bs x.super),.slice x.ia x.il x.ic,.slice x.fa x.fn x.fc,.slice x.ma x.ml x.mc,.slice x.sa x.sl x.sc]
theorem ahN:eR Tryz.prog 59=some (some 7):=by kernel_rfl
theorem aim:bX Tryz.prog 59=7:=by kernel_rfl
theorem adw:fB Tryz.prog 59=some [.v (.int .i64 0),.v (.string (bs [])),.v (.string (bs [])),.v (.slice none 0 0),.v (.slice none 0 0),.v (.slice none 0 0),.v (.slice none 0 0)]:=by kernel_rfl
theorem ahz:nO Tryz.prog 59=true:=by kernel_rfl
theorem ae7:eR Tryz.prog 23=some none:=by kernel_rfl
theorem afp:bX Tryz.prog 23=1:=by kernel_rfl
theorem ag9:iP Tryz.prog 23=some 59:=by kernel_rfl
theorem ac1:da Tryz.prog 59 0=some (0,none,1):=by kernel_rfl
theorem ac0:da Tryz.prog 59 1=some (1,none,1):=by kernel_rfl
theorem acZ:da Tryz.prog 59 2=some (2,none,1):=by kernel_rfl
theorem acY:da Tryz.prog 59 3=some (3,none,1):=by kernel_rfl
theorem acX:da Tryz.prog 59 4=some (4,none,1):=by kernel_rfl
theorem acW:da Tryz.prog 59 5=some (5,none,1):=by kernel_rfl
theorem acV:da Tryz.prog 59 6=some (6,none,1):=by kernel_rfl
structure Pc where
 ty:Ty
 name:List UInt8
def Pc.cs (x:Pc):List Value:=[.int .i64 x.ty.dim,.int .u8 x.ty.base,.string (bs x.ty.name),.string (bs x.name)]
theorem ahH:eR Tryz.prog 160=some (some 4):=by kernel_rfl
theorem aif:bX Tryz.prog 160=4:=by kernel_rfl
theorem R2:fB Tryz.prog 160=some [.v (.int .i64 0),.v (.int .u8 0),.v (.string (bs [])),.v (.string (bs []))]:=by kernel_rfl
theorem ahw:nO Tryz.prog 160=true:=by kernel_rfl
theorem ae4:eR Tryz.prog 96=some none:=by kernel_rfl
theorem afm:bX Tryz.prog 96=1:=by kernel_rfl
theorem ag6:iP Tryz.prog 96=some 160:=by kernel_rfl
theorem acL:da Tryz.prog 160 0=some (0,some 3,3):=by kernel_rfl
theorem acK:da Tryz.prog 160 1=some (3,none,1):=by kernel_rfl
structure Fc where
 fl:Int
 ty:Ty
 name:List UInt8
def Fc.cs (x:Fc):List Value:=[.int .i64 x.fl,.int .i64 x.ty.dim,.int .u8 x.ty.base,.string (bs x.ty.name),.string (bs x.name)]
theorem ahM:eR Tryz.prog 94=some (some 5):=by kernel_rfl
theorem ail:bX Tryz.prog 94=5:=by kernel_rfl
theorem R3:fB Tryz.prog 94=some [.v (.int .i64 0),.v (.int .i64 0),.v (.int .u8 0),.v (.string (bs [])),.v (.string (bs []))]:=by kernel_rfl
theorem ahy:nO Tryz.prog 94=true:=by kernel_rfl
theorem ae6:eR Tryz.prog 56=some none:=by kernel_rfl
theorem afo:bX Tryz.prog 56=1:=by kernel_rfl
theorem ag8:iP Tryz.prog 56=some 94:=by kernel_rfl
theorem acU:da Tryz.prog 94 0=some (0,none,1):=by kernel_rfl
theorem acT:da Tryz.prog 94 1=some (1,some 3,3):=by kernel_rfl
theorem acS:da Tryz.prog 94 2=some (4,none,1):=by kernel_rfl
theorem aii:bX Tryz.prog 55=1:=by kernel_rfl
attribute [go_sem] ahF aid ads ahu ae3 afl ag5 acE acD acC acB acA acz acy ahI aih adu ahx ae5 afn ag7 acR acQ acP acO acN acM ahN aim adw ahz ae7 afp ag9 ac1 ac0 acZ acY acX acW acV ahH aif R2 ahw ae4 afm ag6 acL acK ahM ail R3 ahy ae6 afo ag8 acU acT acS aii
def gp (n:Nat) (B:Nat->Bool):Bool:=(List.range n).all B
theorem sM {n:Nat} {B:Nat->Bool}:gp (n+1) B=(gp n B&&B n):=by simp [gp,List.range_succ,List.all_append]
theorem lK {n k:Nat} {B:Nat->Bool} (hk:k<n) (h:B k=false):gp n B=false:=by
 simp only[gp,List.all_eq_false,List.mem_range];exact⟨k,hk,by simp [h]⟩
theorem agY (f:FuncId) (B:Nat->Bool) (a:Option Addr) (n c:Nat) (a2:Option Addr) (n2 c2:Nat) (xs ys:List Value) (m:Mem) (hr:aZ m a n 8 xs) (lC:aZ m a2 n2 8 ys) (hn:n<=av) (ar:iY Tryz.prog f=true)
  (hx:∀i,i<n->n=n2->∃X Y:Nd,(xs.drop (i * 8)).take 8=X.cs/\(ys.drop (i * 8)).take 8=Y.cs/\∀m',ae m m' ->aJ f [.v (.agg ⟨X.cs⟩),.v (.agg ⟨Y.cs⟩)] m' (.bool (B i))):
  aJ 266 [.v (.slice a n c),.v (.slice a2 n2 c2),.v (.func (.func f) ⟨[]⟩ ⟨[]⟩)] m (.bool (decide (n=n2)&&gp n B)):=by
 refine aR aB Tryz.func266 ?_
 ·simp only[go_sem];refine⟨fun cQ=> ?_,fun heq=> ?_⟩
  ·have:¬n=n2:=by clear hx;omega
   rw[di this];rfl
  ·have heq:n=n2:=by clear hx;omega
   subst heq;refine du aB (fun x:Nat×Mem=>⟨[⟨1,[],.v (.slice a2 n c2)⟩,⟨2,[],.v (.func (.func f) ⟨[]⟩ ⟨[]⟩)⟩,⟨15,[],.v (.slice a n c)⟩,⟨16,[],.v (.int .i64 n)⟩,⟨17,[],.v (.int .i64 x.1)⟩],[],[],[],0,x.2⟩)
    (fun x=>ae m x.2/\x.1<=n/\gp x.1 B=true) (fun x=>n - x.1) (0,m) (fun _ _=>au _) (fun x hx=>hx.1) ?_ ?_ ?_
   ·simp only[go_sem];rfl
   ·exact⟨.inl rfl,aG _,rfl⟩
   ·rintro⟨k,mm⟩ ⟨h1,h2,h3⟩;simp only at h1 h2 h3;have ej:gP.own f=false:=rfl;have hy:∀(hk:k<n),∃X Y:Nd,(Rd mm (cM a (k * 8)) X.cs/\a≠none)/\(Rd mm (cM a2 (k * 8)) Y.cs/\a2≠none)/\aJ f [.v (.agg ⟨X.cs⟩),.v (.agg ⟨Y.cs⟩)] mm (.bool (B k)):=fun hk=>by
     obtain⟨X,Y,e1,e2,e3⟩:=hx k hk rfl;have r1:=dA (ax h1 hr) hk;have r2:=dA (ax h1 lC) hk;rw[e1] at r1;rw[e2] at r2;exact⟨X,Y,r1,r2,e3 mm h1⟩
    clear hx;simp only[go_sem,ej];refine⟨fun ay=> ?_,fun cg=>⟨h1,?_⟩⟩
    ·have hk:k<n:=by clear hy;omega
     refine Exists.elim (hy hk) fun X br=>Exists.elim br fun Y jq=>⟨⟨by clear hy br jq;omega,ay,jq.1.2⟩,X.cs,⟨jq.1.1,rfl⟩,?_⟩
     clear hy br;have ha:=jq.2.2;simp only[go_sem,ej,Nd.cs];refine⟨⟨by clear jq ha;omega,ay,jq.2.1.2⟩,Y.cs,⟨jq.2.1.1,rfl⟩,?_⟩;clear jq;simp only[go_sem,ej,Nd.cs];refine⟨ar,bo ((aQ ha (fun V=>rfl)).mono ?_)⟩;clear ha;rintro r H' m2 aH ⟨aY,rfl,rfl⟩;simp only[go_sem];refine⟨fun hb=>⟨aa h1 aY,?_⟩,fun hb=>⟨by unfold aF;simp only[av] at hn;omega,(k+1,m2),⟨by simp,.inl rfl⟩,⟨aa h1 aY,by simp only;omega,?_⟩,by simp only;omega⟩⟩
     ·rw[lK hk hb];simp
     ·simp only;rw[sM,h3,hb];rfl
    ·have:k=n:=by clear hy;omega
     rw[<- this,h3];simp
theorem TK (f:FuncId) (B:Nat->Bool) (a:Option Addr) (n c:Nat) (a2:Option Addr) (n2 c2:Nat) (xs ys:List Value) (m:Mem) (hr:aZ m a n 23 xs) (lC:aZ m a2 n2 23 ys) (hn:n<=av) (ar:iY Tryz.prog f=true)
  (hx:∀i,i<n->n=n2->∃X Y:Sd,(xs.drop (i * 23)).take 23=X.cs/\(ys.drop (i * 23)).take 23=Y.cs/\∀m',ae m m' ->aJ f [.v (.agg ⟨X.cs⟩),.v (.agg ⟨Y.cs⟩)] m' (.bool (B i))):
  aJ 252 [.v (.slice a n c),.v (.slice a2 n2 c2),.v (.func (.func f) ⟨[]⟩ ⟨[]⟩)] m (.bool (decide (n=n2)&&gp n B)):=by
 refine aR aB Tryz.func252 ?_
 ·simp only[go_sem];refine⟨fun cQ=> ?_,fun heq=> ?_⟩
  ·have:¬n=n2:=by clear hx;omega
   rw[di this];rfl
  ·have heq:n=n2:=by clear hx;omega
   subst heq;refine du aB (fun x:Nat×Mem=>⟨[⟨1,[],.v (.slice a2 n c2)⟩,⟨2,[],.v (.func (.func f) ⟨[]⟩ ⟨[]⟩)⟩,⟨15,[],.v (.slice a n c)⟩,⟨16,[],.v (.int .i64 n)⟩,⟨17,[],.v (.int .i64 x.1)⟩],[],[],[],0,x.2⟩)
    (fun x=>ae m x.2/\x.1<=n/\gp x.1 B=true) (fun x=>n - x.1) (0,m) (fun _ _=>au _) (fun x hx=>hx.1) ?_ ?_ ?_
   ·simp only[go_sem];rfl
   ·exact⟨.inl rfl,aG _,rfl⟩
   ·rintro⟨k,mm⟩ ⟨h1,h2,h3⟩;simp only at h1 h2 h3;have ej:gP.own f=false:=rfl;have hy:∀(hk:k<n),∃X Y:Sd,(Rd mm (cM a (k * 23)) X.cs/\a≠none)/\(Rd mm (cM a2 (k * 23)) Y.cs/\a2≠none)/\aJ f [.v (.agg ⟨X.cs⟩),.v (.agg ⟨Y.cs⟩)] mm (.bool (B k)):=fun hk=>by
     obtain⟨X,Y,e1,e2,e3⟩:=hx k hk rfl;have r1:=dA (ax h1 hr) hk;have r2:=dA (ax h1 lC) hk;rw[e1] at r1;rw[e2] at r2;exact⟨X,Y,r1,r2,e3 mm h1⟩
    clear hx;simp only[go_sem,ej];refine⟨fun ay=> ?_,fun cg=>⟨h1,?_⟩⟩
    ·have hk:k<n:=by clear hy;omega
     refine Exists.elim (hy hk) fun X br=>Exists.elim br fun Y jq=>⟨⟨by clear hy br jq;omega,ay,jq.1.2⟩,X.cs,⟨jq.1.1,rfl⟩,?_⟩
     clear hy br;have ha:=jq.2.2;simp only[go_sem,ej,Sd.cs];refine⟨⟨by clear jq ha;omega,ay,jq.2.1.2⟩,Y.cs,⟨jq.2.1.1,rfl⟩,?_⟩;clear jq;simp only[go_sem,ej,Sd.cs];refine⟨ar,bo ((aQ ha (fun V=>rfl)).mono ?_)⟩;clear ha;rintro r H' m2 aH ⟨aY,rfl,rfl⟩;simp only[go_sem];refine⟨fun hb=>⟨aa h1 aY,?_⟩,fun hb=>⟨by unfold aF;simp only[av] at hn;omega,(k+1,m2),⟨by simp,.inl rfl⟩,⟨aa h1 aY,by simp only;omega,?_⟩,by simp only;omega⟩⟩
     ·rw[lK hk hb];simp
     ·simp only;rw[sM,h3,hb];rfl
    ·have:k=n:=by clear hy;omega
     rw[<- this,h3];simp
end Go.Proofs.YtimddhkipjedcaaGreatDoor.E

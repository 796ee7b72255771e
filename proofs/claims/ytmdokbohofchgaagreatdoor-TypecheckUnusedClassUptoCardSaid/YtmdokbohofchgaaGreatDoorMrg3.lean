/- Several texts in one. -/
import Derived.WideKeyRuns
import Derived.Test.YtmdokbohofchgaaGreatDoorMrg2
set_option linter.unusedSimpArgs false
set_option linter.unusedVariables false
set_option maxHeartbeats 4000000
set_option maxRecDepth 20000
namespace Go.Proofs.YtmdokbohofchgaaGreatDoor.E
open Go
theorem aak:cC Tryz.prog 4=some none:=by kernel_rfl
theorem sz4:aK Tryz.prog 4=1:=by kernel_rfl
theorem aag:cC Tryz.prog 35=some (some 3):=by kernel_rfl
theorem YZ:aK Tryz.prog 35=3:=by kernel_rfl
theorem KN:cU Tryz.prog 35=some [.v (.int .i64 0),.v (.int .u8 0),.v (.string (bs []))]:=by kernel_rfl
theorem VK:a8 Tryz.prog 35 0=some (0,none,1):=by kernel_rfl
theorem VJ:a8 Tryz.prog 35 1=some (1,none,1):=by kernel_rfl
theorem VI:a8 Tryz.prog 35 2=some (2,none,1):=by kernel_rfl
theorem aaa:fP Tryz.prog 35=true:=by kernel_rfl
theorem dC:wj Tryz.prog 35:=J6 KN (by kernel_rfl) (by kernel_rfl) (by kernel_rfl) rfl (by kernel_rfl)
theorem aaf:cC Tryz.prog 57=some (some 8):=by kernel_rfl
theorem szX:aK Tryz.prog 57=8:=by kernel_rfl
theorem W1:cU Tryz.prog 57=some [.v (.int .i64 0),.v (.int .i64 0),.v (.string (bs [])),.v (.string (bs [])),.v (.int .i64 0),.v (.int .u8 0),.v (.string (bs [])),.v (.slice none 0 0)]:=by kernel_rfl
theorem VF:a8 Tryz.prog 57 0=some (0,none,1):=by kernel_rfl
theorem VE:a8 Tryz.prog 57 1=some (1,none,1):=by kernel_rfl
theorem VD:a8 Tryz.prog 57 2=some (2,none,1):=by kernel_rfl
theorem VC:a8 Tryz.prog 57 3=some (3,none,1):=by kernel_rfl
theorem VB:a8 Tryz.prog 57 4=some (4,some 3,3):=by kernel_rfl
theorem VA:a8 Tryz.prog 57 5=some (7,none,1):=by kernel_rfl
theorem Z9:fP Tryz.prog 57=true:=by kernel_rfl
theorem YE:cC Tryz.prog 55=some none:=by kernel_rfl
theorem Zb:aK Tryz.prog 55=1:=by kernel_rfl
theorem ZO:eb Tryz.prog 55=some 57:=by kernel_rfl
theorem YD:cC Tryz.prog 28=some none:=by kernel_rfl
theorem aah:cC Tryz.prog 201=some (some 5):=by kernel_rfl
theorem szS:aK Tryz.prog 201=5:=by kernel_rfl
theorem W2:cU Tryz.prog 201=some [.v (.bool false),.v (.bool false),.v (.bool false),.v (.int .i64 0),.v (.int .i64 0)]:=by kernel_rfl
theorem VV:a8 Tryz.prog 201 0=some (0,none,1):=by kernel_rfl
theorem VU:a8 Tryz.prog 201 1=some (1,none,1):=by kernel_rfl
theorem VT:a8 Tryz.prog 201 2=some (2,none,1):=by kernel_rfl
theorem VS:a8 Tryz.prog 201 3=some (3,none,1):=by kernel_rfl
theorem VR:a8 Tryz.prog 201 4=some (4,none,1):=by kernel_rfl
theorem aab:fP Tryz.prog 201=true:=by kernel_rfl
attribute [go_sem] aak sz4 aag YZ KN VK VJ VI aaa aaf szX W1 VF VE VD VC VB VA Z9 YE Zb ZO YD aah szS W2 VV VU VT VS VR aab
def bB:List UInt8:=[60,105,110,105,116,62]
def xK:List UInt8:=[60,99,108,105,110,105,116,62]
def rL (s:List UInt8):Bool:=decide (s=bB)||decide (s=xK)||(iu s&&decide (Lib.indexByte s 47<0))
def jL (s:List UInt8):Bool:=rL s&&decide (s.getD 0 0≠60)&& !iy s&& !u5.contains s
theorem NW (s:List UInt8) (m:Mem) (hs:BL s):FnH Tryz.prog 214 [.v (.string (bs s))] ⟨[],[]⟩ m fun r H' _=>r= .v (.bool (rL s))/\H' =⟨[],[]⟩:=by
 refine br LK Tryz.func214 ?_
 ·simp only[go_sem];refine⟨fun h=> ?_,fun h=>⟨hs,fun h1=>ak ((MK s 47 m).mono ?_),fun h1=> ?_⟩⟩
  ·simp only[rL,bB,xK];rcases h with h |h<;>simp [h]
  ·rintro r H' m' hm ⟨rfl,rfl⟩;simp only[go_sem];have h2:=h.1;have h3:=h.2;simp [rL,bB,xK,h1,h2,h3]
  ·have h2:=h.1;have h3:=h.2;simp [rL,bB,xK,h1,h2,h3]
abbrev cfM:Cfg:=fF (fun _=>false) [(214,jh BL fun s=> .bool (rL s)),(227,jh BL fun s=> .bool (iu s)),(141,jh BL fun s=> .bool (iy s))]
theorem LJ:cw cfM Tryz.prog:=pure_cons (by kernel_rfl) (km NW) (pure_cons (by kernel_rfl) (km Gn) (pure_cons (by kernel_rfl) (km Af) pure_nil))
theorem Rb {s:List UInt8} (h:rL s=true):0<s.length:=by
 cases s with
 |nil=>simp [rL,bB,xK,iu,eK] at h
 |cons a r=>simp
theorem CS (s:List UInt8) (m:Mem) (hs:BL s):FnH Tryz.prog 113 [.v (.string (bs s))] ⟨[],[]⟩ m fun r H' _=>r= .v (.bool (jL s))/\H' =⟨[],[]⟩:=by
 refine br LJ Tryz.func113 ?_
 ·simp only[go_sem];have e:∀u:UInt8,((u.toNat:Int)=60)=(u=60):=fun u=>propext ⟨fun h=>UInt8.toNat_inj.1 (by have:(60:UInt8).toNat=60:=rfl;omega),fun h=>by rw[h];rfl⟩
  simp only[e];refine⟨hs,fun h=>⟨by omega,by have:=Rb h;omega⟩,fun _=>hs,fun h=>ak ((MP m).mono ?_),fun h=> ?_⟩
  ·rintro r H' m' hm ⟨rfl,rfl,rfl⟩;simp only[go_sem];refine⟨by kernel_rfl,fun a c m1 aQ hc cR=>bF ((uR u5 s a 28 c m1 cR (by omega)).mono ?_)⟩;rintro r H' m' aJ ⟨rfl,rfl⟩;have h1:=h.1.1;have h2:=h.1.2;have h3:=h.2;generalize hb:u5.contains s=kb
   simp only[go_sem];rw[jL,h1,h3,hb,aP h2];rfl
  ·rw[jL];rcases h with (h |h) |h
   ·simp [h]
   ·have:decide (s.getD 0 0≠60)=false:=by rw[h];rfl
    rw[this];simp
   ·simp [h]
def pN (d b:Int) (s:List UInt8):Bool:=if d<0\/8<d then false else if b=73\/b=74 then decide (s=[]) else if b=86 then decide (d=0)&&decide (s=[]) else if b=76 then iu s else false
def iK (d b:Int) (s:List UInt8):Bool:=pN d b s&&decide (b≠86)&&(decide (b≠76)||iy s)
def sB (F:Int->Int->List UInt8->Bool):List Value->Option (Prop×Value)
 |[.agg ⟨[.int .i64 d,.int .u8 b,.string s]⟩]=>some (BL (tl s),.bool (F d b (tl s)))
 |_=>none
attribute [go_sem] sB.eq_1
theorem xT {P:Program} {f:FuncId} {F:Int->Int->List UInt8->Bool} (h:∀d b a m,BL a->FnH P f [.v (.agg ⟨[.int .i64 d,.int .u8 b,.string (bs a)]⟩)] ⟨[],[]⟩ m fun r H' _=>r= .v (.bool (F d b a))/\H' =⟨[],[]⟩):vO P f (sB F):=fun aN y hy hB m=>by
 unfold sB at hy;split at hy
 ·rename_i d b a;cases hy;have:=h d b (tl a) m hB;rwa [eW] at this
 ·cases hy
theorem GC (d b:Int) (s:List UInt8) (m:Mem) (hs:BL s):FnH Tryz.prog 216 [.v (.agg ⟨[.int .i64 d,.int .u8 b,.string (bs s)]⟩)] ⟨[],[]⟩ m fun r H' _=>r= .v (.bool (pN d b s))/\H' =⟨[],[]⟩:=by
 refine br LJ Tryz.func216 ?_
 ·simp only[go_sem];refine⟨fun h=>by simp only[pN,ai h],fun h=> ?_⟩;have h0:¬(d<0\/8<d):=fun h' =>h'.elim h.1 h.2
  simp only[pN,aa h0];refine⟨fun h1=> ?_,fun h1=> ?_⟩
  ·simp [h1]
  ·refine⟨fun h2=>by simp [h2],fun h2=> ?_⟩;refine⟨fun h3=>by simp [h3],fun h3=>⟨fun h4=>⟨hs,by simp [h4]⟩,fun h4=>by simp [h1,h2,h3,h4]⟩⟩
abbrev cfT:Cfg:=fF (fun _=>false) [(216,sB pN),(141,jh BL fun s=> .bool (iy s))]
theorem puT:cw cfT Tryz.prog:=pure_cons (by kernel_rfl) (xT GC) (pure_cons (by kernel_rfl) (km Af) pure_nil)
theorem CK (d b:Int) (s:List UInt8) (m:Mem) (hs:BL s):FnH Tryz.prog 114 [.v (.agg ⟨[.int .i64 d,.int .u8 b,.string (bs s)]⟩)] ⟨[],[]⟩ m fun r H' _=>r= .v (.bool (iK d b s))/\H' =⟨[],[]⟩:=by
 refine br puT Tryz.func114 ?_
 ·simp only[go_sem];refine⟨hs,fun _=>hs,?_⟩;simp [iK]
def th (c:UInt8):Bool:=decide (c.toNat=10)||(decide (32<=c.toNat)&&decide (c.toNat<=126))
def xU (s:List UInt8):Bool:=s.all th&&decide (s.length<=1024)
theorem NO (s:List UInt8) (m:Mem) (hs:BL s):FnH Tryz.prog 261 [.v (.string (bs s))] ⟨[],[]⟩ m fun r H' _=>r= .v (.bool (xU s))/\H' =⟨[],[]⟩:=by
 refine br wu Tryz.func261 ?_
 ·simp only[go_sem];refine gz wu (fun k:Nat=>⟨[⟨0,[],.v (.string (bs s))⟩,⟨6,[],.v (.int .i64 s.length)⟩,⟨7,[],.v (.int .i64 k)⟩],[],[],[],0,m⟩)
   (fun k=>k<=s.length/\(s.take k).all th=true) (fun k=>s.length - k) 0 (fun _ _=>aA _) (fun _ _=> .inl rfl) ?_ ?_ ?_
  ·simp only[go_sem];rfl
  ·simp
  ·rintro k ⟨hk,hp⟩;simp only[go_sem];refine⟨fun an=> ?_,fun fZ=> ?_⟩
   ·have eI:k<s.length:=by omega
    have hd:=vj eI;refine⟨⟨by omega,an⟩,fun h=> ?_,fun h=>⟨by unfold aB;have:s.length<=4611686018427387904:=hs;omega,k+1,by omega,⟨by omega,?_⟩,by omega⟩⟩
    ·have hb:th (s.getD k 0)=false:=by
      simp only[th,Bool.or_eq_false_iff,Bool.and_eq_false_iff,decide_eq_false_iff_not];exact⟨by omega,by omega⟩
     have:s.all th=false:=by
      rw[<- List.take_append_drop k s,List.all_append,hd,List.all_cons,hb];simp
     rw[xU,this,Bool.false_and]
    ·have hb:th (s.getD k 0)=true:=by
      simp only[th,Bool.or_eq_true,bw,cS];omega
     rw[List.take_succ_eq_append_getElem eI,List.all_append,hp,List.all_cons];have e:s.getD k 0=s[k]:=by rw[List.getD_eq_getElem?_getD,List.getElem?_eq_getElem eI];rfl
     rw[e] at hb;simp [hb]
   ·rw[jI (by omega)] at hp;rw[xU,hp,Bool.true_and,decide_eq_decide];omega
def kg (k:Int):Bool×Bool×Bool×Int×Int:=
 if k=6 then(true,false,false,0,0)
 else if k=7 then(true,false,false,1,1)
 else if k=8 then(true,true,false,0,0)
 else if k=9\/k=16 then(false,false,false,2,2)
 else if k=10 then(true,false,false,1,17)
 else if k=11 then(true,true,false,0,16)
 else if k=12 then(true,false,false,0,16)
 else if k=13 then(false,true,false,0,16)
 else if k=14\/k=17\/k=18 then(false,false,true,1,1)
 else if k=15\/k=19\/k=20\/k=21 then(false,false,false,1,1)
 else(false,false,false,0,0)
def isKind (k:Int):Bool:=decide (1<=k)&&decide (k<=21)
theorem kinds {k:Int} (h:isKind k=true):k=1\/k=2\/k=3\/k=4\/k=5\/k=6\/k=7\/k=8\/k=9\/k=10\/k=11\/k=12\/k=13\/k=14\/k=15\/k=16\/k=17\/k=18\/k=19\/k=20\/k=21:=by
 simp only[isKind,bw,cS] at h;omega
theorem Nz (k:Int) (m:Mem):FnH Tryz.prog 186 [.v (.int .i64 k)] ⟨[],[]⟩ m fun r H' m' =>m' =m/\H' =⟨[],[]⟩/\r= .tup [.agg [.v (.bool (kg k).1),.v (.bool (kg k).2.1),.v (.bool (kg k).2.2.1),.v (.int .i64 (kg k).2.2.2.1),.v (.int .i64 (kg k).2.2.2.2)],.v (.bool (isKind k))]:=by
 refine br wu Tryz.func186 ?_
 ·cases hk:isKind k with
  |true=>
   rcases kinds hk with h |h |h |h |h |h |h |h |h |h |h |h |h |h |h |h |h |h |h |h |h<;>subst h<;>simp only[go_sem,kg,Int.reduceEq,aV,aT]
  |false=>
   have pA:¬(1<=k/\k<=21):=by simpa [isKind] using hk
   have e:∀j:Int,1<=j->j<=21->(k=j)=False:=fun j h1 h2=>eq_false fun h=>pA (h▸⟨h1,h2⟩)
   have e1:=e 1 (by decide) (by decide);have e2:=e 2 (by decide) (by decide);have e3:=e 3 (by decide) (by decide);have e4:=e 4 (by decide) (by decide);have e5:=e 5 (by decide) (by decide);have e6:=e 6 (by decide) (by decide);have e7:=e 7 (by decide) (by decide);have e8:=e 8 (by decide) (by decide);have e9:=e 9 (by decide) (by decide);have bZ:=e 10 (by decide) (by decide);have cj:=e 11 (by decide) (by decide);have e12:=e 12 (by decide) (by decide);have e13:=e 13 (by decide) (by decide);have e14:=e 14 (by decide) (by decide);have e15:=e 15 (by decide) (by decide);have e16:=e 16 (by decide) (by decide);have e17:=e 17 (by decide) (by decide);have e18:=e 18 (by decide) (by decide);have e19:=e 19 (by decide) (by decide);have e20:=e 20 (by decide) (by decide);have e21:=e 21 (by decide) (by decide);simp only[go_sem,kg,e1,e2,e3,e4,e5,e6,e7,e8,e9,bZ,cj,e12,e13,e14,e15,e16,e17,e18,e19,e20,e21,aT]
def oa (k n:Int) (s:List UInt8):Bool:=
 if k=1 then decide (0<=n)&&decide (n<=2147483647)&&decide (s=[])
 else if k=2 then decide (0<=n)&&decide (s=[])
 else if k=3 then decide (n=0)&&xU s
 else if k=15 then decide (n=0)&&(decide (s=[45])||decide (s=[33]))
 else if k=16 then decide (n=0)&&opsL.contains s
 else decide (n=0)&&decide (s=[])
abbrev cfP:Cfg:=fF (fun _=>false) [(261,jh BL fun s=> .bool (xU s))]
theorem puP:cw cfP Tryz.prog:=pure_cons (by kernel_rfl) (km NO) pure_nil
theorem QZ (k n:Int) (s c:List UInt8) (d b:Int) (nm:List UInt8) (sl:Value) (m:Mem) (hg:Glob m) (hs:BL s):
  FnH Tryz.prog 187 [.v (.agg ⟨[.int .i64 k,.int .i64 n,.string (bs s),.string (bs c),.int .i64 d,.int .u8 b,.string (bs nm),sl]⟩)] ⟨[],[]⟩ m fun r H' m' =>ah m m' /\H' =⟨[],[]⟩/\r= .v (.bool (oa k n s)):=by
 refine br puP Tryz.func187 ?_
 ·simp only[go_sem];refine⟨fun h=>by simp only[oa,ai h],fun h1=>⟨fun h=>by simp only[oa,aa h1,ai h],fun h2=>⟨fun h=>⟨fun _=>hs,by simp only[oa,aa h1,aa h2,ai h]⟩,fun h3=>⟨fun h=>by simp only[oa,aa h1,aa h2,aa h3,ai h],fun h4=>⟨fun h=> ?_,fun h=>by simp only[oa,aa h1,aa h2,aa h3,aa h4,aa h]⟩⟩⟩⟩⟩;have nk:=hg.2;refine nk.elim fun ad nk=>nk.elim fun cp nk=>⟨.slice (some ad) 19 cp,fun _=>nk.1,fun hn=>ak ((uR opsL s (some ad) 19 cp m nk.2.2 (by omega)).mono ?_),fun hn=> ?_⟩
  ·rintro r H' m' hm ⟨rfl,rfl⟩;simp only[go_sem];refine⟨.inr hm,?_⟩;simp only[oa,aa h1,aa h2,aa h3,aa h4,ai h,aP hn,Bool.true_and]
  ·simp only[oa,aa h1,aa h2,aa h3,aa h4,ai h,ab hn,Bool.false_and]
def qb (k n:Int) (s c:List UInt8) (d b:Int) (nm:List UInt8) (l:Nat):Bool:=
 isKind k&&decide ((kg k).2.2.2.1<=l)&&decide (l<=(kg k).2.2.2.2)&&(if(kg k).1=true then jL s&&decide (n=0) else oa k n s)&&(if(kg k).2.1=true then iy c else decide (c=[]))
  &&(if(kg k).2.2.1=true then iK d b nm&&(decide (k≠14)||decide (d<8)) else decide (d=0)&&decide (b=0)&&decide (nm=[]))
abbrev lY:Cfg:=fF (fun _=>false) [(113,jh BL fun s=> .bool (jL s)),(114,sB iK),(141,jh BL fun s=> .bool (iy s))]
theorem lP:cw lY Tryz.prog:=pure_cons (by kernel_rfl) (km CS) (pure_cons (by kernel_rfl) (xT CK) (pure_cons (by kernel_rfl) (km Af) pure_nil))
theorem aC {P:Program} {f:FuncId} {args qj:List SV} {H:Hp} {m:Mem} {R:SV->Hp->Mem->Prop} (h:FnH P f args H m R) (e:∀V,qj.map (den V)=args.map (den V)):FnH P f qj H m R:=
 fun V w D h1 h2 h3=>by rw[e V];exact h V w D h1 h2 h3
theorem O1 (k n:Int) (s c:List UInt8) (d b:Int) (nm:List UInt8) (a:Option Addr) (l cp:Nat) (m:Mem) (hg:Glob m) (hs:BL s) (hc:BL c) (hn:BL nm):
  FnH Tryz.prog 100 [.v (.agg ⟨[.int .i64 k,.int .i64 n,.string (bs s),.string (bs c),.int .i64 d,.int .u8 b,.string (bs nm),.slice a l cp]⟩)] ⟨[],[]⟩ m fun r H' m' =>ah m m' /\H' =⟨[],[]⟩/\r= .v (.bool (qb k n s c d b nm l)):=by
 refine br lP Tryz.func100 ?_
 ·simp only[go_sem];refine ak (((Nz k m).mono (R' :=fun r H' m' =>m' =m/\H' =⟨[],[]⟩/\∃i cl ty lo hi,kg k=(i,cl,ty,lo,hi)/\r= .tup [.agg [.v (.bool i),.v (.bool cl),.v (.bool ty),.v (.int .i64 lo),.v (.int .i64 hi)],.v (.bool (isKind k))]) fun r H' m' hm h=>⟨h.1,h.2.1,_,_,_,_,_,rfl,h.2.2⟩).mono ?_);rintro r H' m' hm ⟨rfl,rfl,i,cl,ty,lo,hi,uk,rfl⟩;simp only[go_sem,dC];have zy:∀x:Bool,(isKind k=false\/(l:Int)<lo)\/hi<(l:Int)->false=(isKind k&&decide (lo<=(l:Int))&&decide ((l:Int)<=hi)&&x):=fun x h=>by
   rcases h with (h |h) |h
   ·simp [h]
   ·rw[ab (by omega:¬lo<=(l:Int))];simp
   ·rw[ab (by omega:¬(l:Int)<=hi)];simp
  have hN:qb k n s c d b nm l=(isKind k&&decide (lo<=(l:Int))&&decide ((l:Int)<=hi)&&(if i=true then jL s&&decide (n=0) else oa k n s)&&(if cl=true then iy c else decide (c=[]))
    &&(if ty=true then iK d b nm&&(decide (k≠14)||decide (d<8)) else decide (d=0)&&decide (b=0)&&decide (nm=[]))):=by simp only[qb,uk]
  refine⟨fun h=> ?_,fun h=> ?_⟩
  ·rw[hN,Bool.and_assoc,Bool.and_assoc];exact zy _ h
  ·have e1:=h.1.1;have e2:decide (lo<=(l:Int))=true:=aP (by have:=h.1.2;omega);have e3:decide ((l:Int)<=hi)=true:=aP (by have:=h.2;omega);have hM:qb k n s c d b nm l=((if i=true then jL s&&decide (n=0) else oa k n s)&&(if cl=true then iy c else decide (c=[]))&&(if ty=true then iK d b nm&&(decide (k≠14)||decide (d<8)) else decide (d=0)&&decide (b=0)&&decide (nm=[]))):=by
    rw[hN,e1,e2,e3];simp only[Bool.true_and]
   refine⟨fun hi=>⟨hs,fun bq=>⟨fun _=>hc,fun ht=>⟨fun _=>hn,by rw[hM];simp [hi,bq,ht,Bool.and_assoc]⟩,fun ht=>by rw[hM];simp [hi,bq,ht,Bool.and_assoc]⟩,fun bq=>⟨fun ht=>⟨fun _=>hn,by rw[hM];simp [hi,bq,ht,Bool.and_assoc]⟩,fun ht=>by rw[hM];simp [hi,bq,ht,Bool.and_assoc]⟩⟩,fun hi=>ak ((aC (QZ k n s c d b nm (.slice a l cp) m' hg hs) (fun V=>rfl)).mono ?_)⟩;rintro r H' m2 aJ ⟨hle,rfl,rfl⟩;simp only[go_sem,dC];exact⟨fun bq=>⟨fun _=>hc,fun ht=>⟨fun _=>hn,hle,by rw[hM];simp [hi,bq,ht,Bool.and_assoc]⟩,fun ht=>⟨hle,by rw[hM];simp [hi,bq,ht,Bool.and_assoc]⟩⟩,fun bq=>⟨fun ht=>⟨fun _=>hn,hle,by rw[hM];simp [hi,bq,ht,Bool.and_assoc]⟩,fun ht=>⟨hle,by rw[hM];simp [hi,bq,ht,Bool.and_assoc]⟩⟩⟩
structure Ty where
 dim:Int
 base:Int
 name:List UInt8
inductive Ex where
 |mk (k n:Int) (s c:List UInt8) (ty:Ty) (args:List Ex)
inductive St where
 |mk (k:Int) (name:List UInt8) (ty:Ty) (tg ex:Ex) (body alt:List St)
abbrev aw:Nat:=2000000
def tZ (t:Ty):List Value:=[.int .i64 t.dim,.int .u8 t.base,.string (bs t.name)]
def tW (t:Ty):Prop:=aB t.dim/\(0<=t.base/\t.base<256)/\t.name.length<=aw
def dZ (k n:Int) (s c:List UInt8) (ty:Ty) (sl:Value):List Value:=[.int .i64 k,.int .i64 n,.string (bs s),.string (bs c),.int .i64 ty.dim,.int .u8 ty.base,.string (bs ty.name),sl]
def BN (k n:Int) (s c:List UInt8) (ty:Ty) (l:Nat):Prop:=aB k/\aB n/\s.length<=aw/\c.length<=aw/\tW ty/\l<=aw
mutual
def aW (m:Mem):Ex->List Value->Prop
 | .mk k n s c ty args,cs=>∃a cp xs,cs=dZ k n s c ty (.slice a args.length cp)/\args.length<=cp/\ax m a args.length 8 xs/\BN k n s c ty args.length/\dB m args xs
def dB (m:Mem):List Ex->List Value->Prop
 |[],_=>True
 |e::r,xs=>aW m e (xs.take 8)/\dB m r (xs.drop 8)
end
theorem tk {m:Mem}:∀{l:List Ex} {xs:List Value} {i:Nat} (_:dB m l xs) (hi:i<l.length),aW m l[i] ((xs.drop (i * 8)).take 8)
 |[],_,_,_,hi=>absurd hi (Nat.not_lt_zero _)
 |e::r,xs,0,h,_=>by simp only[dB] at h;simpa using h.1
 |e::r,xs,i+1,h,hi=>by
  simp only[dB] at h;have:=tk (i:=i) h.2 (by simpa using hi);rw[List.drop_drop] at this;rw[show(i+1) * 8=8+i * 8 by omega];exact this
mutual
theorem sY {m m' :Mem} (hle:m.le m'):∀(e:Ex) (cs:List Value),aW m e cs->aW m' e cs
 | .mk k n s c ty args,cs,h=>by
  simp only[aW] at h ⊢;obtain⟨a,cp,xs,h1,h2,h3,h4,h5⟩:=h;exact⟨a,cp,xs,h1,h2,yc hle h3,h4,Dc hle args xs h5⟩
theorem Dc {m m' :Mem} (hle:m.le m'):∀(l:List Ex) (xs:List Value),dB m l xs->dB m' l xs
 |[],_,_=>by simp only[dB]
 |e::r,xs,h=>by
  simp only[dB] at h ⊢;exact⟨sY hle e _ h.1,Dc hle r _ h.2⟩
end
mutual
def eL:Ex->Nat
 | .mk _ _ _ _ _ args=>iP args+1
def iP:List Ex->Nat
 |[]=>0
 |e::r=>max (eL e) (iP r)
end
theorem Ap:∀{l:List Ex} {i:Nat} (hi:i<l.length),eL l[i]<=iP l
 |[],_,hi=>absurd hi (Nat.not_lt_zero _)
 |e::r,0,_=>by simp only[iP];exact Nat.le_max_left _ _
 |e::r,i+1,hi=>by
  have:=Ap (l:=r) (i:=i) (by simpa using hi);simp only[iP];exact dk this (Nat.le_max_right _ _)
theorem CT:∀{l:List Ex} {i:Nat} (hi:i<l.length),iP (l.take (i+1))=max (iP (l.take i)) (eL l[i])
 |[],_,hi=>absurd hi (Nat.not_lt_zero _)
 |e::r,0,_=>by simp [iP]
 |e::r,i+1,hi=>by
  have:=CT (l:=r) (i:=i) (by simpa using hi);simp only[List.take_succ_cons,iP,this];rw[List.getElem_cons_succ,Nat.max_assoc]
def aI (f:FuncId) (args:List SV) (m:Mem) (v:Value):Prop:=FnH Tryz.prog f args ⟨[],[]⟩ m fun r H' m' =>ah m m' /\H' =⟨[],[]⟩/\r= .v v
theorem Qf {α:Type} {l:List α} {B:α->Bool} {k:Nat} (h:k<l.length):(l.take (k+1)).any B=((l.take k).any B||B l[k]):=by
 rw[List.take_succ_eq_append_getElem h,List.any_append];simp
theorem Glob.upM {m m' :Mem} (h:Glob m) (hm:ah m m'):Glob m' :=by
 rcases hm with rfl |hm
 ·exact h
 ·exact h.up hm
theorem bV {m m' :Mem} {e:Ex} {cs:List Value} (hle:ah m m') (h:aW m e cs):aW m' e cs:=by
 rcases hle with rfl |hle
 ·exact h
 ·exact sY hle e cs h
theorem wY {m m' :Mem} {l:List Ex} {cs:List Value} (hle:ah m m') (h:dB m l cs):dB m' l cs:=by
 rcases hle with rfl |hle
 ·exact h
 ·exact Dc hle l cs h
theorem aM {m m' :Mem} {a:Option Addr} {n sz:Nat} {xs:List Value} (hle:ah m m') (h:ax m a n sz xs):ax m' a n sz xs:=by
 rcases hle with rfl |hle
 ·exact h
 ·exact yc hle h
theorem ae {m m' pq:Mem} (h:ah m m') (h' :ah m' pq):ah m pq:=by
 rcases h with rfl |h
 ·exact h'
 ·rcases h' with rfl |h'
  ·exact .inr h
  ·exact .inr (Mem.le_trans h h')
theorem Ng (f:FuncId) (B:Ex->Bool) (l:List Ex) (a:Option Addr) (n c:Nat) (xs:List Value) (m:Mem) (hl:l.length=n) (hr:ax m a n 8 xs) (he:dB m l xs) (hn:n<=aw) (ao:de Tryz.prog f=true)
  (hf:∀i (hi:i<l.length) cs m',ah m m' ->aW m' l[i] cs->aI f [.v (.agg ⟨cs⟩)] m' (.bool (B l[i]))):
  FnH Tryz.prog 188 [.v (.slice a n c),.v (.func (.func f) ⟨[]⟩ ⟨[]⟩)] ⟨[],[]⟩ m fun r H' m' =>ah m m' /\H' =⟨[],[]⟩/\∃i:Int,r= .v (.int .i64 i)/\decide (0<=i)=l.any B:=by
 refine br aq Tryz.func188 ?_
 ·simp only[go_sem];refine gz aq (fun x:Nat×Mem=>⟨[⟨0,[],.v (.slice a n c)⟩,⟨1,[],.v (.func (.func f) ⟨[]⟩ ⟨[]⟩)⟩,⟨7,[],.v (.int .i64 n)⟩,⟨8,[],.v (.int .i64 x.1)⟩],[],[],[],0,x.2⟩)
   (fun x=>ah m x.2/\x.1<=n/\(l.take x.1).any B=false) (fun x=>n - x.1) (0,m) (fun _ _=>aA _) (fun x hx=>hx.1) ?_ ?_ ?_
  ·simp only[go_sem];rfl
  ·exact⟨.inl rfl,aF _,rfl⟩
  ·rintro⟨k,mm⟩ ⟨h1,h2,h3⟩;simp only at h1 h2 h3;have bQ:bj.own f=false:=rfl;have L9:∀(hk:k<n),Rd mm (bc a (k * 8)) ((xs.drop (k * 8)).take 8)/\a≠none:=fun hk=>dK (aM h1 hr) hk
   have sJ:∀(hk:k<n),((xs.drop (k * 8)).take 8).length=8:=fun hk=>by
    have:=hr.1;have hm:(k+1) * 8<=n * 8:=Nat.mul_le_mul_right _ hk;rw[List.length_take,gh];omega
   simp only[go_sem,bQ];refine⟨fun an=> ?_,fun fZ=>⟨h1,?_⟩⟩
   ·have hk:k<n:=by clear hf;omega
    have eI:k<l.length:=by clear hf;omega
    refine⟨⟨by clear hf;omega,an,(L9 hk).2⟩,_,⟨(L9 hk).1,sJ hk⟩,ao,bF ((hf k eI _ mm h1 (bV h1 (tk he eI))).mono ?_)⟩;clear hf;rintro r H' m' hm ⟨hle,rfl,rfl⟩;simp only[go_sem];refine⟨fun hb=>⟨ae h1 hle,?_⟩,fun hb=>⟨by unfold aB;simp only[aw] at hn;omega,(k+1,m'),⟨by simp,.inl rfl⟩,⟨ae h1 hle,by simp only;omega,?_⟩,by simp only;omega⟩⟩
    ·have:l.any B=true:=List.any_eq_true.2 ⟨_,List.getElem_mem eI,hb⟩;rw[this];simp
    ·simp only;rw[Qf eI,h3,hb];rfl
   ·rw[jI (by clear hf;omega)] at h3;rw[h3];rfl
theorem F3 (f:FuncId) (B:Ex->Bool) (l:List Ex) (a:Option Addr) (n c:Nat) (xs:List Value) (m:Mem) (hl:l.length=n) (hr:ax m a n 8 xs) (he:dB m l xs) (hn:n<=aw) (ao:de Tryz.prog f=true)
  (hf:∀i (hi:i<l.length) cs m',ah m m' ->aW m' l[i] cs->aI f [.v (.agg ⟨cs⟩)] m' (.bool (B l[i]))):
  aI 101 [.v (.slice a n c),.v (.func (.func f) ⟨[]⟩ ⟨[]⟩)] m (.bool (l.any B)):=by
 refine br aq Tryz.func101 ?_
 ·simp only[go_sem];refine ak ((Ng f B l a n c xs m hl hr he hn ao hf).mono ?_);clear hf;rintro r H' m' hm ⟨hle,rfl,i,rfl,hi⟩;simp only[go_sem];exact⟨hle,hi⟩
mutual
def cY:Ex->Bool
 | .mk k n s c ty args=>qb k n s c ty.dim ty.base ty.name args.length&&kE args
def kE:List Ex->Bool
 |[]=>true
 |e::r=>cY e&&kE r
end
theorem Cx:∀(l:List Ex),(!l.any fun e=> !cY e)=kE l
 |[]=>rfl
 |e::r=>by
  simp only[List.any_cons,kE,<- Cx r];cases cY e<;>simp
theorem mh:∀(h:Nat) (e:Ex) (cs:List Value) (m:Mem),eL e<=h->Glob m->aW m e cs->aI 51 [.v (.agg ⟨cs⟩)] m (.bool (cY e))
 |0,.mk k n s c ty args,cs,m,hd,_,_=>by simp [eL] at hd
 |h+1,.mk k n s c ty args,cs,m,hd,hg,he=>by
  simp only[aW] at he;obtain⟨a,cp,xs,rfl,bN,hr,ao,cF⟩:=he;have hn:=ao.2.2.2.2.2;simp only[eL] at hd;have hf:∀i (hi:i<args.length) cs m',ah m m' ->aW m' args[i] cs->aI 102 [.v (.agg ⟨cs⟩)] m' (.bool (!cY args[i])):=fun i hi cs m' hle bU=>by
   have hlen:∃c0 c1 c2 c3 c4 c5 c6 c7,cs=[c0,c1,c2,c3,c4,c5,c6,c7]:=by
    cases lE:args[i] with
    |mk k n s c ty args=>
     rw[lE] at bU;simp only[aW] at bU;obtain⟨a,cp,xs,rfl,_⟩:=bU;exact⟨_,_,_,_,_,_,_,_,rfl⟩
   have ih:=mh h args[i] cs m' (by have:=Ap hi;omega) (hg.upM hle) bU;obtain⟨c0,c1,c2,c3,c4,c5,c6,c7,rfl⟩:=hlen;refine br aq Tryz.func102 ?_
   ·simp only[go_sem];refine ak ((aC ih (fun V=>rfl)).mono ?_);rintro r H' m2 aJ ⟨bD,rfl,rfl⟩;simp only[go_sem];exact bD
  have hv:=fun m' (hm:ah m m')=>F3 102 (fun e=> !cY e) args a args.length cp xs m' rfl (aM hm hr) (wY hm cF) hn (by kernel_rfl) (fun i hi cs m2 hle=>hf i hi cs m2 (ae hm hle))
  have XH:=O1 k n s c ty.dim ty.base ty.name a args.length cp m hg (dk ao.2.2.1 (by decide)) (dk ao.2.2.2.1 (by decide)) (dk ao.2.2.2.2.1.2.2 (by decide));clear hf;refine enter bj aq Tryz.func51 rfl rfl (by kernel_rfl) rfl ?_ ?_
  ·simp only[go_sem,dZ]
  ·simp only[go_sem,dZ];refine ak ((aC XH (fun V=>rfl)).mono ?_);rintro r H' m2 aJ ⟨hle,rfl,rfl⟩;simp only[go_sem];refine⟨fun hb=>ak ((hv m2 hle).mono ?_),fun hb=>⟨hle,?_⟩⟩
   ·clear hv;rintro r H' m3 dx ⟨tQ,rfl,rfl⟩;simp only[go_sem];refine⟨ae hle tQ,?_⟩;rw[Cx,cY,hb,Bool.true_and]
   ·rw[cY,hb,Bool.false_and]
structure Nd where
 k:Int
 n:Int
 s:List UInt8
 c:List UInt8
 ty:Ty
 a:Option Addr
 l:Nat
 cp:Nat
def Nd.cs (x:Nd):List Value:=[.int .i64 x.k,.int .i64 x.n,.string (bs x.s),.string (bs x.c),.int .i64 x.ty.dim,.int .u8 x.ty.base,.string (bs x.ty.name),.slice x.a x.l x.cp]
theorem ri {m:Mem} {e:Ex} {cs:List Value} (h:aW m e cs):∃x:Nd,cs=x.cs:=by
 cases e with
 |mk k n s c ty args=>
  simp only[aW] at h;obtain⟨a,cp,xs,rfl,_⟩:=h;exact⟨⟨k,n,s,c,ty,a,args.length,cp⟩,rfl⟩
theorem Aq:∀(h:Nat) (e:Ex) (cs:List Value) (m:Mem),eL e<=h->h<=aw->aW m e cs->aI 236 [.v (.agg ⟨cs⟩)] m (.int .i64 (eL e))
 |0,.mk k n s c ty args,cs,m,hd,_,_=>by simp [eL] at hd
 |h+1,.mk k n s c ty args,cs,m,hd,hb,he=>by
  simp only[aW] at he;obtain⟨a,cp,xs,rfl,bN,hr,ao,cF⟩:=he;have hn:=ao.2.2.2.2.2;simp only[eL] at hd;refine enter bj aq Tryz.func236 rfl rfl (by kernel_rfl) rfl ?_ ?_
  ·simp only[go_sem,dZ]
  ·simp only[go_sem,dZ];refine gz aq (fun x:Nat×Mem=>⟨[⟨3,[],.v (.int .i64 (iP (args.take x.1)))⟩,⟨7,[],.v (.slice a args.length cp)⟩,⟨8,[],.v (.int .i64 args.length)⟩,⟨9,[],.v (.int .i64 x.1)⟩],[],[],[],1,x.2⟩)
    (fun x=>ah m x.2/\x.1<=args.length) (fun x=>args.length - x.1) (0,m) (fun _ _=>aA _) (fun x hx=>hx.1) ?_ ?_ ?_
   ·simp only[go_sem];exact⟨rfl,rfl⟩
   ·exact⟨.inl rfl,aF _⟩
   ·rintro⟨i,mm⟩ ⟨h1,h2⟩;simp only at h1 h2;have hx:∀(hi:i<args.length),∃x:Nd,Rd mm (bc a (i * 8)) x.cs/\a≠none/\aI 236 [.v (.agg ⟨x.cs⟩)] mm (.int .i64 (eL args[i])):=fun hi=>by
     have bU:=bV h1 (tk cF hi);obtain⟨x,hx⟩:=ri bU;have cR:=dK (aM h1 hr) hi;rw[hx] at bU cR;exact⟨x,cR.1,cR.2,Aq h args[i] x.cs mm (by have:=Ap hi;omega) (by omega) bU⟩
    simp only[go_sem];refine⟨fun an=> ?_,fun fZ=> ?_⟩
    ·refine Exists.elim (hx (by clear hx;omega)) fun x cW=>⟨⟨by clear hx cW;omega,an,cW.2.1⟩,x.cs,⟨cW.1,rfl⟩,?_⟩
     clear hx;have ha:=cW.2.2;simp only[go_sem,Nd.cs];refine ak ((aC ha (fun V=>rfl)).mono ?_);clear cW ha;rintro r H' m2 aJ ⟨bD,rfl,rfl⟩;simp only[go_sem];have hi:i<args.length:=by omega
     have hdt:=CT hi;refine⟨by unfold aB;simp only[aw] at hn;omega,(i+1,m2),⟨⟨?_,by simp⟩,.inl rfl⟩,⟨ae h1 bD,by simp only;omega⟩,by simp only;omega⟩;simp only;rw[hdt];split<;>omega
    ·clear hx;have:args.take i=args:=jI (by omega);rw[this];simp only[eL];exact⟨by unfold aB;simp only[aw] at hb;omega,h1,by omega⟩
mutual
def nP:Ex->Nat
 | .mk _ _ _ _ _ args=>oQ args+1
def oQ:List Ex->Nat
 |[]=>0
 |e::r=>nP e+oQ r
end
def sg (s:List UInt8):Tk:=⟨6,s,0,0⟩
def kw (s:List UInt8):Tk:=⟨2,s,0,0⟩
def ik (s:List UInt8):Tk:=⟨1,s,0,0⟩
theorem Sj {l:List (List UInt8)} {a:Option Addr} {n:Nat} {m:Mem} (hr:ax m a n 1 (strs l)) {k:Nat} (hk:k<l.length):Rd m (bc a k) [.string (bs l[k])]/\a≠none:=by
 have hl:l.length=n:=by have:=hr.1;simpa [strs] using this
 obtain⟨hx,h,cv⟩:=Ea hr (by omega:k<n);have e:(strs l)[k]= .string (bs l[k]):=by simp [strs]
 rw[e] at h;exact⟨h,cv⟩
def Lf:List UInt8:=[105,110,116]
def KT:List UInt8:=[108,111,110,103]
def W7:List UInt8:=[118,111,105,100]
def Yt (b:Int) (nm:List UInt8):Tk:=if b=73 then kw Lf else if b=74 then kw KT else if b=86 then kw W7 else ik nm
def ZS (d:Int):List Tk:=(List.replicate d.toNat [sg [91],sg [93]]).flatten
def rR (d b:Int) (nm:List UInt8):List Tk:=Yt b nm::ZS d
def KG:Bool->List (List Tk)->List Tk
 |_,[]=>[]
 |f,t::r=>(if f=true then t else sg [44]::t)++KG false r
def lC (l:List (List Tk)):List Tk:=sg [40]::(KG true l++[sg [41]])
def Zr (k:Int):Bool:=decide (k=15)||decide (k=16)||decide (k=17)||decide (k=18)
def Zo (b:Bool) (t:List Tk):List Tk:=if b=true then lC [t] else t
def yZ (ts:List (Bool×List Tk)) (i:Nat):List Tk:=(ts.getD i (false,[])).2
def sD (ts:List (Bool×List Tk)) (i:Nat):List Tk:=Zo (ts.getD i (false,[])).1 (ts.getD i (false,[])).2
def Xu (k n:Int) (s c:List UInt8) (ty:Ty) (ts:List (Bool×List Tk)):List Tk:=
 if k=1 then[⟨3,[],n,0⟩]
 else if k=2 then[⟨4,[],n,0⟩]
 else if k=3 then[⟨5,s,0,0⟩]
 else if k=4 then[kw [110,117,108,108]]
 else if k=5 then[kw [116,104,105,115]]
 else if k=6 then[ik s]
 else if k=7 then sD ts 0++[sg [46]]++[ik s]
 else if k=8 then[ik c]++[sg [46]]++[ik s]
 else if k=9 then sD ts 0++[sg [91]]++yZ ts 1++[sg [93]]
 else if k=10 then sD ts 0++[sg [46]]++[ik s]++lC ((ts.drop 1).map (·.2))
 else if k=11 then[ik c]++[sg [46]]++[ik s]++lC (ts.map (·.2))
 else if k=12 then[kw [115,117,112,101,114]]++[sg [46]]++[ik s]++lC (ts.map (·.2))
 else if k=13 then[kw [110,101,119]]++[ik c]++lC (ts.map (·.2))
 else if k=14 then[kw [110,101,119]]++rR ty.dim ty.base ty.name++[sg [91]]++yZ ts 0++[sg [93]]
 else if k=15 then[sg s]++sD ts 0
 else if k=16 then sD ts 0++[sg s]++sD ts 1
 else if k=17 then sD ts 0++[kw [97,115]]++rR ty.dim ty.base ty.name
 else if k=18 then sD ts 0++[kw [105,115]]++rR ty.dim ty.base ty.name
 else if k=19 then[kw [108,101,110]]++lC [yZ ts 0]
 else if k=20 then[kw Lf]++lC [yZ ts 0]
 else if k=21 then[kw KT]++lC [yZ ts 0]
 else[]
def Ex.k:Ex->Int | .mk k _ _ _ _ _=>k
mutual
def nW:Ex->List Tk
 | .mk k n s c ty args=>Xu k n s c ty (KE args)
def KE:List Ex->List (Bool×List Tk)
 |[]=>[]
 |e::r=>(Zr e.k,nW e)::KE r
end
abbrev cap:Nat:=800000000
theorem Cv:∀{l:List Ex},kE l=true->∀e∈l,cY e=true
 |[],_,e,he=>by cases he
 |x::r,h,e,he=>by
  simp only[kE,bw] at h;rcases List.mem_cons.1 he with rfl |he
  ·exact h.1
  ·exact Cv h.2 e he
theorem CW:∀{l:List Ex} {e:Ex},e∈l->eL e<=iP l
 |[],e,he=>by cases he
 |x::r,e,he=>by
  simp only[iP];rcases List.mem_cons.1 he with rfl |he
  ·omega
  ·have:=CW he;omega
structure Sd where
 k:Int
 name:List UInt8
 ty:Ty
 tg:Nd
 ex:Nd
 a:Option Addr
 l:Nat
 cp:Nat
 b:Option Addr
 l2:Nat
 cp2:Nat
def Sd.cs (x:Sd):List Value:=[.int .i64 x.k,.string (bs x.name),.int .i64 x.ty.dim,.int .u8 x.ty.base,.string (bs x.ty.name),.int .i64 x.tg.k,.int .i64 x.tg.n,.string (bs x.tg.s),.string (bs x.tg.c),.int .i64 x.tg.ty.dim,.int .u8 x.tg.ty.base,.string (bs x.tg.ty.name),.slice x.tg.a x.tg.l x.tg.cp,.int .i64 x.ex.k,.int .i64 x.ex.n,.string (bs x.ex.s),.string (bs x.ex.c),.int .i64 x.ex.ty.dim,.int .u8 x.ex.ty.base,.string (bs x.ex.ty.name),.slice x.ex.a x.ex.l x.ex.cp,.slice x.a x.l x.cp,.slice x.b x.l2 x.cp2]
theorem Yw:cC Tryz.prog 59=some (some 23):=by kernel_rfl
theorem Y4:aK Tryz.prog 59=23:=by kernel_rfl
theorem UG:cU Tryz.prog 59=some [.v (.int .i64 0),.v (.string (bs [])),.v (.int .i64 0),.v (.int .u8 0),.v (.string (bs [])),.v (.int .i64 0),.v (.int .i64 0),.v (.string (bs [])),.v (.string (bs [])),.v (.int .i64 0),.v (.int .u8 0),.v (.string (bs [])),.v (.slice none 0 0),.v (.int .i64 0),.v (.int .i64 0),.v (.string (bs [])),.v (.string (bs [])),.v (.int .i64 0),.v (.int .u8 0),.v (.string (bs [])),.v (.slice none 0 0),.v (.slice none 0 0),.v (.slice none 0 0)]:=by kernel_rfl
theorem Ye:fP Tryz.prog 59=true:=by kernel_rfl
theorem WO:cC Tryz.prog 31=some none:=by kernel_rfl
theorem Xb:aK Tryz.prog 31=1:=by kernel_rfl
theorem XV:eb Tryz.prog 31=some 59:=by kernel_rfl
theorem Tu:a8 Tryz.prog 59 0=some (0,none,1):=by kernel_rfl
theorem Tt:a8 Tryz.prog 59 1=some (1,none,1):=by kernel_rfl
theorem Ts:a8 Tryz.prog 59 2=some (2,some 3,3):=by kernel_rfl
theorem Tr:a8 Tryz.prog 59 3=some (5,some 8,8):=by kernel_rfl
theorem Tq:a8 Tryz.prog 59 4=some (13,some 8,8):=by kernel_rfl
theorem To:a8 Tryz.prog 59 5=some (21,none,1):=by kernel_rfl
theorem Tn:a8 Tryz.prog 59 6=some (22,none,1):=by kernel_rfl
structure Mc where
 fl:Int
 res:Ty
 name:List UInt8
 pa:Option Addr
 pl:Nat
 pc:Nat
 hb:Bool
 a:Option Addr
 l:Nat
 cp:Nat
def Mc.cs (x:Mc):List Value:=[.int .i64 x.fl,.int .i64 x.res.dim,.int .u8 x.res.base,.string (bs x.res.name),.string (bs x.name),.slice x.pa x.pl x.pc,.bool x.hb,.slice x.a x.l x.cp]
theorem YC:cC Tryz.prog 45=some (some 8):=by kernel_rfl
theorem Y9:aK Tryz.prog 45=8:=by kernel_rfl
theorem UL:cU Tryz.prog 45=some [.v (.int .i64 0),.v (.int .i64 0),.v (.int .u8 0),.v (.string (bs [])),.v (.string (bs [])),.v (.slice none 0 0),.v (.bool false),.v (.slice none 0 0)]:=by kernel_rfl
theorem Yj:fP Tryz.prog 45=true:=by kernel_rfl
theorem WR:cC Tryz.prog 30=some none:=by kernel_rfl
theorem Xd:aK Tryz.prog 30=1:=by kernel_rfl
theorem XX:eb Tryz.prog 30=some 45:=by kernel_rfl
theorem TD:a8 Tryz.prog 45 0=some (0,none,1):=by kernel_rfl
theorem TC:a8 Tryz.prog 45 1=some (1,some 3,3):=by kernel_rfl
theorem TB:a8 Tryz.prog 45 2=some (4,none,1):=by kernel_rfl
theorem TA:a8 Tryz.prog 45 3=some (5,none,1):=by kernel_rfl
theorem Tz:a8 Tryz.prog 45 4=some (6,none,1):=by kernel_rfl
theorem Tx:a8 Tryz.prog 45 5=some (7,none,1):=by kernel_rfl
structure Cc where
 fl:Int
 name:List UInt8
 super:List UInt8
 ia:Option Addr
 il:Nat
 ic:Nat
 fa:Option Addr
 fn:Nat
 fc:Nat
 ma:Option Addr
 ml:Nat
 mc:Nat
 sa:Option Addr
 sl:Nat
 sc:Nat
def Cc.cs (x:Cc):List Value:=[.int .i64 x.fl,.string (bs x.name),.string (bs x.super),.slice x.ia x.il x.ic,.slice x.fa x.fn x.fc,.slice x.ma x.ml x.mc,.slice x.sa x.sl x.sc]
theorem YK:cC Tryz.prog 33=some (some 7):=by kernel_rfl
theorem Zh:aK Tryz.prog 33=7:=by kernel_rfl
theorem US:cU Tryz.prog 33=some [.v (.int .i64 0),.v (.string (bs [])),.v (.string (bs [])),.v (.slice none 0 0),.v (.slice none 0 0),.v (.slice none 0 0),.v (.slice none 0 0)]:=by kernel_rfl
theorem Yr:fP Tryz.prog 33=true:=by kernel_rfl
theorem WU:cC Tryz.prog 22=some none:=by kernel_rfl
theorem Xf:aK Tryz.prog 22=1:=by kernel_rfl
theorem XZ:eb Tryz.prog 22=some 33:=by kernel_rfl
theorem TN:a8 Tryz.prog 33 0=some (0,none,1):=by kernel_rfl
theorem TM:a8 Tryz.prog 33 1=some (1,none,1):=by kernel_rfl
theorem TL:a8 Tryz.prog 33 2=some (2,none,1):=by kernel_rfl
theorem TK:a8 Tryz.prog 33 3=some (3,none,1):=by kernel_rfl
theorem TJ:a8 Tryz.prog 33 4=some (4,none,1):=by kernel_rfl
theorem TI:a8 Tryz.prog 33 5=some (5,none,1):=by kernel_rfl
theorem TH:a8 Tryz.prog 33 6=some (6,none,1):=by kernel_rfl
structure Pc where
 ty:Ty
 name:List UInt8
def Pc.cs (x:Pc):List Value:=[.int .i64 x.ty.dim,.int .u8 x.ty.base,.string (bs x.ty.name),.string (bs x.name)]
theorem Yz:cC Tryz.prog 95=some (some 4):=by kernel_rfl
theorem Y7:aK Tryz.prog 95=4:=by kernel_rfl
theorem UJ:cU Tryz.prog 95=some [.v (.int .i64 0),.v (.int .u8 0),.v (.string (bs [])),.v (.string (bs []))]:=by kernel_rfl
theorem Yh:fP Tryz.prog 95=true:=by kernel_rfl
theorem WQ:cC Tryz.prog 43=some none:=by kernel_rfl
theorem Xc:aK Tryz.prog 43=1:=by kernel_rfl
theorem XW:eb Tryz.prog 43=some 95:=by kernel_rfl
theorem Tw:a8 Tryz.prog 95 0=some (0,some 3,3):=by kernel_rfl
theorem Tv:a8 Tryz.prog 95 1=some (3,none,1):=by kernel_rfl
structure Fc where
 fl:Int
 ty:Ty
 name:List UInt8
def Fc.cs (x:Fc):List Value:=[.int .i64 x.fl,.int .i64 x.ty.dim,.int .u8 x.ty.base,.string (bs x.ty.name),.string (bs x.name)]
theorem YH:cC Tryz.prog 40=some (some 5):=by kernel_rfl
theorem Ze:aK Tryz.prog 40=5:=by kernel_rfl
theorem UO:cU Tryz.prog 40=some [.v (.int .i64 0),.v (.int .i64 0),.v (.int .u8 0),.v (.string (bs [])),.v (.string (bs []))]:=by kernel_rfl
theorem Yn:fP Tryz.prog 40=true:=by kernel_rfl
theorem WT:cC Tryz.prog 29=some none:=by kernel_rfl
theorem Xe:aK Tryz.prog 29=1:=by kernel_rfl
theorem XY:eb Tryz.prog 29=some 40:=by kernel_rfl
theorem TG:a8 Tryz.prog 40 0=some (0,none,1):=by kernel_rfl
theorem TF:a8 Tryz.prog 40 1=some (1,some 3,3):=by kernel_rfl
theorem TE:a8 Tryz.prog 40 2=some (4,none,1):=by kernel_rfl
theorem Za:aK Tryz.prog 28=1:=by kernel_rfl
attribute [go_sem] Yw Y4 UG Ye WO Xb XV Tu Tt Ts Tr Tq To Tn YC Y9 UL Yj WR Xd XX TD TC TB TA Tz Tx YK Zh US Yr WU Xf XZ TN TM TL TK TJ TI TH Yz Y7 UJ Yh WQ Xc XW Tw Tv YH Ze UO Yn WT Xe XY TG TF TE Za
def lN (n:Nat) (B:Nat->Bool):Bool:=(List.range n).all B
theorem HV {n:Nat} {B:Nat->Bool}:lN (n+1) B=(lN n B&&B n):=by simp [lN,List.range_succ,List.all_append]
theorem Kj {n k:Nat} {B:Nat->Bool} (hk:k<n) (h:B k=false):lN n B=false:=by
 simp only[lN,List.all_eq_false,List.mem_range];exact⟨k,hk,by simp [h]⟩
theorem XR (f:FuncId) (B:Nat->Bool) (a:Option Addr) (n c:Nat) (a2:Option Addr) (n2 c2:Nat) (xs ys:List Value) (m:Mem) (hr:ax m a n 8 xs) (qK:ax m a2 n2 8 ys) (hn:n<=aw) (ao:de Tryz.prog f=true)
  (hx:∀i,i<n->n=n2->∃X Y:Nd,(xs.drop (i * 8)).take 8=X.cs/\(ys.drop (i * 8)).take 8=Y.cs/\∀m',ah m m' ->aI f [.v (.agg ⟨X.cs⟩),.v (.agg ⟨Y.cs⟩)] m' (.bool (B i))):
  aI 270 [.v (.slice a n c),.v (.slice a2 n2 c2),.v (.func (.func f) ⟨[]⟩ ⟨[]⟩)] m (.bool (decide (n=n2)&&lN n B)):=by
 refine br aq Tryz.func270 ?_
 ·simp only[go_sem];refine⟨fun cv=> ?_,fun heq=> ?_⟩
  ·have:¬n=n2:=by clear hx;omega
   rw[ab this];rfl
  ·have heq:n=n2:=by clear hx;omega
   subst heq;refine gz aq (fun x:Nat×Mem=>⟨[⟨1,[],.v (.slice a2 n c2)⟩,⟨2,[],.v (.func (.func f) ⟨[]⟩ ⟨[]⟩)⟩,⟨15,[],.v (.slice a n c)⟩,⟨16,[],.v (.int .i64 n)⟩,⟨17,[],.v (.int .i64 x.1)⟩],[],[],[],0,x.2⟩)
    (fun x=>ah m x.2/\x.1<=n/\lN x.1 B=true) (fun x=>n - x.1) (0,m) (fun _ _=>aA _) (fun x hx=>hx.1) ?_ ?_ ?_
   ·simp only[go_sem];rfl
   ·exact⟨.inl rfl,aF _,rfl⟩
   ·rintro⟨k,mm⟩ ⟨h1,h2,h3⟩;simp only at h1 h2 h3;have bQ:bj.own f=false:=rfl;have hy:∀(hk:k<n),∃X Y:Nd,(Rd mm (bc a (k * 8)) X.cs/\a≠none)/\(Rd mm (bc a2 (k * 8)) Y.cs/\a2≠none)/\aI f [.v (.agg ⟨X.cs⟩),.v (.agg ⟨Y.cs⟩)] mm (.bool (B k)):=fun hk=>by
     obtain⟨X,Y,e1,e2,e3⟩:=hx k hk rfl;have r1:=dK (aM h1 hr) hk;have r2:=dK (aM h1 qK) hk;rw[e1] at r1;rw[e2] at r2;exact⟨X,Y,r1,r2,e3 mm h1⟩
    clear hx;simp only[go_sem,bQ];refine⟨fun an=> ?_,fun fZ=>⟨h1,?_⟩⟩
    ·have hk:k<n:=by clear hy;omega
     refine Exists.elim (hy hk) fun X bH=>Exists.elim bH fun Y fq=>⟨⟨by clear hy bH fq;omega,an,fq.1.2⟩,X.cs,⟨fq.1.1,rfl⟩,?_⟩
     clear hy bH;have ha:=fq.2.2;simp only[go_sem,bQ,Nd.cs];refine⟨⟨by clear fq ha;omega,an,fq.2.1.2⟩,Y.cs,⟨fq.2.1.1,rfl⟩,?_⟩;clear fq;simp only[go_sem,bQ,Nd.cs];refine⟨ao,bF ((aC ha (fun V=>rfl)).mono ?_)⟩;clear ha;rintro r H' m2 aJ ⟨bD,rfl,rfl⟩;simp only[go_sem];refine⟨fun hb=>⟨ae h1 bD,?_⟩,fun hb=>⟨by unfold aB;simp only[aw] at hn;omega,(k+1,m2),⟨by simp,.inl rfl⟩,⟨ae h1 bD,by simp only;omega,?_⟩,by simp only;omega⟩⟩
     ·rw[Kj hk hb];simp
     ·simp only;rw[HV,h3,hb];rfl
    ·have:k=n:=by clear hy;omega
     rw[<- this,h3];simp
theorem KZ (f:FuncId) (B:Nat->Bool) (a:Option Addr) (n c:Nat) (a2:Option Addr) (n2 c2:Nat) (xs ys:List Value) (m:Mem) (hr:ax m a n 23 xs) (qK:ax m a2 n2 23 ys) (hn:n<=aw) (ao:de Tryz.prog f=true)
  (hx:∀i,i<n->n=n2->∃X Y:Sd,(xs.drop (i * 23)).take 23=X.cs/\(ys.drop (i * 23)).take 23=Y.cs/\∀m',ah m m' ->aI f [.v (.agg ⟨X.cs⟩),.v (.agg ⟨Y.cs⟩)] m' (.bool (B i))):
  aI 219 [.v (.slice a n c),.v (.slice a2 n2 c2),.v (.func (.func f) ⟨[]⟩ ⟨[]⟩)] m (.bool (decide (n=n2)&&lN n B)):=by
 refine br aq Tryz.func219 ?_
 ·simp only[go_sem];refine⟨fun cv=> ?_,fun heq=> ?_⟩
  ·have:¬n=n2:=by clear hx;omega
   rw[ab this];rfl
  ·have heq:n=n2:=by clear hx;omega
   subst heq;refine gz aq (fun x:Nat×Mem=>⟨[⟨1,[],.v (.slice a2 n c2)⟩,⟨2,[],.v (.func (.func f) ⟨[]⟩ ⟨[]⟩)⟩,⟨15,[],.v (.slice a n c)⟩,⟨16,[],.v (.int .i64 n)⟩,⟨17,[],.v (.int .i64 x.1)⟩],[],[],[],0,x.2⟩)
    (fun x=>ah m x.2/\x.1<=n/\lN x.1 B=true) (fun x=>n - x.1) (0,m) (fun _ _=>aA _) (fun x hx=>hx.1) ?_ ?_ ?_
   ·simp only[go_sem];rfl
   ·exact⟨.inl rfl,aF _,rfl⟩
   ·rintro⟨k,mm⟩ ⟨h1,h2,h3⟩;simp only at h1 h2 h3;have bQ:bj.own f=false:=rfl;have hy:∀(hk:k<n),∃X Y:Sd,(Rd mm (bc a (k * 23)) X.cs/\a≠none)/\(Rd mm (bc a2 (k * 23)) Y.cs/\a2≠none)/\aI f [.v (.agg ⟨X.cs⟩),.v (.agg ⟨Y.cs⟩)] mm (.bool (B k)):=fun hk=>by
     obtain⟨X,Y,e1,e2,e3⟩:=hx k hk rfl;have r1:=dK (aM h1 hr) hk;have r2:=dK (aM h1 qK) hk;rw[e1] at r1;rw[e2] at r2;exact⟨X,Y,r1,r2,e3 mm h1⟩
    clear hx;simp only[go_sem,bQ];refine⟨fun an=> ?_,fun fZ=>⟨h1,?_⟩⟩
    ·have hk:k<n:=by clear hy;omega
     refine Exists.elim (hy hk) fun X bH=>Exists.elim bH fun Y fq=>⟨⟨by clear hy bH fq;omega,an,fq.1.2⟩,X.cs,⟨fq.1.1,rfl⟩,?_⟩
     clear hy bH;have ha:=fq.2.2;simp only[go_sem,bQ,Sd.cs];refine⟨⟨by clear fq ha;omega,an,fq.2.1.2⟩,Y.cs,⟨fq.2.1.1,rfl⟩,?_⟩;clear fq;simp only[go_sem,bQ,Sd.cs];refine⟨ao,bF ((aC ha (fun V=>rfl)).mono ?_)⟩;clear ha;rintro r H' m2 aJ ⟨bD,rfl,rfl⟩;simp only[go_sem];refine⟨fun hb=>⟨ae h1 bD,?_⟩,fun hb=>⟨by unfold aB;simp only[aw] at hn;omega,(k+1,m2),⟨by simp,.inl rfl⟩,⟨ae h1 bD,by simp only;omega,?_⟩,by simp only;omega⟩⟩
     ·rw[Kj hk hb];simp
     ·simp only;rw[HV,h3,hb];rfl
    ·have:k=n:=by clear hy;omega
     rw[<- this,h3];simp
def Ty.eq (x y:Ty):Bool:=decide (x.dim=y.dim)&&(decide (x.base=y.base)&&decide (x.name=y.name))
def Pc.eq (x y:Pc):Bool:=decide (x.ty.dim=y.ty.dim)&&(decide (x.ty.base=y.ty.base)&&(decide (x.ty.name=y.ty.name)&&decide (x.name=y.name)))
def Fc.eq (x y:Fc):Bool:=decide (x.fl=y.fl)&&(decide (x.ty.dim=y.ty.dim)&&(decide (x.ty.base=y.ty.base)&&(decide (x.ty.name=y.ty.name)&&decide (x.name=y.name))))
structure Md where
 fl:Int
 res:Ty
 name:List UInt8
 params:List Pc
 hb:Bool
 body:List St
structure Cd where
 fl:Int
 name:List UInt8
 super:List UInt8
 ifs:List (List UInt8)
 fields:List Fc
 methods:List Md
 init:List St
def fu {α:Type} (e:α->α->Bool):List α->List α->Bool
 |[],[]=>true
 |a::r,b::t=>e a b&&fu e r t
 |_,_=>false
def pF {α:Type} (e:α->α->Bool) (l l2:List α) (i:Nat):Bool:=match l[i]?,l2[i]? with |some a,some b=>e a b |_,_=>false
theorem PQ {n:Nat} {B:Nat->Bool}:lN (n+1) B=(B 0&&lN n fun i=>B (i+1)):=by
 simp only[lN,List.range_succ_eq_map,List.all_cons,List.all_map];rfl
theorem Ay {α:Type} (e:α->α->Bool):∀(l l2:List α),fu e l l2=(decide (l.length=l2.length)&&lN l.length (pF e l l2))
 |[],[]=>rfl
 |[],b::t=>by simp [fu]
 |a::r,[]=>by simp [fu]
 |a::r,b::t=>by
  rw[fu,Ay e r t,cQ,cQ,PQ];have e1:decide (r.length+1=t.length+1)=decide (r.length=t.length):=by rw[decide_eq_decide];omega
  have e2:pF e (a::r) (b::t) 0=e a b:=rfl;have e3:(fun i=>pF e (a::r) (b::t) (i+1))=pF e r t:=by funext i;simp only[pF,List.getElem?_cons_succ]
  rw[e1,e2,e3];cases e a b<;>cases decide (r.length=t.length)<;>rfl
theorem KI {α:Type} {e:α->α->Bool} {l l2:List α} {i:Nat} (h:i<l.length) (h2:i<l2.length):pF e l l2 i=e l[i] l2[i]:=by
 simp only[pF,List.getElem?_eq_getElem h,List.getElem?_eq_getElem h2]
mutual
def nv:Ex->Ex->Bool
 | .mk k n s c ty args,.mk k' n' s' c' ty' qj=>decide (k=k')&&decide (n=n')&&decide (s=s')&&decide (c=c')&&Ty.eq ty ty' &&tS args qj
def tS:List Ex->List Ex->Bool
 |[],[]=>true
 |a::r,b::t=>nv a b&&tS r t
 |[],_::_=>false
 |_::_,[]=>false
end
theorem HI:∀(l l2:List Ex),tS l l2=fu nv l l2
 |[],[]=>by simp only[tS,fu]
 |a::r,b::t=>by simp only[tS,fu,HI r t]
 |[],_::_=>by simp only[tS,fu]
 |_::_,[]=>by simp only[tS,fu]
mutual
def et:St->St->Bool
 | .mk k nm ty tg ex body alt,.mk k' nm' ty' yY zJ yt yT=>decide (k=k')&&decide (nm=nm')&&Ty.eq ty ty' &&nv tg yY&&nv ex zJ&&mN body yt&&mN alt yT
def mN:List St->List St->Bool
 |[],[]=>true
 |a::r,b::t=>et a b&&mN r t
 |[],_::_=>false
 |_::_,[]=>false
end
theorem De:∀(l l2:List St),mN l l2=fu et l l2
 |[],[]=>by simp only[mN,fu]
 |a::r,b::t=>by simp only[mN,fu,De r t]
 |[],_::_=>by simp only[mN,fu]
 |_::_,[]=>by simp only[mN,fu]
/-! In memory. -/
structure StOk (k:Int) (nm:List UInt8) (ty:Ty) (l l2:Nat):Prop where
 k:aB k
 nm:nm.length<=aw
 ty:tW ty
 l:l<=aw
 l2:l2<=aw
mutual
def eg (m:Mem):St->List Value->Prop
 | .mk k nm ty tg ex body alt,cs=>∃x:Sd,(cs=x.cs/\x.k=k/\x.name=nm/\x.ty=ty)/\aW m tg x.tg.cs/\aW m ex x.ex.cs/\(x.l=body.length/\x.l<=x.cp/\x.l2=alt.length/\x.l2<=x.cp2)/\StOk k nm ty body.length alt.length/\
   ∃xs ys,ax m x.a x.l 23 xs/\ax m x.b x.l2 23 ys/\bG m body xs/\bG m alt ys
def bG (m:Mem):List St->List Value->Prop
 |[],_=>True
 |e::r,xs=>eg m e (xs.take 23)/\bG m r (xs.drop 23)
end
theorem ru {m:Mem}:∀{l:List St} {xs:List Value} {i:Nat} (_:bG m l xs) (hi:i<l.length),eg m l[i] ((xs.drop (i * 23)).take 23)
 |[],_,_,_,hi=>absurd hi (Nat.not_lt_zero _)
 |e::r,xs,0,h,_=>by simp only[bG] at h;simpa using h.1
 |e::r,xs,i+1,h,hi=>by
  simp only[bG] at h;have:=ru (i:=i) h.2 (by simpa using hi);rw[List.drop_drop] at this;rw[show(i+1) * 23=23+i * 23 by omega];exact this
mutual
theorem Ia {m m' :Mem} (hle:m.le m'):∀(e:St) (cs:List Value),eg m e cs->eg m' e cs
 | .mk k nm ty tg ex body alt,cs,h=>by
  simp only[eg] at h ⊢;obtain⟨x,h1,h2,h3,h4,h5,xs,ys,h6,h7,h8,h9⟩:=h;exact⟨x,h1,sY hle _ _ h2,sY hle _ _ h3,h4,h5,xs,ys,yc hle h6,yc hle h7,Ai hle body xs h8,Ai hle alt ys h9⟩
theorem Ai {m m' :Mem} (hle:m.le m'):∀(l:List St) (xs:List Value),bG m l xs->bG m' l xs
 |[],_,_=>by simp only[bG]
 |e::r,xs,h=>by
  simp only[bG] at h ⊢;exact⟨Ia hle e _ h.1,Ai hle r _ h.2⟩
end
theorem cG {m m' :Mem} {l:List St} {cs:List Value} (hle:ah m m') (h:bG m l cs):bG m' l cs:=by
 rcases hle with rfl |hle
 ·exact h
 ·exact Ai hle l cs h
theorem xb {m m' :Mem} {l:St} {cs:List Value} (hle:ah m m') (h:eg m l cs):eg m' l cs:=by
 rcases hle with rfl |hle
 ·exact h
 ·exact Ia hle l cs h
theorem Dp {m:Mem} {e:St} {cs:List Value} (h:eg m e cs):∃x:Sd,cs=x.cs:=by
 cases e with
 |mk k nm ty tg ex body alt=>
  simp only[eg] at h;obtain⟨x,h1,_⟩:=h;exact⟨x,h1.1⟩
def eu {α:Type} (R:α->List Value->Prop) (sz:Nat):List α->List Value->Prop
 |[],_=>True
 |e::r,xs=>R e (xs.take sz)/\eu R sz r (xs.drop sz)
theorem qd {α:Type} {R:α->List Value->Prop} {sz:Nat}:∀{l:List α} {xs:List Value} {i:Nat} (_:eu R sz l xs) (hi:i<l.length),R l[i] ((xs.drop (i * sz)).take sz)
 |[],_,_,_,hi=>absurd hi (Nat.not_lt_zero _)
 |e::r,xs,0,h,_=>by simpa using h.1
 |e::r,xs,i+1,h,hi=>by
  have:=qd (i:=i) h.2 (by simpa using hi);rw[List.drop_drop] at this;rw[show(i+1) * sz=sz+i * sz by rw[Nat.succ_mul,Nat.add_comm]];exact this
theorem iT {α:Type} {R R' :α->List Value->Prop} {sz:Nat} (h:∀a cs,R a cs->R' a cs):∀{l:List α} {xs:List Value},eu R sz l xs->eu R' sz l xs
 |[],_,_=>trivial
 |_::_,_,hl=>⟨h _ _ hl.1,iT h hl.2⟩
def flat {α:Type} (f:α->List Value) (l:List α):List Value:=(l.map f).flatten
theorem my {α:Type} {f:α->List Value} {sz:Nat} (hf:∀x,(f x).length=sz):∀{l:List α} {i:Nat} (hi:i<l.length),((flat f l).drop (i * sz)).take sz=f l[i]
 |[],_,hi=>absurd hi (Nat.not_lt_zero _)
 |x::r,0,_=>by
  simp only[flat,aG,List.flatten_cons,Nat.zero_mul,List.drop_zero,List.getElem_cons_zero];rw[<- hf x,List.take_left]
 |x::r,i+1,hi=>by
  have:=my hf (l:=r) (i:=i) (by simpa using hi);simp only[List.getElem_cons_succ];rw[<- this,Nat.succ_mul,Nat.add_comm,<- List.drop_drop];congr 2
  simp only[flat,aG,List.flatten_cons];rw[<- hf x,List.drop_left]
structure PcOk (p:Pc):Prop where
 ty:tW p.ty
 name:p.name.length<=aw
structure FcOk (p:Fc):Prop where
 fl:aB p.fl
 ty:tW p.ty
 name:p.name.length<=aw
structure MdOk (d:Md):Prop where
 fl:aB d.fl
 res:tW d.res
 name:d.name.length<=aw
 pl:d.params.length<=aw
 ps:∀p∈d.params,PcOk p
 l:d.body.length<=aw
def gW (m:Mem) (d:Md) (cs:List Value):Prop:=∃x:Mc,(cs=x.cs/\x.fl=d.fl/\x.res=d.res/\x.name=d.name/\x.hb=d.hb)/\(x.pl=d.params.length/\x.pl<=x.pc/\x.l=d.body.length/\x.l<=x.cp)/\MdOk d/\
 ax m x.pa x.pl 4 (flat Pc.cs d.params)/\∃xs,ax m x.a x.l 23 xs/\bG m d.body xs
structure CdOk (d:Cd):Prop where
 fl:aB d.fl
 name:d.name.length<=aw
 super:d.super.length<=aw
 il:d.ifs.length<=aw
 ifs:∀s∈d.ifs,s.length<=aw
 fn:d.fields.length<=aw
 fs:∀s∈d.fields,FcOk s
 ml:d.methods.length<=aw
 l:d.init.length<=aw
def gY (m:Mem) (d:Cd) (cs:List Value):Prop:=∃x:Cc,(cs=x.cs/\x.fl=d.fl/\x.name=d.name/\x.super=d.super)/\(x.il=d.ifs.length/\x.il<=x.ic/\x.fn=d.fields.length/\x.fn<=x.fc/\x.ml=d.methods.length/\x.ml<=x.mc/\x.sl=d.init.length/\x.sl<=x.sc)/\CdOk d/\
 ax m x.ia x.il 1 (strs d.ifs)/\ax m x.fa x.fn 5 (flat Fc.cs d.fields)/\∃xs ys,ax m x.ma x.ml 8 xs/\eu (gW m) 8 d.methods xs/\ax m x.sa x.sl 23 ys/\bG m d.init ys
theorem lg {m m' :Mem} (hle:ah m m') {d:Md} {cs:List Value} (h:gW m d cs):gW m' d cs:=by
 obtain⟨x,h1,h2,h3,h4,xs,h5,h6⟩:=h;exact⟨x,h1,h2,h3,aM hle h4,xs,aM hle h5,cG hle h6⟩
theorem vb {m m' :Mem} (hle:ah m m') {d:Cd} {cs:List Value} (h:gY m d cs):gY m' d cs:=by
 obtain⟨x,h1,h2,h3,h4,h5,xs,ys,h6,h7,h8,h9⟩:=h;exact⟨x,h1,h2,h3,aM hle h4,aM hle h5,xs,ys,aM hle h6,iT (fun _ _=>lg hle) h7,aM hle h8,cG hle h9⟩
def gV (m:Mem) (l:List Cd) (a:Option Addr) (n c:Nat):Prop:=n=l.length/\n<=c/\n<=aw/\∃xs,ax m a n 7 xs/\eu (gY m) 7 l xs
theorem nC {m m' :Mem} (hle:ah m m') {l:List Cd} {a:Option Addr} {n c:Nat} (h:gV m l a n c):gV m' l a n c:=by
 obtain⟨h1,h2,h3,xs,h4,h5⟩:=h;exact⟨h1,h2,h3,xs,aM hle h4,iT (fun _ _=>vb hle) h5⟩
mutual
def fN:St->Nat
 | .mk _ _ _ _ _ body alt=>max (b9 body) (b9 alt)+1
def b9:List St->Nat
 |[]=>0
 |e::r=>max (fN e) (b9 r)
end
theorem qY:∀{l:List St} {e:St},e∈l->fN e<=b9 l
 |[],e,he=>by cases he
 |x::r,e,he=>by
  simp only[b9];rcases List.mem_cons.1 he with rfl |he
  ·omega
  ·have:=qY he;omega
theorem Rw {m:Mem} {l l2:List Ex} {xs ys:List Value} (h1:dB m l xs) (h2:dB m l2 ys) {f:FuncId} (hf:∀a∈l,∀b∈l2,∀ca cb m',ah m m' ->aW m' a ca->aW m' b cb->aI f [.v (.agg ⟨ca⟩),.v (.agg ⟨cb⟩)] m' (.bool (nv a b))):
  ∀i,i<l.length->l.length=l2.length->∃X Y:Nd,(xs.drop (i * 8)).take 8=X.cs/\(ys.drop (i * 8)).take 8=Y.cs/\∀m',ah m m' ->aI f [.v (.agg ⟨X.cs⟩),.v (.agg ⟨Y.cs⟩)] m' (.bool (pF nv l l2 i)):=fun i hi he=>by
 have r1:=tk h1 hi;have r2:=tk h2 (by omega:i<l2.length);obtain⟨X,hX⟩:=ri r1;obtain⟨Y,hY⟩:=ri r2;rw[hX] at r1;rw[hY] at r2;refine⟨X,Y,hX,hY,fun m' hle=> ?_⟩;rw[KI hi (by omega)];exact hf _ (List.getElem_mem hi) _ (List.getElem_mem _) _ _ m' hle (bV hle r1) (bV hle r2)
theorem D6:∀(h:Nat) (a b:Ex) (ca cb:List Value) (m:Mem),eL a<=h->aW m a ca->aW m b cb->aI 218 [.v (.agg ⟨ca⟩),.v (.agg ⟨cb⟩)] m (.bool (nv a b))
 |0,.mk k n s c ty args,b,ca,cb,m,hd,_,_=>by simp [eL] at hd
 |h+1,.mk k n s c ty args,.mk k' n' s' c' ty' qj,ca,cb,m,hd,ha,hb=>by
  simp only[aW] at ha hb;obtain⟨a,cp,xs,rfl,bN,hr,ao,cF⟩:=ha;obtain⟨a',cp',xs',rfl,hcp',hr',hok',hes'⟩:=hb;simp only[eL] at hd;have hE:=fun m' (hle:ah m m')=>XR 218 (pF nv args qj) a args.length cp a' qj.length cp' xs xs' m' (aM hle hr) (aM hle hr') ao.2.2.2.2.2 (by kernel_rfl)
   (Rw (wY hle cF) (wY hle hes') fun x hx y hy cx cy pq bD r1 r2=>D6 h x y cx cy pq (by have:=CW hx;omega) r1 r2)
  simp only[<- Ay] at hE;refine enter bj aq Tryz.func218 rfl rfl (by kernel_rfl) rfl ?_ ?_
  ·simp only[go_sem,dZ]
  ·simp only[go_sem,dZ,dC];refine⟨fun h=>ak ((hE m (.inl rfl)).mono ?_),fun h=> ?_⟩
   ·clear hE;rintro r H' m2 aJ ⟨bD,rfl,rfl⟩;simp only[go_sem];refine⟨bD,?_⟩;simp only[nv,HI,Ty.eq,h,aV,Bool.true_and]
   ·clear hE;simp only[nv,Ty.eq];rcases h with (((h |h) |h) |h) |h |h |h<;>simp [h]
theorem J5 {α N:Type} {R:Mem->α->List Value->Prop} {uM:N->List Value} {sz:Nat} {e:α->α->Bool} (L7:∀m m' a c,ah m m' ->R m a c->R m' a c) (hN:∀m a c,R m a c->∃x:N,c=uM x) {m:Mem} {l l2:List α} {xs ys:List Value}
  (h1:∀i (hi:i<l.length),R m l[i] ((xs.drop (i * sz)).take sz)) (h2:∀i (hi:i<l2.length),R m l2[i] ((ys.drop (i * sz)).take sz)) {f:FuncId} (hf:∀a∈l,∀b∈l2,∀ca cb m',ah m m' ->R m' a ca->R m' b cb->aI f [.v (.agg ⟨ca⟩),.v (.agg ⟨cb⟩)] m' (.bool (e a b))):
  ∀i,i<l.length->l.length=l2.length->∃X Y:N,(xs.drop (i * sz)).take sz=uM X/\(ys.drop (i * sz)).take sz=uM Y/\∀m',ah m m' ->aI f [.v (.agg ⟨uM X⟩),.v (.agg ⟨uM Y⟩)] m' (.bool (pF e l l2 i)):=fun i hi he=>by
 have r1:=h1 i hi;have r2:=h2 i (by omega:i<l2.length);obtain⟨X,hX⟩:=hN _ _ _ r1;obtain⟨Y,hY⟩:=hN _ _ _ r2;rw[hX] at r1;rw[hY] at r2;refine⟨X,Y,hX,hY,fun m' hle=> ?_⟩;rw[KI hi (by omega)];exact hf _ (List.getElem_mem hi) _ (List.getElem_mem _) _ _ m' (hle) (L7 _ _ _ _ hle r1) (L7 _ _ _ _ hle r2)
theorem lp:∀(h:Nat) (a b:St) (ca cb:List Value) (m:Mem),fN a<=h->eg m a ca->eg m b cb->aI 119 [.v (.agg ⟨ca⟩),.v (.agg ⟨cb⟩)] m (.bool (et a b))
 |0,.mk k nm ty tg ex body alt,b,ca,cb,m,hd,_,_=>by simp [fN] at hd
 |h+1,.mk k nm ty tg ex body alt,.mk k' nm' ty' yY zJ yt yT,ca,cb,m,hd,ha,hb=>by
  simp only[eg] at ha hb;obtain⟨x,⟨rfl,rfl,rfl,rfl⟩,cP,hex,⟨hl,bN,cg,dd⟩,ao,xs,ys,r1,r2,s1,s2⟩:=ha;obtain⟨x',⟨rfl,rfl,rfl,rfl⟩,htg',hex',⟨kU,hcp',hl2',hcp2'⟩,hok',xs',ys',r1',r2',s1',s2'⟩:=hb;simp only[fN] at hd;have hT:=fun m' (hle:ah m m')=>D6 _ tg yY x.tg.cs x'.tg.cs m' (aA _) (bV hle cP) (bV hle htg')
  have hX:=fun m' (hle:ah m m')=>D6 _ ex zJ x.ex.cs x'.ex.cs m' (aA _) (bV hle hex) (bV hle hex')
  have hB:∀m',ah m m' ->aI 219 [.v (.slice x.a x.l x.cp),.v (.slice x'.a x'.l x'.cp),.v (.func (.func 119) ⟨[]⟩ ⟨[]⟩)] m' (.bool (mN body yt)):=fun m' hle=>by
   have hf:=J5 (R:=eg) (uM:=Sd.cs) (e:=et) (f:=119) (fun _ _ _ _=>xb) (fun _ _ _=>Dp) (fun i hi=>ru (cG hle s1) hi) (fun i hi=>ru (cG hle s1') hi)
    (fun a ha b hb ca cb m2 bD=>lp h a b ca cb m2 (by have:=qY ha;omega))
   rw[De,Ay];rw[<- hl,<- kU] at hf ⊢;exact KZ _ _ x.a x.l x.cp x'.a x'.l x'.cp xs xs' m' (aM hle r1) (aM hle r1') (by rw[hl];exact ao.l) (by kernel_rfl) hf
  have hA:∀m',ah m m' ->aI 219 [.v (.slice x.b x.l2 x.cp2),.v (.slice x'.b x'.l2 x'.cp2),.v (.func (.func 119) ⟨[]⟩ ⟨[]⟩)] m' (.bool (mN alt yT)):=fun m' hle=>by
   have hf:=J5 (R:=eg) (uM:=Sd.cs) (e:=et) (f:=119) (fun _ _ _ _=>xb) (fun _ _ _=>Dp) (fun i hi=>ru (cG hle s2) hi) (fun i hi=>ru (cG hle s2') hi)
    (fun a ha b hb ca cb m2 bD=>lp h a b ca cb m2 (by have:=qY ha;omega))
   rw[De,Ay];rw[<- cg,<- hl2'] at hf ⊢;exact KZ _ _ x.b x.l2 x.cp2 x'.b x'.l2 x'.cp2 ys ys' m' (aM hle r2) (aM hle r2') (by rw[cg];exact ao.l2) (by kernel_rfl) hf
  clear s1 s2 s1' s2';refine enter bj aq Tryz.func119 rfl rfl (by kernel_rfl) rfl ?_ ?_
  ·simp only[go_sem,Sd.cs,Nd.cs]
  ·simp only[go_sem,Sd.cs,Nd.cs,dC];refine⟨fun h=>ak ((aC (hT m (.inl rfl)) (fun V=>rfl)).mono ?_),fun h=> ?_⟩
   ·clear hT;rintro r H' m2 aJ ⟨l2,rfl,rfl⟩;simp only[go_sem,Sd.cs,Nd.cs];have e0:et (St.mk x.k x.name x.ty tg ex body alt) (St.mk x'.k x'.name x'.ty yY zJ yt yT)=(nv tg yY&&nv ex zJ&&mN body yt&&mN alt yT):=by simp only[et,Ty.eq,h,aV,Bool.true_and]
    refine⟨fun h1=>ak ((aC (hX m2 l2) (fun V=>rfl)).mono ?_),fun h1=> ?_⟩
    ·clear hX;rintro r H' m3 dx ⟨l3,rfl,rfl⟩;simp only[go_sem,Sd.cs,Nd.cs];refine⟨fun h2=>ak ((hB m3 (ae l2 l3)).mono ?_),fun h2=> ?_⟩
     ·clear hB;rintro r H' m4 iF ⟨l4,rfl,rfl⟩;simp only[go_sem,Sd.cs,Nd.cs];refine⟨fun h3=>ak ((hA m4 (ae (ae l2 l3) l4)).mono ?_),fun h3=> ?_⟩
      ·clear hA;rintro r H' m5 oy ⟨l5,rfl,rfl⟩;simp only[go_sem,Sd.cs,Nd.cs];refine⟨ae (ae (ae l2 l3) l4) l5,?_⟩;rw[e0,h1,h2,h3];rfl
      ·refine⟨ae (ae l2 l3) l4,?_⟩;rw[e0,h3,Bool.and_false];rfl
     ·refine⟨ae l2 l3,?_⟩;rw[e0,h2,Bool.and_false];rfl
    ·refine⟨l2,?_⟩;rw[e0,h1];rfl
   ·clear hT hX hB hA;simp only[et,Ty.eq];rcases h with (h |h) |h |h |h<;>simp [h]
theorem IH {m:Mem} {e:Md} {cs:List Value} (h:gW m e cs):∃x:Mc,cs=x.cs:=by
 obtain⟨x,h1,_⟩:=h;exact⟨x,h1.1⟩
def ij (n:Nat) (B:Nat->Bool):Bool:=(List.range n).any B
theorem Ax {n:Nat} {B:Nat->Bool}:ij (n+1) B=(ij n B||B n):=by simp [ij,List.range_succ,List.any_append]
theorem AK {n k:Nat} {B:Nat->Bool} (hk:k<n) (h:B k=true):ij n B=true:=by
 simp only[ij,List.any_eq_true,List.mem_range];exact⟨k,hk,h⟩
theorem HU {α:Type} (p:α->Bool):∀(l:List α) (B:Nat->Bool),(∀i (h:i<l.length),B i=p l[i])->ij l.length B=l.any p
 |[],_,_=>rfl
 |x::r,B,h=>by
  have h0:=h 0 (by simp);have hr:=HU p r (fun i=>B (i+1)) fun i hi=>h (i+1) (by simpa using hi)
  rw[List.any_cons,<- hr,cQ];simp only[ij,List.range_succ_eq_map,List.any_cons,List.any_map,h0,List.getElem_cons_zero];rfl
theorem XA (f:FuncId) (B:Nat->Bool) (a:Option Addr) (n c:Nat) (xs:List Value) (m:Mem) (hr:ax m a n 4 xs) (hn:n<=aw) (ao:de Tryz.prog f=true)
  (hx:∀i,i<n->∃X:Pc,(xs.drop (i * 4)).take 4=X.cs/\∀m',ah m m' ->aI f [.v (.agg ⟨X.cs⟩)] m' (.bool (B i))):
  FnH Tryz.prog 275 [.v (.slice a n c),.v (.func (.func f) ⟨[]⟩ ⟨[]⟩)] ⟨[],[]⟩ m fun r H' m' =>ah m m' /\H' =⟨[],[]⟩/\∃i:Int,r= .v (.int .i64 i)/\decide (0<=i)=ij n B:=by
 refine br aq Tryz.func275 ?_
 ·simp only[go_sem];refine gz aq (fun x:Nat×Mem=>⟨[⟨0,[],.v (.slice a n c)⟩,⟨1,[],.v (.func (.func f) ⟨[]⟩ ⟨[]⟩)⟩,⟨7,[],.v (.int .i64 n)⟩,⟨8,[],.v (.int .i64 x.1)⟩],[],[],[],0,x.2⟩)
   (fun x=>ah m x.2/\x.1<=n/\ij x.1 B=false) (fun x=>n - x.1) (0,m) (fun _ _=>aA _) (fun x hx=>hx.1) ?_ ?_ ?_
  ·simp only[go_sem];rfl
  ·exact⟨.inl rfl,aF _,rfl⟩
  ·rintro⟨k,mm⟩ ⟨h1,h2,h3⟩;simp only at h1 h2 h3;have bQ:bj.own f=false:=rfl;have hy:∀(hk:k<n),∃X:Pc,(Rd mm (bc a (k * 4)) X.cs/\a≠none)/\aI f [.v (.agg ⟨X.cs⟩)] mm (.bool (B k)):=fun hk=>by
     obtain⟨X,e1,e3⟩:=hx k hk;have r1:=dK (aM h1 hr) hk;rw[e1] at r1;exact⟨X,r1,e3 mm h1⟩
   clear hx;simp only[go_sem,bQ];refine⟨fun an=> ?_,fun fZ=>⟨h1,?_⟩⟩
   ·have hk:k<n:=by clear hy;omega
    refine Exists.elim (hy hk) fun X bH=>⟨⟨by clear hy bH;omega,an,bH.1.2⟩,X.cs,⟨bH.1.1,rfl⟩,?_⟩
    clear hy;have ha:=bH.2;clear bH;simp only[go_sem,bQ,Pc.cs];refine⟨ao,bF ((aC ha (fun V=>rfl)).mono ?_)⟩;clear ha;rintro r H' m' hm ⟨hle,rfl,rfl⟩;simp only[go_sem];refine⟨fun hb=>⟨ae h1 hle,?_⟩,fun hb=>⟨by unfold aB;simp only[aw] at hn;omega,(k+1,m'),⟨by simp,.inl rfl⟩,⟨ae h1 hle,by simp only;omega,?_⟩,by simp only;omega⟩⟩
    ·rw[AK hk hb];simp
    ·simp only;rw[Ax,h3,hb];rfl
   ·have:k=n:=by clear hy;omega
    rw[<- this,h3];rfl
theorem X0 (f:FuncId) (B:Nat->Bool) (a:Option Addr) (n c:Nat) (xs:List Value) (m:Mem) (hr:ax m a n 4 xs) (hn:n<=aw) (ao:de Tryz.prog f=true)
  (hx:∀i,i<n->∃X:Pc,(xs.drop (i * 4)).take 4=X.cs/\∀m',ah m m' ->aI f [.v (.agg ⟨X.cs⟩)] m' (.bool (B i))):
  aI 232 [.v (.slice a n c),.v (.func (.func f) ⟨[]⟩ ⟨[]⟩)] m (.bool (ij n B)):=by
 refine br aq Tryz.func232 ?_
 ·simp only[go_sem];refine ak ((XA f B a n c xs m hr hn ao hx).mono ?_);clear hx;rintro r H' m' hm ⟨hle,rfl,i,rfl,hi⟩;simp only[go_sem];exact⟨hle,hi⟩
theorem XC (f:FuncId) (B:Nat->Bool) (a:Option Addr) (n c:Nat) (xs:List Value) (m:Mem) (hr:ax m a n 5 xs) (hn:n<=aw) (ao:de Tryz.prog f=true)
  (hx:∀i,i<n->∃X:Fc,(xs.drop (i * 5)).take 5=X.cs/\∀m',ah m m' ->aI f [.v (.agg ⟨X.cs⟩)] m' (.bool (B i))):
  FnH Tryz.prog 234 [.v (.slice a n c),.v (.func (.func f) ⟨[]⟩ ⟨[]⟩)] ⟨[],[]⟩ m fun r H' m' =>ah m m' /\H' =⟨[],[]⟩/\∃i:Int,r= .v (.int .i64 i)/\decide (0<=i)=ij n B:=by
 refine br aq Tryz.func234 ?_
 ·simp only[go_sem];refine gz aq (fun x:Nat×Mem=>⟨[⟨0,[],.v (.slice a n c)⟩,⟨1,[],.v (.func (.func f) ⟨[]⟩ ⟨[]⟩)⟩,⟨7,[],.v (.int .i64 n)⟩,⟨8,[],.v (.int .i64 x.1)⟩],[],[],[],0,x.2⟩)
   (fun x=>ah m x.2/\x.1<=n/\ij x.1 B=false) (fun x=>n - x.1) (0,m) (fun _ _=>aA _) (fun x hx=>hx.1) ?_ ?_ ?_
  ·simp only[go_sem];rfl
  ·exact⟨.inl rfl,aF _,rfl⟩
  ·rintro⟨k,mm⟩ ⟨h1,h2,h3⟩;simp only at h1 h2 h3;have bQ:bj.own f=false:=rfl;have hy:∀(hk:k<n),∃X:Fc,(Rd mm (bc a (k * 5)) X.cs/\a≠none)/\aI f [.v (.agg ⟨X.cs⟩)] mm (.bool (B k)):=fun hk=>by
     obtain⟨X,e1,e3⟩:=hx k hk;have r1:=dK (aM h1 hr) hk;rw[e1] at r1;exact⟨X,r1,e3 mm h1⟩
   clear hx;simp only[go_sem,bQ];refine⟨fun an=> ?_,fun fZ=>⟨h1,?_⟩⟩
   ·have hk:k<n:=by clear hy;omega
    refine Exists.elim (hy hk) fun X bH=>⟨⟨by clear hy bH;omega,an,bH.1.2⟩,X.cs,⟨bH.1.1,rfl⟩,?_⟩
    clear hy;have ha:=bH.2;clear bH;simp only[go_sem,bQ,Fc.cs];refine⟨ao,bF ((aC ha (fun V=>rfl)).mono ?_)⟩;clear ha;rintro r H' m' hm ⟨hle,rfl,rfl⟩;simp only[go_sem];refine⟨fun hb=>⟨ae h1 hle,?_⟩,fun hb=>⟨by unfold aB;simp only[aw] at hn;omega,(k+1,m'),⟨by simp,.inl rfl⟩,⟨ae h1 hle,by simp only;omega,?_⟩,by simp only;omega⟩⟩
    ·rw[AK hk hb];simp
    ·simp only;rw[Ax,h3,hb];rfl
   ·have:k=n:=by clear hy;omega
    rw[<- this,h3];rfl
theorem X2 (f:FuncId) (B:Nat->Bool) (a:Option Addr) (n c:Nat) (xs:List Value) (m:Mem) (hr:ax m a n 5 xs) (hn:n<=aw) (ao:de Tryz.prog f=true)
  (hx:∀i,i<n->∃X:Fc,(xs.drop (i * 5)).take 5=X.cs/\∀m',ah m m' ->aI f [.v (.agg ⟨X.cs⟩)] m' (.bool (B i))):
  aI 147 [.v (.slice a n c),.v (.func (.func f) ⟨[]⟩ ⟨[]⟩)] m (.bool (ij n B)):=by
 refine br aq Tryz.func147 ?_
 ·simp only[go_sem];refine ak ((XC f B a n c xs m hr hn ao hx).mono ?_);clear hx;rintro r H' m' hm ⟨hle,rfl,i,rfl,hi⟩;simp only[go_sem];exact⟨hle,hi⟩
theorem XB (f:FuncId) (B:Nat->Bool) (a:Option Addr) (n c:Nat) (xs:List Value) (m:Mem) (hr:ax m a n 8 xs) (hn:n<=aw) (ao:de Tryz.prog f=true)
  (hx:∀i,i<n->∃X:Mc,(xs.drop (i * 8)).take 8=X.cs/\∀m',ah m m' ->aI f [.v (.agg ⟨X.cs⟩)] m' (.bool (B i))):
  FnH Tryz.prog 235 [.v (.slice a n c),.v (.func (.func f) ⟨[]⟩ ⟨[]⟩)] ⟨[],[]⟩ m fun r H' m' =>ah m m' /\H' =⟨[],[]⟩/\∃i:Int,r= .v (.int .i64 i)/\decide (0<=i)=ij n B:=by
 refine br aq Tryz.func235 ?_
 ·simp only[go_sem];refine gz aq (fun x:Nat×Mem=>⟨[⟨0,[],.v (.slice a n c)⟩,⟨1,[],.v (.func (.func f) ⟨[]⟩ ⟨[]⟩)⟩,⟨7,[],.v (.int .i64 n)⟩,⟨8,[],.v (.int .i64 x.1)⟩],[],[],[],0,x.2⟩)
   (fun x=>ah m x.2/\x.1<=n/\ij x.1 B=false) (fun x=>n - x.1) (0,m) (fun _ _=>aA _) (fun x hx=>hx.1) ?_ ?_ ?_
  ·simp only[go_sem];rfl
  ·exact⟨.inl rfl,aF _,rfl⟩
  ·rintro⟨k,mm⟩ ⟨h1,h2,h3⟩;simp only at h1 h2 h3;have bQ:bj.own f=false:=rfl;have hy:∀(hk:k<n),∃X:Mc,(Rd mm (bc a (k * 8)) X.cs/\a≠none)/\aI f [.v (.agg ⟨X.cs⟩)] mm (.bool (B k)):=fun hk=>by
     obtain⟨X,e1,e3⟩:=hx k hk;have r1:=dK (aM h1 hr) hk;rw[e1] at r1;exact⟨X,r1,e3 mm h1⟩
   clear hx;simp only[go_sem,bQ];refine⟨fun an=> ?_,fun fZ=>⟨h1,?_⟩⟩
   ·have hk:k<n:=by clear hy;omega
    refine Exists.elim (hy hk) fun X bH=>⟨⟨by clear hy bH;omega,an,bH.1.2⟩,X.cs,⟨bH.1.1,rfl⟩,?_⟩
    clear hy;have ha:=bH.2;clear bH;simp only[go_sem,bQ,Mc.cs];refine⟨ao,bF ((aC ha (fun V=>rfl)).mono ?_)⟩;clear ha;rintro r H' m' hm ⟨hle,rfl,rfl⟩;simp only[go_sem];refine⟨fun hb=>⟨ae h1 hle,?_⟩,fun hb=>⟨by unfold aB;simp only[aw] at hn;omega,(k+1,m'),⟨by simp,.inl rfl⟩,⟨ae h1 hle,by simp only;omega,?_⟩,by simp only;omega⟩⟩
    ·rw[AK hk hb];simp
    ·simp only;rw[Ax,h3,hb];rfl
   ·have:k=n:=by clear hy;omega
    rw[<- this,h3];rfl
theorem X1 (f:FuncId) (B:Nat->Bool) (a:Option Addr) (n c:Nat) (xs:List Value) (m:Mem) (hr:ax m a n 8 xs) (hn:n<=aw) (ao:de Tryz.prog f=true)
  (hx:∀i,i<n->∃X:Mc,(xs.drop (i * 8)).take 8=X.cs/\∀m',ah m m' ->aI f [.v (.agg ⟨X.cs⟩)] m' (.bool (B i))):
  aI 148 [.v (.slice a n c),.v (.func (.func f) ⟨[]⟩ ⟨[]⟩)] m (.bool (ij n B)):=by
 refine br aq Tryz.func148 ?_
 ·simp only[go_sem];refine ak ((XB f B a n c xs m hr hn ao hx).mono ?_);clear hx;rintro r H' m' hm ⟨hle,rfl,i,rfl,hi⟩;simp only[go_sem];exact⟨hle,hi⟩
theorem Zq (f:FuncId) (B:Nat->Bool) (a:Option Addr) (n c:Nat) (xs:List Value) (m:Mem) (hr:ax m a n 1 xs) (hn:n<=aw) (ao:de Tryz.prog f=true)
  (hx:∀i,i<n->∃s:List UInt8,xs[i]? =some (.string (bs s))/\∀m',ah m m' ->aI f [.v (.string (bs s))] m' (.bool (B i))):
  FnH Tryz.prog 233 [.v (.slice a n c),.v (.func (.func f) ⟨[]⟩ ⟨[]⟩)] ⟨[],[]⟩ m fun r H' m' =>ah m m' /\H' =⟨[],[]⟩/\∃i:Int,r= .v (.int .i64 i)/\decide (0<=i)=ij n B:=by
 refine br aq Tryz.func233 ?_
 ·simp only[go_sem];refine gz aq (fun x:Nat×Mem=>⟨[⟨0,[],.v (.slice a n c)⟩,⟨1,[],.v (.func (.func f) ⟨[]⟩ ⟨[]⟩)⟩,⟨7,[],.v (.int .i64 n)⟩,⟨8,[],.v (.int .i64 x.1)⟩],[],[],[],0,x.2⟩)
   (fun x=>ah m x.2/\x.1<=n/\ij x.1 B=false) (fun x=>n - x.1) (0,m) (fun _ _=>aA _) (fun x hx=>hx.1) ?_ ?_ ?_
  ·simp only[go_sem];rfl
  ·exact⟨.inl rfl,aF _,rfl⟩
  ·rintro⟨k,mm⟩ ⟨h1,h2,h3⟩;simp only at h1 h2 h3;have bQ:bj.own f=false:=rfl;have hy:∀(hk:k<n),∃s:List UInt8,(Rd mm (bc a k) [.string (bs s)]/\a≠none)/\aI f [.v (.string (bs s))] mm (.bool (B k)):=fun hk=>by
     obtain⟨s,e1,e3⟩:=hx k hk;obtain⟨pA,r1,cv⟩:=Ea (aM h1 hr) hk;rw[List.getElem?_eq_getElem pA] at e1;rw[Option.some.inj e1] at r1;exact⟨s,⟨r1,cv⟩,e3 mm h1⟩
   clear hx;simp only[go_sem,bQ];refine⟨fun an=> ?_,fun fZ=>⟨h1,?_⟩⟩
   ·have hk:k<n:=by clear hy;omega
    refine Exists.elim (hy hk) fun s bH=>⟨⟨by clear hy bH;omega,an,bH.1.2⟩,_,bH.1.1,?_⟩
    clear hy;have ha:=bH.2;clear bH;refine⟨ao,bF ((ha).mono ?_)⟩;clear ha;rintro r H' m' hm ⟨hle,rfl,rfl⟩;simp only[go_sem];refine⟨fun hb=>⟨ae h1 hle,?_⟩,fun hb=>⟨by unfold aB;simp only[aw] at hn;omega,(k+1,m'),⟨by simp,.inl rfl⟩,⟨ae h1 hle,by simp only;omega,?_⟩,by simp only;omega⟩⟩
    ·rw[AK hk hb];simp
    ·simp only;rw[Ax,h3,hb];rfl
   ·have:k=n:=by clear hy;omega
    rw[<- this,h3];rfl
theorem ZV (f:FuncId) (B:Nat->Bool) (a:Option Addr) (n c:Nat) (xs:List Value) (m:Mem) (hr:ax m a n 1 xs) (hn:n<=aw) (ao:de Tryz.prog f=true)
  (hx:∀i,i<n->∃s:List UInt8,xs[i]? =some (.string (bs s))/\∀m',ah m m' ->aI f [.v (.string (bs s))] m' (.bool (B i))):
  aI 146 [.v (.slice a n c),.v (.func (.func f) ⟨[]⟩ ⟨[]⟩)] m (.bool (ij n B)):=by
 refine br aq Tryz.func146 ?_
 ·simp only[go_sem];refine ak ((Zq f B a n c xs m hr hn ao hx).mono ?_);clear hx;rintro r H' m' hm ⟨hle,rfl,i,rfl,hi⟩;simp only[go_sem];exact⟨hle,hi⟩
def aj:Ty:=⟨0,0,[]⟩
def zE:Ex:= .mk 0 0 [] [] aj []
def ya (k n:Int) (s c:List UInt8) (ty:Ty) (l:Nat):Bool:=decide (l=0)&&decide (k=0)&&decide (n=0)&&decide (s=[])&&decide (c=[])&&Ty.eq ty aj
def A4:Ex->Bool | .mk k n s c ty args=>ya k n s c ty args.length
def xO:Ex->Bool | .mk k n s c ty args=>ya k n s c ty 0&&decide (args.length<=16)&&kE args
def pO (e:Ex):Bool:=(decide (e.k=6)||decide (e.k=7)||decide (e.k=8)||decide (e.k=9))&&cY e
def qg (e:Ex):Bool:=(decide (e.k=10)||decide (e.k=11)||decide (e.k=12)||decide (e.k=13))&&cY e
def St.k:St->Int | .mk k _ _ _ _ _ _=>k
def mB (k:Int) (nm:List UInt8) (ty:Ty) (tg ex:Ex) (body alt:List St):St:=
 if k=1 then .mk k nm ty zE ex [] []
 else if k=2 then .mk k [] aj tg ex [] []
 else if k=4 then .mk k [] aj zE ex body alt
 else if k=5\/k=9 then .mk k [] aj zE ex body []
 else if k=8 then .mk k nm ty zE zE body alt
 else if k=10 then .mk k [] aj zE zE body []
 else .mk k [] aj zE ex [] []
def jQ (k:Int) (nm:List UInt8) (ty:Ty) (tg ex:Ex) (B:Bool):Bool:=
 if k=1 then jL nm&&iK ty.dim ty.base ty.name&&cY ex
 else if k=2 then pO tg&&cY ex
 else if k=3 then qg ex
 else if k=4\/k=5\/k=9 then B&&cY ex
 else if k=6 then A4 ex||cY ex
 else if k=7 then cY ex
 else if k=8 then B&&jL nm&&iK ty.dim ty.base ty.name
 else if k=10 then B
 else if k=11 then xO ex
 else false
mutual
def fj:St->Bool
 | .mk k nm ty tg ex body alt=>jQ k nm ty tg ex (decide (body.length<=32)&&ez false body&&(decide (alt.length<=32)&&ez false alt))&&et (.mk k nm ty tg ex body alt) (mB k nm ty tg ex body alt)
def ez:Bool->List St->Bool
 |_,[]=>true
 |sup,e::r=>(!decide (e.k=11)||sup)&&fj e&&ez false r
end
def tq (sup:Bool) (l:List St):Bool:=decide (l.length<=32)&&ez sup l
def qB (sup:Bool) (i:Nat) (e:St):Bool:=(!decide (e.k=11)||(sup&&decide (i=0)))&&fj e
theorem Cs:∀{l:List St} {sup:Bool} {i:Nat} (hi:i<l.length),ez sup (l.take (i+1))=(ez sup (l.take i)&&qB sup i l[i])
 |[],_,_,hi=>absurd hi (Nat.not_lt_zero _)
 |e::r,sup,0,_=>by simp [ez,qB]
 |e::r,sup,i+1,hi=>by
  have:=Cs (l:=r) (sup:=false) (i:=i) (by simpa using hi);simp only[List.take_succ_cons,ez,this,List.getElem_cons_succ];simp only[qB,Bool.false_and,Nat.add_one_ne_zero,aT,Bool.and_false,Bool.and_assoc]
theorem GD:∀{l:List St} {sup:Bool} {i:Nat} (hi:i<l.length),qB sup i l[i]=false->ez sup l=false:=fun{l sup i} hi h=>by
 have h1:=Cs (sup:=sup) hi;rw[h,Bool.and_false] at h1;have:∀(l:List St) (sup:Bool) (j:Nat),ez sup (l.take j)=false->ez sup l=false:=by
  intro l;induction l with
  |nil=>intro sup j h;simpa using h
  |cons e r ih=>
   intro sup j h;cases j with
   |zero=>simp [ez] at h
   |succ j=>
    simp only[List.take_succ_cons,ez] at h ⊢;cases h2:ez false (r.take j) with
    |false=>rw[ih false j h2,Bool.and_false]
    |true=>rw[h2,Bool.and_true] at h;rw[h,Bool.false_and]
 exact this l sup (i+1) h1
theorem GZ (x:Nd) (m:Mem):aI 117 [.v (.agg ⟨x.cs⟩)] m (.bool (ya x.k x.n x.s x.c x.ty x.l)):=by
 refine enter bj aq Tryz.func117 rfl rfl (by kernel_rfl) rfl ?_ ?_
 ·simp only[go_sem,Nd.cs]
 ·simp only[go_sem,Nd.cs,dC];have e0:decide ((x.l:Int)=0)=decide (x.l=0):=by rw[decide_eq_decide];omega
  rw[e0];rfl
theorem rh {m:Mem} {k n:Int} {s c:List UInt8} {ty:Ty} {args:List Ex} {cs:List Value} (h:aW m (.mk k n s c ty args) cs):∃x:Nd,cs=x.cs/\x.k=k/\x.n=n/\x.s=s/\x.c=c/\x.ty=ty/\x.l=args.length/\x.l<=x.cp/\x.l<=aw/\∃xs,ax m x.a x.l 8 xs/\dB m args xs:=by
 simp only[aW] at h;obtain⟨a,cp,xs,rfl,h1,h2,h3,h4⟩:=h;exact⟨⟨k,n,s,c,ty,a,args.length,cp⟩,rfl,rfl,rfl,rfl,rfl,rfl,rfl,h1,h3.2.2.2.2.2,xs,h2,h4⟩
theorem RV (e:Ex) (cs:List Value) (m:Mem) (hg:Glob m) (he:aW m e cs):aI 217 [.v (.agg ⟨cs⟩)] m (.bool (!cY e)):=by
 have hV:=mh _ e cs m (aA _) hg he;obtain⟨x,rfl⟩:=ri he;refine enter bj aq Tryz.func217 rfl rfl (by kernel_rfl) rfl ?_ ?_
 ·simp only[go_sem,Nd.cs]
 ·simp only[go_sem,Nd.cs];refine ak ((aC hV (fun V=>rfl)).mono ?_);rintro r H' m2 aJ ⟨bD,rfl,rfl⟩;simp only[go_sem];exact bD
theorem Nw (e:Ex) (cs:List Value) (m:Mem) (hg:Glob m) (he:aW m e cs):aI 118 [.v (.agg ⟨cs⟩)] m (.bool (xO e)):=by
 cases e with
 |mk k n s c ty args=>
  obtain⟨x,rfl,rfl,rfl,rfl,rfl,rfl,hl,bN,hn,xs,hr,cF⟩:=rh he;have hE:=GZ ⟨x.k,x.n,x.s,x.c,x.ty,none,0,0⟩ m;have hv:=fun m' (hm:ah m m')=>F3 217 (fun e=> !cY e) args x.a x.l x.cp xs m' hl.symm (aM hm hr) (wY hm cF) hn (by kernel_rfl) (fun i hi cs m2 hle bU=>RV _ cs m2 (hg.upM (ae hm hle)) bU)
  refine enter bj aq Tryz.func118 rfl rfl (by kernel_rfl) rfl ?_ ?_
  ·simp only[go_sem,Nd.cs]
  ·simp only[go_sem,Nd.cs];refine ak ((aC hE (fun V=>rfl)).mono ?_);clear hE;rintro r H' m2 aJ ⟨bD,rfl,rfl⟩;simp only[go_sem];have e0:xO (Ex.mk x.k x.n x.s x.c x.ty args)=(ya x.k x.n x.s x.c x.ty 0&&decide (args.length<=16)&&kE args):=rfl;refine⟨fun h=>ak ((hv m2 bD).mono ?_),fun h=>⟨bD,?_⟩⟩
   ·clear hv;rintro r H' m3 dx ⟨tQ,rfl,rfl⟩;simp only[go_sem];refine⟨ae bD tQ,?_⟩;rw[e0,h.1,aP (by omega:args.length<=16),Cx];rfl
   ·clear hv;rw[e0];rcases h with h |h
    ·rw[h];rfl
    ·rw[ab (by omega:¬args.length<=16),Bool.and_false];rfl
theorem M1 (e:Ex) (cs:List Value) (m:Mem) (hg:Glob m) (he:aW m e cs):aI 115 [.v (.agg ⟨cs⟩)] m (.bool (pO e)):=by
 have hV:=mh _ e cs m (aA _) hg he;cases e with
 |mk k n s c ty args=>
  obtain⟨x,rfl,rfl,rfl,rfl,rfl,rfl,hl,bN,hn,xs,hr,cF⟩:=rh he;refine enter bj aq Tryz.func115 rfl rfl (by kernel_rfl) rfl ?_ ?_
  ·simp only[go_sem,Nd.cs]
  ·simp only[go_sem,Nd.cs];refine⟨fun e0=>⟨fun _=>ak ((aC hV (fun V=>rfl)).mono ?_),fun n=>absurd e0 n⟩,fun n0=>⟨fun e1=>⟨fun _=>ak ((aC hV (fun V=>rfl)).mono ?_),fun n=>absurd e1 n⟩,fun n1=>⟨fun e2=>⟨fun _=>ak ((aC hV (fun V=>rfl)).mono ?_),fun n=>absurd e2 n⟩,fun n2=>⟨fun e3=>ak ((aC hV (fun V=>rfl)).mono ?_),fun n3=> ?_⟩⟩⟩⟩
   ·clear hV;rintro r H' m2 aJ ⟨bD,rfl,rfl⟩;simp only[go_sem];refine⟨bD,?_⟩;simp [pO,Ex.k,e0]
   ·clear hV;rintro r H' m2 aJ ⟨bD,rfl,rfl⟩;simp only[go_sem];refine⟨bD,?_⟩;simp [pO,Ex.k,e1]
   ·clear hV;rintro r H' m2 aJ ⟨bD,rfl,rfl⟩;simp only[go_sem];refine⟨bD,?_⟩;simp [pO,Ex.k,e2]
   ·clear hV;rintro r H' m2 aJ ⟨bD,rfl,rfl⟩;simp only[go_sem];refine⟨bD,?_⟩;simp [pO,Ex.k,e3]
   ·clear hV;simp [pO,Ex.k,n0,n1,n2,n3]
theorem PG (e:Ex) (cs:List Value) (m:Mem) (hg:Glob m) (he:aW m e cs):aI 116 [.v (.agg ⟨cs⟩)] m (.bool (qg e)):=by
 have hV:=mh _ e cs m (aA _) hg he;cases e with
 |mk k n s c ty args=>
  obtain⟨x,rfl,rfl,rfl,rfl,rfl,rfl,hl,bN,hn,xs,hr,cF⟩:=rh he;refine enter bj aq Tryz.func116 rfl rfl (by kernel_rfl) rfl ?_ ?_
  ·simp only[go_sem,Nd.cs]
  ·simp only[go_sem,Nd.cs];refine⟨fun e0=>⟨fun _=>ak ((aC hV (fun V=>rfl)).mono ?_),fun n=>absurd e0 n⟩,fun n0=>⟨fun e1=>⟨fun _=>ak ((aC hV (fun V=>rfl)).mono ?_),fun n=>absurd e1 n⟩,fun n1=>⟨fun e2=>⟨fun _=>ak ((aC hV (fun V=>rfl)).mono ?_),fun n=>absurd e2 n⟩,fun n2=>⟨fun e3=>ak ((aC hV (fun V=>rfl)).mono ?_),fun n3=> ?_⟩⟩⟩⟩
   ·clear hV;rintro r H' m2 aJ ⟨bD,rfl,rfl⟩;simp only[go_sem];refine⟨bD,?_⟩;simp [qg,Ex.k,e0]
   ·clear hV;rintro r H' m2 aJ ⟨bD,rfl,rfl⟩;simp only[go_sem];refine⟨bD,?_⟩;simp [qg,Ex.k,e1]
   ·clear hV;rintro r H' m2 aJ ⟨bD,rfl,rfl⟩;simp only[go_sem];refine⟨bD,?_⟩;simp [qg,Ex.k,e2]
   ·clear hV;rintro r H' m2 aJ ⟨bD,rfl,rfl⟩;simp only[go_sem];refine⟨bD,?_⟩;simp [qg,Ex.k,e3]
   ·clear hV;simp [qg,Ex.k,n0,n1,n2,n3]
theorem u7 {m:Mem} {k:Int} {nm:List UInt8} {ty:Ty} {tg ex:Ex} {body alt:List St} {cs:List Value} (h:eg m (.mk k nm ty tg ex body alt) cs):
  ∃x:Sd,cs=x.cs/\x.k=k/\x.name=nm/\x.ty=ty/\aW m tg x.tg.cs/\aW m ex x.ex.cs/\x.l=body.length/\x.l<=x.cp/\x.l2=alt.length/\x.l2<=x.cp2/\StOk k nm ty body.length alt.length/\∃xs ys,ax m x.a x.l 23 xs/\ax m x.b x.l2 23 ys/\bG m body xs/\bG m alt ys:=by
 simp only[eg] at h;obtain⟨x,⟨h1,h2,h3,h4⟩,h5,h6,⟨h7,h8,h9,nq⟩,h11,xs,ys,h12,h13,h14,h15⟩:=h;exact⟨x,h1,h2,h3,h4,h5,h6,h7,h8,h9,nq,h11,xs,ys,h12,h13,h14,h15⟩
theorem CY (sup:Bool) (l:List St) (a:Option Addr) (n c:Nat) (xs:List Value) (m:Mem) (hl:n=l.length) (hr:ax m a n 23 xs) (hs:bG m l xs) (hn:n<=aw)
  (hV:∀e∈l,∀cs m',ah m m' ->eg m' e cs->aI 56 [.v (.agg ⟨cs⟩)] m' (.bool (fj e))):
  aI 112 [.v (.slice a n c),.v (.bool sup)] m (.bool (decide (l.length<=32)&&ez sup l)):=by
 refine br aq Tryz.func112 ?_
 ·simp only[go_sem];refine⟨fun h=> ?_,fun h=> ?_⟩
  ·rw[ab (by clear hV;omega)];rfl
  ·have hE:(decide (l.length<=32)&&ez sup l)=ez sup l:=by rw[aP (by clear hV;omega)];rfl
   rw[hE];clear hE;refine gz aq (fun x:Nat×Mem=>⟨[⟨1,[],.v (.bool sup)⟩,⟨10,[],.v (.slice a n c)⟩,⟨11,[],.v (.int .i64 n)⟩,⟨12,[],.v (.int .i64 x.1)⟩],[],[],[],0,x.2⟩)
    (fun x=>ah m x.2/\x.1<=n/\ez sup (l.take x.1)=true) (fun x=>n - x.1) (0,m) (fun _ _=>aA _) (fun x hx=>hx.1) ?_ ?_ ?_
   ·simp only[go_sem];rfl
   ·exact⟨.inl rfl,aF _,by simp [ez]⟩
   ·rintro⟨k,mm⟩ ⟨h1,h2,h3⟩;simp only at h1 h2 h3;have hy:∀(hk:k<l.length),∃X:Sd,(Rd mm (bc a (k * 23)) X.cs/\a≠none)/\X.k=l[k].k/\aI 56 [.v (.agg ⟨X.cs⟩)] mm (.bool (fj l[k])):=fun hk=>by
     have bU:=xb h1 (ru hs hk);have zA:∃X:Sd,(xs.drop (k * 23)).take 23=X.cs/\X.k=l[k].k:=by
      cases iG:l[k] with
      |mk k' nm ty tg ex body alt=>
       rw[iG] at bU;obtain⟨X,e1,e2,_⟩:=u7 bU;exact⟨X,e1,e2⟩
     obtain⟨X,e1,e2⟩:=zA;have r1:=dK (aM h1 hr) (by omega:k<n);rw[e1] at r1 bU;exact⟨X,r1,e2,hV _ (List.getElem_mem hk) _ _ h1 bU⟩
    clear hV;simp only[go_sem];refine⟨fun an=> ?_,fun fZ=>⟨h1,?_⟩⟩
    ·have hk:k<l.length:=by clear hy;omega
     refine Exists.elim (hy hk) fun X bH=>⟨⟨by clear hy bH;omega,an,bH.1.2⟩,X.cs,⟨bH.1.1,rfl⟩,?_⟩
     clear hy;have uA:=bH.2.1;have ha:=bH.2.2;clear bH;simp only[go_sem,Sd.cs,Nd.cs];refine⟨fun hc=>ak ((aC ha (fun V=>rfl)).mono ?_),fun hc=>⟨h1,?_⟩⟩
     ·clear ha;have hb:qB sup k l[k]=fj l[k]:=by
       rw[uA] at hc;rcases hc with hc |hc
       ·simp [qB,hc]
       ·have:k=0:=by omega
        simp [qB,hc.1,this]
      rintro r H' m2 aJ ⟨bD,rfl,rfl⟩;simp only[go_sem];refine⟨fun hv=>⟨ae h1 bD,?_⟩,fun hv=>⟨by unfold aB;simp only[aw] at hn;omega,(k+1,m2),⟨by simp,.inl rfl⟩,⟨ae h1 bD,by simp only;omega,?_⟩,by simp only;omega⟩⟩
      ·rw[GD hk (by rw[hb];exact hv)]
      ·simp only;rw[Cs hk,h3,hb,hv];rfl
     ·clear ha;rw[uA] at hc;rw[GD hk];rcases hc.2 with h0 |h0
      ·simp [qB,hc.1,h0]
      ·have:¬k=0:=by omega
       simp [qB,hc.1,this]
    ·have:k=n:=by clear hy;omega
     rw[jI (by clear hy;omega)] at h3;rw[h3]
def aO:Nd:=⟨0,0,[],[],aj,none,0,0⟩
theorem gE {m:Mem} {sz:Nat}:ax m none 0 sz []:=⟨by simp,fun h=>absurd h (Nat.lt_irrefl _)⟩
theorem lG:tW aj:=⟨by unfold aB;decide,by decide,by decide⟩
theorem lz {m:Mem}:aW m zE aO.cs:=by
 simp only[zE,aW];exact⟨none,0,[],rfl,aA _,gE,⟨by unfold aB;decide,by unfold aB;decide,by decide,by decide,lG,by decide⟩,by simp only[dB]⟩
theorem fA {m:Mem} (U:Sd) {tg ex:Ex} {body alt:List St} {xs ys:List Value} (cP:aW m tg U.tg.cs) (hex:aW m ex U.ex.cs) (hl:U.l=body.length) (bN:U.l<=U.cp) (cg:U.l2=alt.length) (dd:U.l2<=U.cp2) (ao:StOk U.k U.name U.ty body.length alt.length)
  (r1:ax m U.a U.l 23 xs) (r2:ax m U.b U.l2 23 ys) (s1:bG m body xs) (s2:bG m alt ys):eg m (.mk U.k U.name U.ty tg ex body alt) U.cs:=by
 simp only[eg];exact⟨U,⟨rfl,rfl,rfl,rfl⟩,cP,hex,⟨hl,bN,cg,dd⟩,ao,xs,ys,r1,r2,s1,s2⟩
theorem A0 {x y:Nd} (h:x.cs=y.cs):x=y:=by
 obtain⟨k,n,s,c,⟨d,b,nm⟩,a,l,cp⟩:=x;obtain⟨k',n',s',c',⟨d',b',nm'⟩,a',l',cp'⟩:=y;simp only[Nd.cs,List.cons.injEq,Value.int.injEq,Value.string.injEq,Value.slice.injEq,and_true,true_and] at h;obtain⟨h1,h2,h3,h4,h5,h6,h7,h8,h9,nq⟩:=h;rw[h1,h2,oM h3,oM h4,h5,h6,oM h7,h8,h9,nq]
theorem Rx {m:Mem} {e:Ex} {x:Nd} (h:aW m e x.cs) (m' :Mem):aI 117 [.v (.agg ⟨x.cs⟩)] m' (.bool (A4 e)):=by
 cases e with
 |mk k n s c ty args=>
  obtain⟨y,hy,h1,h2,h3,h4,h5,h6,_⟩:=rh h;have:=GZ x m';rw[A0 hy] at this ⊢;rw[h1,h2,h3,h4,h5,h6] at this;exact this
theorem iM {m:Mem}:bG m [] []:=by simp only[bG]
theorem YV (nm:List UInt8) (ty:Ty) (tN eN:Nd) (a:Option Addr) (l cp:Nat) (b:Option Addr) (l2 cp2:Nat) (tg ex:Ex) (body alt:List St) (xs ys:List Value) (m:Mem) (hg:Glob m)
  (cP:aW m tg tN.cs) (hex:aW m ex eN.cs) (hl:l=body.length) (bN:l<=cp) (cg:l2=alt.length) (dd:l2<=cp2) (ao:StOk 1 nm ty body.length alt.length) (r1:ax m a l 23 xs) (r2:ax m b l2 23 ys) (s1:bG m body xs) (s2:bG m alt ys) (B1 B2 B V:Bool)
  (hB:∀m',ah m m' ->aI 112 [.v (.slice a l cp),.v (.bool false)] m' (.bool B1)) (hA:∀m',ah m m' ->aI 112 [.v (.slice b l2 cp2),.v (.bool false)] m' (.bool B2)) (eR:B=(B1&&B2))
  (e0:V=((jL nm&&iK ty.dim ty.base ty.name&&cY ex)&&et (St.mk 1 nm ty tg ex body alt) (St.mk 1 nm ty zE ex [] []))):aI 56 [.v (.agg ⟨Sd.cs ⟨1,nm,ty,tN,eN,a,l,cp,b,l2,cp2⟩⟩)] m (.bool V):=by
 have hQ:∀m',ah m m' ->aI 119 [.v (.agg ⟨Sd.cs ⟨1,nm,ty,tN,eN,a,l,cp,b,l2,cp2⟩⟩),.v (.agg ⟨Sd.cs ⟨1,nm,ty,aO,eN,none,0,0,none,0,0⟩⟩)] m' (.bool (et (St.mk 1 nm ty tg ex body alt) (St.mk 1 nm ty zE ex [] []))):=fun m' hle=>
  lp _ _ _ _ _ m' (aA _) (fA (m:=m') (⟨1,nm,ty,tN,eN,a,l,cp,b,l2,cp2⟩:Sd) (bV hle cP) (bV hle hex) hl bN cg dd ao (aM hle r1) (aM hle r2) (cG hle s1) (cG hle s2))
   (fA (m:=m') (⟨1,nm,ty,aO,eN,none,0,0,none,0,0⟩:Sd) lz (bV hle hex) rfl (aA _) rfl (aA _) ⟨ao.k,ao.nm,ao.ty,aF _,aF _⟩ gE gE iM iM)
 have BI:BL nm:=dk ao.nm (by decide);have BH:BL ty.name:=dk ao.ty.2.2 (by decide);have hX:=fun m' (hle:ah m m')=>mh _ ex eN.cs m' (aA _) (hg.upM hle) (bV hle hex)
 clear s1 s2 r1 r2;refine enter lY lP Tryz.func56 rfl rfl (by kernel_rfl) rfl ?_ ?_
 ·simp only[go_sem,Sd.cs,Nd.cs,aO,aj,Int.reduceEq,aV,aT]
 ·simp only[go_sem,Sd.cs,Nd.cs,aO,aj,Int.reduceEq,aV,aT];refine ak ((hB m (.inl rfl)).mono ?_);clear hB;rintro r H' m1 aQ ⟨l1,rfl,rfl⟩;simp only[go_sem,Sd.cs,Nd.cs,aO,aj,Int.reduceEq,aV,aT];refine⟨fun b1=>ak ((hA m1 l1).mono ?_),fun b1=> ?_⟩
  ·clear hA;rintro r H' m2 aJ ⟨fU,rfl,rfl⟩;have bR:=ae l1 fU;simp only[go_sem,Sd.cs,Nd.cs,aO,aj,Int.reduceEq,aV,aT];refine⟨BI,fun _=>BH,fun c=> ?_,fun c=> ?_⟩
   ·refine ak ((aC (hX m2 bR) (fun V=>rfl)).mono ?_);clear hX;rintro r H' w1 px ⟨cO,rfl,rfl⟩;simp only[go_sem,Sd.cs,Nd.cs,aO,aj,Int.reduceEq,aV,aT];refine⟨fun c1=> ?_,fun c1=> ?_⟩
    ·refine ak ((aC (hQ w1 (ae bR cO)) (fun V=>rfl)).mono ?_);clear hQ;rintro r H' w2 sH ⟨gR,rfl,rfl⟩;simp only[go_sem,Sd.cs,Nd.cs,aO,aj,Int.reduceEq,aV,aT];refine⟨ae (ae bR cO) gR,?_⟩;rw[e0,c.1,c.2,c1];rfl
    ·refine⟨(ae bR cO),?_⟩;rw[e0,c.1,c.2,c1];rfl
   ·refine⟨bR,?_⟩;rw[e0];rcases c with c |c<;>simp [c]
  ·clear hA;refine⟨BI,fun _=>BH,fun c=> ?_,fun c=> ?_⟩
   ·refine ak ((aC (hX m1 l1) (fun V=>rfl)).mono ?_);clear hX;rintro r H' w3 zp ⟨iD,rfl,rfl⟩;simp only[go_sem,Sd.cs,Nd.cs,aO,aj,Int.reduceEq,aV,aT];refine⟨fun c3=> ?_,fun c3=> ?_⟩
    ·refine ak ((aC (hQ w3 (ae l1 iD)) (fun V=>rfl)).mono ?_);clear hQ;rintro r H' w4 zo ⟨kv,rfl,rfl⟩;simp only[go_sem,Sd.cs,Nd.cs,aO,aj,Int.reduceEq,aV,aT];refine⟨ae (ae l1 iD) kv,?_⟩;rw[e0,c.1,c.2,c3];rfl
    ·refine⟨(ae l1 iD),?_⟩;rw[e0,c.1,c.2,c3];rfl
   ·refine⟨l1,?_⟩;rw[e0];rcases c with c |c<;>simp [c]
theorem YU (nm:List UInt8) (ty:Ty) (tN eN:Nd) (a:Option Addr) (l cp:Nat) (b:Option Addr) (l2 cp2:Nat) (tg ex:Ex) (body alt:List St) (xs ys:List Value) (m:Mem) (hg:Glob m)
  (cP:aW m tg tN.cs) (hex:aW m ex eN.cs) (hl:l=body.length) (bN:l<=cp) (cg:l2=alt.length) (dd:l2<=cp2) (ao:StOk 2 nm ty body.length alt.length) (r1:ax m a l 23 xs) (r2:ax m b l2 23 ys) (s1:bG m body xs) (s2:bG m alt ys) (B1 B2 B V:Bool)
  (hB:∀m',ah m m' ->aI 112 [.v (.slice a l cp),.v (.bool false)] m' (.bool B1)) (hA:∀m',ah m m' ->aI 112 [.v (.slice b l2 cp2),.v (.bool false)] m' (.bool B2)) (eR:B=(B1&&B2))
  (e0:V=((pO tg&&cY ex)&&et (St.mk 2 nm ty tg ex body alt) (St.mk 2 [] aj tg ex [] []))):aI 56 [.v (.agg ⟨Sd.cs ⟨2,nm,ty,tN,eN,a,l,cp,b,l2,cp2⟩⟩)] m (.bool V):=by
 have hQ:∀m',ah m m' ->aI 119 [.v (.agg ⟨Sd.cs ⟨2,nm,ty,tN,eN,a,l,cp,b,l2,cp2⟩⟩),.v (.agg ⟨Sd.cs ⟨2,[],aj,tN,eN,none,0,0,none,0,0⟩⟩)] m' (.bool (et (St.mk 2 nm ty tg ex body alt) (St.mk 2 [] aj tg ex [] []))):=fun m' hle=>
  lp _ _ _ _ _ m' (aA _) (fA (m:=m') (⟨2,nm,ty,tN,eN,a,l,cp,b,l2,cp2⟩:Sd) (bV hle cP) (bV hle hex) hl bN cg dd ao (aM hle r1) (aM hle r2) (cG hle s1) (cG hle s2))
   (fA (m:=m') (⟨2,[],aj,tN,eN,none,0,0,none,0,0⟩:Sd) (bV hle cP) (bV hle hex) rfl (aA _) rfl (aA _) ⟨ao.k,aF _,lG,aF _,aF _⟩ gE gE iM iM)
 have hX:=fun m' (hle:ah m m')=>mh _ ex eN.cs m' (aA _) (hg.upM hle) (bV hle hex)
 have hT:=fun m' (hle:ah m m')=>M1 tg tN.cs m' (hg.upM hle) (bV hle cP)
 clear s1 s2 r1 r2;refine enter lY lP Tryz.func56 rfl rfl (by kernel_rfl) rfl ?_ ?_
 ·simp only[go_sem,Sd.cs,Nd.cs,aO,aj,Int.reduceEq,aV,aT]
 ·simp only[go_sem,Sd.cs,Nd.cs,aO,aj,Int.reduceEq,aV,aT];refine ak ((hB m (.inl rfl)).mono ?_);clear hB;rintro r H' m1 aQ ⟨l1,rfl,rfl⟩;simp only[go_sem,Sd.cs,Nd.cs,aO,aj,Int.reduceEq,aV,aT];refine⟨fun b1=>ak ((hA m1 l1).mono ?_),fun b1=> ?_⟩
  ·clear hA;rintro r H' m2 aJ ⟨fU,rfl,rfl⟩;have bR:=ae l1 fU;simp only[go_sem,Sd.cs,Nd.cs,aO,aj,Int.reduceEq,aV,aT];refine ak ((aC (hT m2 bR) (fun V=>rfl)).mono ?_);clear hT;rintro r H' w1 px ⟨cO,rfl,rfl⟩;simp only[go_sem,Sd.cs,Nd.cs,aO,aj,Int.reduceEq,aV,aT];refine⟨fun c=> ?_,fun c=> ?_⟩
   ·refine ak ((aC (hX w1 (ae bR cO)) (fun V=>rfl)).mono ?_);clear hX;rintro r H' w2 sH ⟨gR,rfl,rfl⟩;simp only[go_sem,Sd.cs,Nd.cs,aO,aj,Int.reduceEq,aV,aT];refine⟨fun c2=> ?_,fun c2=> ?_⟩
    ·refine ak ((aC (hQ w2 (ae (ae bR cO) gR)) (fun V=>rfl)).mono ?_);clear hQ;rintro r H' w3 zp ⟨iD,rfl,rfl⟩;simp only[go_sem,Sd.cs,Nd.cs,aO,aj,Int.reduceEq,aV,aT];refine⟨ae (ae (ae bR cO) gR) iD,?_⟩;rw[e0,c,c2];rfl
    ·refine⟨(ae (ae bR cO) gR),?_⟩;rw[e0,c,c2];rfl
   ·refine⟨(ae bR cO),?_⟩;rw[e0,c];rfl
  ·clear hA;refine ak ((aC (hT m1 l1) (fun V=>rfl)).mono ?_);clear hT;rintro r H' w4 zo ⟨kv,rfl,rfl⟩;simp only[go_sem,Sd.cs,Nd.cs,aO,aj,Int.reduceEq,aV,aT];refine⟨fun c=> ?_,fun c=> ?_⟩
   ·refine ak ((aC (hX w4 (ae l1 kv)) (fun V=>rfl)).mono ?_);clear hX;rintro r H' w5 hw5 ⟨pt,rfl,rfl⟩;simp only[go_sem,Sd.cs,Nd.cs,aO,aj,Int.reduceEq,aV,aT];refine⟨fun c5=> ?_,fun c5=> ?_⟩
    ·refine ak ((aC (hQ w5 (ae (ae l1 kv) pt)) (fun V=>rfl)).mono ?_);clear hQ;rintro r H' w6 hw6 ⟨zh,rfl,rfl⟩;simp only[go_sem,Sd.cs,Nd.cs,aO,aj,Int.reduceEq,aV,aT];refine⟨ae (ae (ae l1 kv) pt) zh,?_⟩;rw[e0,c,c5];rfl
    ·refine⟨(ae (ae l1 kv) pt),?_⟩;rw[e0,c,c5];rfl
   ·refine⟨(ae l1 kv),?_⟩;rw[e0,c];rfl
theorem YT (nm:List UInt8) (ty:Ty) (tN eN:Nd) (a:Option Addr) (l cp:Nat) (b:Option Addr) (l2 cp2:Nat) (tg ex:Ex) (body alt:List St) (xs ys:List Value) (m:Mem) (hg:Glob m)
  (cP:aW m tg tN.cs) (hex:aW m ex eN.cs) (hl:l=body.length) (bN:l<=cp) (cg:l2=alt.length) (dd:l2<=cp2) (ao:StOk 3 nm ty body.length alt.length) (r1:ax m a l 23 xs) (r2:ax m b l2 23 ys) (s1:bG m body xs) (s2:bG m alt ys) (B1 B2 B V:Bool)
  (hB:∀m',ah m m' ->aI 112 [.v (.slice a l cp),.v (.bool false)] m' (.bool B1)) (hA:∀m',ah m m' ->aI 112 [.v (.slice b l2 cp2),.v (.bool false)] m' (.bool B2)) (eR:B=(B1&&B2))
  (e0:V=(qg ex&&et (St.mk 3 nm ty tg ex body alt) (St.mk 3 [] aj zE ex [] []))):aI 56 [.v (.agg ⟨Sd.cs ⟨3,nm,ty,tN,eN,a,l,cp,b,l2,cp2⟩⟩)] m (.bool V):=by
 have hQ:∀m',ah m m' ->aI 119 [.v (.agg ⟨Sd.cs ⟨3,nm,ty,tN,eN,a,l,cp,b,l2,cp2⟩⟩),.v (.agg ⟨Sd.cs ⟨3,[],aj,aO,eN,none,0,0,none,0,0⟩⟩)] m' (.bool (et (St.mk 3 nm ty tg ex body alt) (St.mk 3 [] aj zE ex [] []))):=fun m' hle=>
  lp _ _ _ _ _ m' (aA _) (fA (m:=m') (⟨3,nm,ty,tN,eN,a,l,cp,b,l2,cp2⟩:Sd) (bV hle cP) (bV hle hex) hl bN cg dd ao (aM hle r1) (aM hle r2) (cG hle s1) (cG hle s2))
   (fA (m:=m') (⟨3,[],aj,aO,eN,none,0,0,none,0,0⟩:Sd) lz (bV hle hex) rfl (aA _) rfl (aA _) ⟨ao.k,aF _,lG,aF _,aF _⟩ gE gE iM iM)
 have hX:=fun m' (hle:ah m m')=>PG ex eN.cs m' (hg.upM hle) (bV hle hex)
 clear s1 s2 r1 r2;refine enter lY lP Tryz.func56 rfl rfl (by kernel_rfl) rfl ?_ ?_
 ·simp only[go_sem,Sd.cs,Nd.cs,aO,aj,Int.reduceEq,aV,aT]
 ·simp only[go_sem,Sd.cs,Nd.cs,aO,aj,Int.reduceEq,aV,aT];refine ak ((hB m (.inl rfl)).mono ?_);clear hB;rintro r H' m1 aQ ⟨l1,rfl,rfl⟩;simp only[go_sem,Sd.cs,Nd.cs,aO,aj,Int.reduceEq,aV,aT];refine⟨fun b1=>ak ((hA m1 l1).mono ?_),fun b1=> ?_⟩
  ·clear hA;rintro r H' m2 aJ ⟨fU,rfl,rfl⟩;have bR:=ae l1 fU;simp only[go_sem,Sd.cs,Nd.cs,aO,aj,Int.reduceEq,aV,aT];refine ak ((aC (hX m2 bR) (fun V=>rfl)).mono ?_);clear hX;rintro r H' w1 px ⟨cO,rfl,rfl⟩;simp only[go_sem,Sd.cs,Nd.cs,aO,aj,Int.reduceEq,aV,aT];refine⟨fun c1=> ?_,fun c1=> ?_⟩
   ·refine ak ((aC (hQ w1 (ae bR cO)) (fun V=>rfl)).mono ?_);clear hQ;rintro r H' w2 sH ⟨gR,rfl,rfl⟩;simp only[go_sem,Sd.cs,Nd.cs,aO,aj,Int.reduceEq,aV,aT];refine⟨ae (ae bR cO) gR,?_⟩;rw[e0,c1];rfl
   ·refine⟨(ae bR cO),?_⟩;rw[e0,c1];rfl
  ·clear hA;refine ak ((aC (hX m1 l1) (fun V=>rfl)).mono ?_);clear hX;rintro r H' w3 zp ⟨iD,rfl,rfl⟩;simp only[go_sem,Sd.cs,Nd.cs,aO,aj,Int.reduceEq,aV,aT];refine⟨fun c3=> ?_,fun c3=> ?_⟩
   ·refine ak ((aC (hQ w3 (ae l1 iD)) (fun V=>rfl)).mono ?_);clear hQ;rintro r H' w4 zo ⟨kv,rfl,rfl⟩;simp only[go_sem,Sd.cs,Nd.cs,aO,aj,Int.reduceEq,aV,aT];refine⟨ae (ae l1 iD) kv,?_⟩;rw[e0,c3];rfl
   ·refine⟨(ae l1 iD),?_⟩;rw[e0,c3];rfl
theorem YS (nm:List UInt8) (ty:Ty) (tN eN:Nd) (a:Option Addr) (l cp:Nat) (b:Option Addr) (l2 cp2:Nat) (tg ex:Ex) (body alt:List St) (xs ys:List Value) (m:Mem) (hg:Glob m)
  (cP:aW m tg tN.cs) (hex:aW m ex eN.cs) (hl:l=body.length) (bN:l<=cp) (cg:l2=alt.length) (dd:l2<=cp2) (ao:StOk 4 nm ty body.length alt.length) (r1:ax m a l 23 xs) (r2:ax m b l2 23 ys) (s1:bG m body xs) (s2:bG m alt ys) (B1 B2 B V:Bool)
  (hB:∀m',ah m m' ->aI 112 [.v (.slice a l cp),.v (.bool false)] m' (.bool B1)) (hA:∀m',ah m m' ->aI 112 [.v (.slice b l2 cp2),.v (.bool false)] m' (.bool B2)) (eR:B=(B1&&B2))
  (e0:V=((B&&cY ex)&&et (St.mk 4 nm ty tg ex body alt) (St.mk 4 [] aj zE ex body alt))):aI 56 [.v (.agg ⟨Sd.cs ⟨4,nm,ty,tN,eN,a,l,cp,b,l2,cp2⟩⟩)] m (.bool V):=by
 have hQ:∀m',ah m m' ->aI 119 [.v (.agg ⟨Sd.cs ⟨4,nm,ty,tN,eN,a,l,cp,b,l2,cp2⟩⟩),.v (.agg ⟨Sd.cs ⟨4,[],aj,aO,eN,a,l,cp,b,l2,cp2⟩⟩)] m' (.bool (et (St.mk 4 nm ty tg ex body alt) (St.mk 4 [] aj zE ex body alt))):=fun m' hle=>
  lp _ _ _ _ _ m' (aA _) (fA (m:=m') (⟨4,nm,ty,tN,eN,a,l,cp,b,l2,cp2⟩:Sd) (bV hle cP) (bV hle hex) hl bN cg dd ao (aM hle r1) (aM hle r2) (cG hle s1) (cG hle s2))
   (fA (m:=m') (⟨4,[],aj,aO,eN,a,l,cp,b,l2,cp2⟩:Sd) lz (bV hle hex) hl bN cg dd ⟨ao.k,aF _,lG,ao.l,ao.l2⟩ (aM hle r1) (aM hle r2) (cG hle s1) (cG hle s2))
 have hX:=fun m' (hle:ah m m')=>mh _ ex eN.cs m' (aA _) (hg.upM hle) (bV hle hex)
 clear s1 s2 r1 r2;refine enter lY lP Tryz.func56 rfl rfl (by kernel_rfl) rfl ?_ ?_
 ·simp only[go_sem,Sd.cs,Nd.cs,aO,aj,Int.reduceEq,aV,aT]
 ·simp only[go_sem,Sd.cs,Nd.cs,aO,aj,Int.reduceEq,aV,aT];refine ak ((hB m (.inl rfl)).mono ?_);clear hB;rintro r H' m1 aQ ⟨l1,rfl,rfl⟩;simp only[go_sem,Sd.cs,Nd.cs,aO,aj,Int.reduceEq,aV,aT];refine⟨fun b1=>ak ((hA m1 l1).mono ?_),fun b1=> ?_⟩
  ·clear hA;rintro r H' m2 aJ ⟨fU,rfl,rfl⟩;have bR:=ae l1 fU;simp only[go_sem,Sd.cs,Nd.cs,aO,aj,Int.reduceEq,aV,aT];refine⟨fun b2=> ?_,fun b2=> ?_⟩
   ·refine ak ((aC (hX m2 bR) (fun V=>rfl)).mono ?_);clear hX;rintro r H' w1 px ⟨cO,rfl,rfl⟩;simp only[go_sem,Sd.cs,Nd.cs,aO,aj,Int.reduceEq,aV,aT];refine⟨fun c1=> ?_,fun c1=> ?_⟩
    ·refine ak ((aC (hQ w1 (ae bR cO)) (fun V=>rfl)).mono ?_);clear hQ;rintro r H' w2 sH ⟨gR,rfl,rfl⟩;simp only[go_sem,Sd.cs,Nd.cs,aO,aj,Int.reduceEq,aV,aT];refine⟨ae (ae bR cO) gR,?_⟩;rw[e0,eR,b1,b2,c1];rfl
    ·refine⟨(ae bR cO),?_⟩;rw[e0,eR,b1,b2,c1];rfl
   ·refine⟨bR,?_⟩;rw[e0,eR,b1,b2];rfl
  ·clear hA;refine⟨l1,?_⟩;rw[e0,eR,b1];rfl
theorem YR (nm:List UInt8) (ty:Ty) (tN eN:Nd) (a:Option Addr) (l cp:Nat) (b:Option Addr) (l2 cp2:Nat) (tg ex:Ex) (body alt:List St) (xs ys:List Value) (m:Mem) (hg:Glob m)
  (cP:aW m tg tN.cs) (hex:aW m ex eN.cs) (hl:l=body.length) (bN:l<=cp) (cg:l2=alt.length) (dd:l2<=cp2) (ao:StOk 5 nm ty body.length alt.length) (r1:ax m a l 23 xs) (r2:ax m b l2 23 ys) (s1:bG m body xs) (s2:bG m alt ys) (B1 B2 B V:Bool)
  (hB:∀m',ah m m' ->aI 112 [.v (.slice a l cp),.v (.bool false)] m' (.bool B1)) (hA:∀m',ah m m' ->aI 112 [.v (.slice b l2 cp2),.v (.bool false)] m' (.bool B2)) (eR:B=(B1&&B2))
  (e0:V=((B&&cY ex)&&et (St.mk 5 nm ty tg ex body alt) (St.mk 5 [] aj zE ex body []))):aI 56 [.v (.agg ⟨Sd.cs ⟨5,nm,ty,tN,eN,a,l,cp,b,l2,cp2⟩⟩)] m (.bool V):=by
 have hQ:∀m',ah m m' ->aI 119 [.v (.agg ⟨Sd.cs ⟨5,nm,ty,tN,eN,a,l,cp,b,l2,cp2⟩⟩),.v (.agg ⟨Sd.cs ⟨5,[],aj,aO,eN,a,l,cp,none,0,0⟩⟩)] m' (.bool (et (St.mk 5 nm ty tg ex body alt) (St.mk 5 [] aj zE ex body []))):=fun m' hle=>
  lp _ _ _ _ _ m' (aA _) (fA (m:=m') (⟨5,nm,ty,tN,eN,a,l,cp,b,l2,cp2⟩:Sd) (bV hle cP) (bV hle hex) hl bN cg dd ao (aM hle r1) (aM hle r2) (cG hle s1) (cG hle s2))
   (fA (m:=m') (⟨5,[],aj,aO,eN,a,l,cp,none,0,0⟩:Sd) lz (bV hle hex) hl bN rfl (aA _) ⟨ao.k,aF _,lG,ao.l,aF _⟩ (aM hle r1) gE (cG hle s1) iM)
 have hX:=fun m' (hle:ah m m')=>mh _ ex eN.cs m' (aA _) (hg.upM hle) (bV hle hex)
 clear s1 s2 r1 r2;refine enter lY lP Tryz.func56 rfl rfl (by kernel_rfl) rfl ?_ ?_
 ·simp only[go_sem,Sd.cs,Nd.cs,aO,aj,Int.reduceEq,aV,aT]
 ·simp only[go_sem,Sd.cs,Nd.cs,aO,aj,Int.reduceEq,aV,aT];refine ak ((hB m (.inl rfl)).mono ?_);clear hB;rintro r H' m1 aQ ⟨l1,rfl,rfl⟩;simp only[go_sem,Sd.cs,Nd.cs,aO,aj,Int.reduceEq,aV,aT];refine⟨fun b1=>ak ((hA m1 l1).mono ?_),fun b1=> ?_⟩
  ·clear hA;rintro r H' m2 aJ ⟨fU,rfl,rfl⟩;have bR:=ae l1 fU;simp only[go_sem,Sd.cs,Nd.cs,aO,aj,Int.reduceEq,aV,aT];refine⟨fun b2=> ?_,fun b2=> ?_⟩
   ·refine ak ((aC (hX m2 bR) (fun V=>rfl)).mono ?_);clear hX;rintro r H' w1 px ⟨cO,rfl,rfl⟩;simp only[go_sem,Sd.cs,Nd.cs,aO,aj,Int.reduceEq,aV,aT];refine⟨fun c1=> ?_,fun c1=> ?_⟩
    ·refine ak ((aC (hQ w1 (ae bR cO)) (fun V=>rfl)).mono ?_);clear hQ;rintro r H' w2 sH ⟨gR,rfl,rfl⟩;simp only[go_sem,Sd.cs,Nd.cs,aO,aj,Int.reduceEq,aV,aT];refine⟨ae (ae bR cO) gR,?_⟩;rw[e0,eR,b1,b2,c1];rfl
    ·refine⟨(ae bR cO),?_⟩;rw[e0,eR,b1,b2,c1];rfl
   ·refine⟨bR,?_⟩;rw[e0,eR,b1,b2];rfl
  ·clear hA;refine⟨l1,?_⟩;rw[e0,eR,b1];rfl
theorem YQ (nm:List UInt8) (ty:Ty) (tN eN:Nd) (a:Option Addr) (l cp:Nat) (b:Option Addr) (l2 cp2:Nat) (tg ex:Ex) (body alt:List St) (xs ys:List Value) (m:Mem) (hg:Glob m)
  (cP:aW m tg tN.cs) (hex:aW m ex eN.cs) (hl:l=body.length) (bN:l<=cp) (cg:l2=alt.length) (dd:l2<=cp2) (ao:StOk 6 nm ty body.length alt.length) (r1:ax m a l 23 xs) (r2:ax m b l2 23 ys) (s1:bG m body xs) (s2:bG m alt ys) (B1 B2 B V:Bool)
  (hB:∀m',ah m m' ->aI 112 [.v (.slice a l cp),.v (.bool false)] m' (.bool B1)) (hA:∀m',ah m m' ->aI 112 [.v (.slice b l2 cp2),.v (.bool false)] m' (.bool B2)) (eR:B=(B1&&B2))
  (e0:V=((A4 ex||cY ex)&&et (St.mk 6 nm ty tg ex body alt) (St.mk 6 [] aj zE ex [] []))):aI 56 [.v (.agg ⟨Sd.cs ⟨6,nm,ty,tN,eN,a,l,cp,b,l2,cp2⟩⟩)] m (.bool V):=by
 have hQ:∀m',ah m m' ->aI 119 [.v (.agg ⟨Sd.cs ⟨6,nm,ty,tN,eN,a,l,cp,b,l2,cp2⟩⟩),.v (.agg ⟨Sd.cs ⟨6,[],aj,aO,eN,none,0,0,none,0,0⟩⟩)] m' (.bool (et (St.mk 6 nm ty tg ex body alt) (St.mk 6 [] aj zE ex [] []))):=fun m' hle=>
  lp _ _ _ _ _ m' (aA _) (fA (m:=m') (⟨6,nm,ty,tN,eN,a,l,cp,b,l2,cp2⟩:Sd) (bV hle cP) (bV hle hex) hl bN cg dd ao (aM hle r1) (aM hle r2) (cG hle s1) (cG hle s2))
   (fA (m:=m') (⟨6,[],aj,aO,eN,none,0,0,none,0,0⟩:Sd) lz (bV hle hex) rfl (aA _) rfl (aA _) ⟨ao.k,aF _,lG,aF _,aF _⟩ gE gE iM iM)
 have hX:=fun m' (hle:ah m m')=>mh _ ex eN.cs m' (aA _) (hg.upM hle) (bV hle hex)
 have hZ:=fun m' (_:ah m m')=>Rx hex m'
 clear s1 s2 r1 r2;refine enter lY lP Tryz.func56 rfl rfl (by kernel_rfl) rfl ?_ ?_
 ·simp only[go_sem,Sd.cs,Nd.cs,aO,aj,Int.reduceEq,aV,aT]
 ·simp only[go_sem,Sd.cs,Nd.cs,aO,aj,Int.reduceEq,aV,aT];refine ak ((hB m (.inl rfl)).mono ?_);clear hB;rintro r H' m1 aQ ⟨l1,rfl,rfl⟩;simp only[go_sem,Sd.cs,Nd.cs,aO,aj,Int.reduceEq,aV,aT];refine⟨fun b1=>ak ((hA m1 l1).mono ?_),fun b1=> ?_⟩
  ·clear hA;rintro r H' m2 aJ ⟨fU,rfl,rfl⟩;have bR:=ae l1 fU;simp only[go_sem,Sd.cs,Nd.cs,aO,aj,Int.reduceEq,aV,aT];refine ak ((aC (hZ m2 bR) (fun V=>rfl)).mono ?_);clear hZ;rintro r H' w1 px ⟨cO,rfl,rfl⟩;simp only[go_sem,Sd.cs,Nd.cs,aO,aj,Int.reduceEq,aV,aT];refine⟨fun c=> ?_,fun c=> ?_⟩
   ·refine ak ((aC (hX w1 (ae bR cO)) (fun V=>rfl)).mono ?_);clear hX;rintro r H' w2 sH ⟨gR,rfl,rfl⟩;simp only[go_sem,Sd.cs,Nd.cs,aO,aj,Int.reduceEq,aV,aT];refine⟨fun c2=> ?_,fun c2=> ?_⟩
    ·refine ak ((aC (hQ w2 (ae (ae bR cO) gR)) (fun V=>rfl)).mono ?_);clear hQ;rintro r H' w3 zp ⟨iD,rfl,rfl⟩;simp only[go_sem,Sd.cs,Nd.cs,aO,aj,Int.reduceEq,aV,aT];refine⟨ae (ae (ae bR cO) gR) iD,?_⟩;rw[e0,c,c2];rfl
    ·refine⟨(ae (ae bR cO) gR),?_⟩;rw[e0,c,c2];rfl
   ·refine ak ((aC (hQ w1 (ae bR cO)) (fun V=>rfl)).mono ?_);clear hQ;rintro r H' w4 zo ⟨kv,rfl,rfl⟩;simp only[go_sem,Sd.cs,Nd.cs,aO,aj,Int.reduceEq,aV,aT];refine⟨ae (ae bR cO) kv,?_⟩;rw[e0,c];rfl
  ·clear hA;refine ak ((aC (hZ m1 l1) (fun V=>rfl)).mono ?_);clear hZ;rintro r H' w5 hw5 ⟨pt,rfl,rfl⟩;simp only[go_sem,Sd.cs,Nd.cs,aO,aj,Int.reduceEq,aV,aT];refine⟨fun c=> ?_,fun c=> ?_⟩
   ·refine ak ((aC (hX w5 (ae l1 pt)) (fun V=>rfl)).mono ?_);clear hX;rintro r H' w6 hw6 ⟨zh,rfl,rfl⟩;simp only[go_sem,Sd.cs,Nd.cs,aO,aj,Int.reduceEq,aV,aT];refine⟨fun c6=> ?_,fun c6=> ?_⟩
    ·refine ak ((aC (hQ w6 (ae (ae l1 pt) zh)) (fun V=>rfl)).mono ?_);clear hQ;rintro r H' w7 hw7 ⟨lw7,rfl,rfl⟩;simp only[go_sem,Sd.cs,Nd.cs,aO,aj,Int.reduceEq,aV,aT];refine⟨ae (ae (ae l1 pt) zh) lw7,?_⟩;rw[e0,c,c6];rfl
    ·refine⟨(ae (ae l1 pt) zh),?_⟩;rw[e0,c,c6];rfl
   ·refine ak ((aC (hQ w5 (ae l1 pt)) (fun V=>rfl)).mono ?_);clear hQ;rintro r H' w8 hw8 ⟨lw8,rfl,rfl⟩;simp only[go_sem,Sd.cs,Nd.cs,aO,aj,Int.reduceEq,aV,aT];refine⟨ae (ae l1 pt) lw8,?_⟩;rw[e0,c];rfl
theorem YP (nm:List UInt8) (ty:Ty) (tN eN:Nd) (a:Option Addr) (l cp:Nat) (b:Option Addr) (l2 cp2:Nat) (tg ex:Ex) (body alt:List St) (xs ys:List Value) (m:Mem) (hg:Glob m)
  (cP:aW m tg tN.cs) (hex:aW m ex eN.cs) (hl:l=body.length) (bN:l<=cp) (cg:l2=alt.length) (dd:l2<=cp2) (ao:StOk 7 nm ty body.length alt.length) (r1:ax m a l 23 xs) (r2:ax m b l2 23 ys) (s1:bG m body xs) (s2:bG m alt ys) (B1 B2 B V:Bool)
  (hB:∀m',ah m m' ->aI 112 [.v (.slice a l cp),.v (.bool false)] m' (.bool B1)) (hA:∀m',ah m m' ->aI 112 [.v (.slice b l2 cp2),.v (.bool false)] m' (.bool B2)) (eR:B=(B1&&B2))
  (e0:V=(cY ex&&et (St.mk 7 nm ty tg ex body alt) (St.mk 7 [] aj zE ex [] []))):aI 56 [.v (.agg ⟨Sd.cs ⟨7,nm,ty,tN,eN,a,l,cp,b,l2,cp2⟩⟩)] m (.bool V):=by
 have hQ:∀m',ah m m' ->aI 119 [.v (.agg ⟨Sd.cs ⟨7,nm,ty,tN,eN,a,l,cp,b,l2,cp2⟩⟩),.v (.agg ⟨Sd.cs ⟨7,[],aj,aO,eN,none,0,0,none,0,0⟩⟩)] m' (.bool (et (St.mk 7 nm ty tg ex body alt) (St.mk 7 [] aj zE ex [] []))):=fun m' hle=>
  lp _ _ _ _ _ m' (aA _) (fA (m:=m') (⟨7,nm,ty,tN,eN,a,l,cp,b,l2,cp2⟩:Sd) (bV hle cP) (bV hle hex) hl bN cg dd ao (aM hle r1) (aM hle r2) (cG hle s1) (cG hle s2))
   (fA (m:=m') (⟨7,[],aj,aO,eN,none,0,0,none,0,0⟩:Sd) lz (bV hle hex) rfl (aA _) rfl (aA _) ⟨ao.k,aF _,lG,aF _,aF _⟩ gE gE iM iM)
 have hX:=fun m' (hle:ah m m')=>mh _ ex eN.cs m' (aA _) (hg.upM hle) (bV hle hex)
 clear s1 s2 r1 r2;refine enter lY lP Tryz.func56 rfl rfl (by kernel_rfl) rfl ?_ ?_
 ·simp only[go_sem,Sd.cs,Nd.cs,aO,aj,Int.reduceEq,aV,aT]
 ·simp only[go_sem,Sd.cs,Nd.cs,aO,aj,Int.reduceEq,aV,aT];refine ak ((hB m (.inl rfl)).mono ?_);clear hB;rintro r H' m1 aQ ⟨l1,rfl,rfl⟩;simp only[go_sem,Sd.cs,Nd.cs,aO,aj,Int.reduceEq,aV,aT];refine⟨fun b1=>ak ((hA m1 l1).mono ?_),fun b1=> ?_⟩
  ·clear hA;rintro r H' m2 aJ ⟨fU,rfl,rfl⟩;have bR:=ae l1 fU;simp only[go_sem,Sd.cs,Nd.cs,aO,aj,Int.reduceEq,aV,aT];refine ak ((aC (hX m2 bR) (fun V=>rfl)).mono ?_);clear hX;rintro r H' w1 px ⟨cO,rfl,rfl⟩;simp only[go_sem,Sd.cs,Nd.cs,aO,aj,Int.reduceEq,aV,aT];refine⟨fun c1=> ?_,fun c1=> ?_⟩
   ·refine ak ((aC (hQ w1 (ae bR cO)) (fun V=>rfl)).mono ?_);clear hQ;rintro r H' w2 sH ⟨gR,rfl,rfl⟩;simp only[go_sem,Sd.cs,Nd.cs,aO,aj,Int.reduceEq,aV,aT];refine⟨ae (ae bR cO) gR,?_⟩;rw[e0,c1];rfl
   ·refine⟨(ae bR cO),?_⟩;rw[e0,c1];rfl
  ·clear hA;refine ak ((aC (hX m1 l1) (fun V=>rfl)).mono ?_);clear hX;rintro r H' w3 zp ⟨iD,rfl,rfl⟩;simp only[go_sem,Sd.cs,Nd.cs,aO,aj,Int.reduceEq,aV,aT];refine⟨fun c3=> ?_,fun c3=> ?_⟩
   ·refine ak ((aC (hQ w3 (ae l1 iD)) (fun V=>rfl)).mono ?_);clear hQ;rintro r H' w4 zo ⟨kv,rfl,rfl⟩;simp only[go_sem,Sd.cs,Nd.cs,aO,aj,Int.reduceEq,aV,aT];refine⟨ae (ae l1 iD) kv,?_⟩;rw[e0,c3];rfl
   ·refine⟨(ae l1 iD),?_⟩;rw[e0,c3];rfl
theorem YO (nm:List UInt8) (ty:Ty) (tN eN:Nd) (a:Option Addr) (l cp:Nat) (b:Option Addr) (l2 cp2:Nat) (tg ex:Ex) (body alt:List St) (xs ys:List Value) (m:Mem) (hg:Glob m)
  (cP:aW m tg tN.cs) (hex:aW m ex eN.cs) (hl:l=body.length) (bN:l<=cp) (cg:l2=alt.length) (dd:l2<=cp2) (ao:StOk 8 nm ty body.length alt.length) (r1:ax m a l 23 xs) (r2:ax m b l2 23 ys) (s1:bG m body xs) (s2:bG m alt ys) (B1 B2 B V:Bool)
  (hB:∀m',ah m m' ->aI 112 [.v (.slice a l cp),.v (.bool false)] m' (.bool B1)) (hA:∀m',ah m m' ->aI 112 [.v (.slice b l2 cp2),.v (.bool false)] m' (.bool B2)) (eR:B=(B1&&B2))
  (e0:V=((B&&jL nm&&iK ty.dim ty.base ty.name)&&et (St.mk 8 nm ty tg ex body alt) (St.mk 8 nm ty zE zE body alt))):aI 56 [.v (.agg ⟨Sd.cs ⟨8,nm,ty,tN,eN,a,l,cp,b,l2,cp2⟩⟩)] m (.bool V):=by
 have hQ:∀m',ah m m' ->aI 119 [.v (.agg ⟨Sd.cs ⟨8,nm,ty,tN,eN,a,l,cp,b,l2,cp2⟩⟩),.v (.agg ⟨Sd.cs ⟨8,nm,ty,aO,aO,a,l,cp,b,l2,cp2⟩⟩)] m' (.bool (et (St.mk 8 nm ty tg ex body alt) (St.mk 8 nm ty zE zE body alt))):=fun m' hle=>
  lp _ _ _ _ _ m' (aA _) (fA (m:=m') (⟨8,nm,ty,tN,eN,a,l,cp,b,l2,cp2⟩:Sd) (bV hle cP) (bV hle hex) hl bN cg dd ao (aM hle r1) (aM hle r2) (cG hle s1) (cG hle s2))
   (fA (m:=m') (⟨8,nm,ty,aO,aO,a,l,cp,b,l2,cp2⟩:Sd) lz lz hl bN cg dd ⟨ao.k,ao.nm,ao.ty,ao.l,ao.l2⟩ (aM hle r1) (aM hle r2) (cG hle s1) (cG hle s2))
 have BI:BL nm:=dk ao.nm (by decide);have BH:BL ty.name:=dk ao.ty.2.2 (by decide);clear s1 s2 r1 r2;refine enter lY lP Tryz.func56 rfl rfl (by kernel_rfl) rfl ?_ ?_
 ·simp only[go_sem,Sd.cs,Nd.cs,aO,aj,Int.reduceEq,aV,aT]
 ·simp only[go_sem,Sd.cs,Nd.cs,aO,aj,Int.reduceEq,aV,aT];refine ak ((hB m (.inl rfl)).mono ?_);clear hB;rintro r H' m1 aQ ⟨l1,rfl,rfl⟩;simp only[go_sem,Sd.cs,Nd.cs,aO,aj,Int.reduceEq,aV,aT];refine⟨fun b1=>ak ((hA m1 l1).mono ?_),fun b1=> ?_⟩
  ·clear hA;rintro r H' m2 aJ ⟨fU,rfl,rfl⟩;have bR:=ae l1 fU;simp only[go_sem,Sd.cs,Nd.cs,aO,aj,Int.reduceEq,aV,aT];refine⟨fun _=>BI,fun _=>BH,fun c=> ?_,fun c=> ?_⟩
   ·refine ak ((aC (hQ m2 bR) (fun V=>rfl)).mono ?_);clear hQ;rintro r H' w1 px ⟨cO,rfl,rfl⟩;simp only[go_sem,Sd.cs,Nd.cs,aO,aj,Int.reduceEq,aV,aT];refine⟨ae bR cO,?_⟩;rw[e0,eR,b1,c.1.1,c.1.2,c.2];rfl
   ·refine⟨bR,?_⟩;rw[e0,eR,b1];rcases c with (c |c) |c<;>simp [c]
  ·clear hA;refine⟨l1,?_⟩;rw[e0,eR,b1];rfl
theorem YN (nm:List UInt8) (ty:Ty) (tN eN:Nd) (a:Option Addr) (l cp:Nat) (b:Option Addr) (l2 cp2:Nat) (tg ex:Ex) (body alt:List St) (xs ys:List Value) (m:Mem) (hg:Glob m)
  (cP:aW m tg tN.cs) (hex:aW m ex eN.cs) (hl:l=body.length) (bN:l<=cp) (cg:l2=alt.length) (dd:l2<=cp2) (ao:StOk 9 nm ty body.length alt.length) (r1:ax m a l 23 xs) (r2:ax m b l2 23 ys) (s1:bG m body xs) (s2:bG m alt ys) (B1 B2 B V:Bool)
  (hB:∀m',ah m m' ->aI 112 [.v (.slice a l cp),.v (.bool false)] m' (.bool B1)) (hA:∀m',ah m m' ->aI 112 [.v (.slice b l2 cp2),.v (.bool false)] m' (.bool B2)) (eR:B=(B1&&B2))
  (e0:V=((B&&cY ex)&&et (St.mk 9 nm ty tg ex body alt) (St.mk 9 [] aj zE ex body []))):aI 56 [.v (.agg ⟨Sd.cs ⟨9,nm,ty,tN,eN,a,l,cp,b,l2,cp2⟩⟩)] m (.bool V):=by
 have hQ:∀m',ah m m' ->aI 119 [.v (.agg ⟨Sd.cs ⟨9,nm,ty,tN,eN,a,l,cp,b,l2,cp2⟩⟩),.v (.agg ⟨Sd.cs ⟨9,[],aj,aO,eN,a,l,cp,none,0,0⟩⟩)] m' (.bool (et (St.mk 9 nm ty tg ex body alt) (St.mk 9 [] aj zE ex body []))):=fun m' hle=>
  lp _ _ _ _ _ m' (aA _) (fA (m:=m') (⟨9,nm,ty,tN,eN,a,l,cp,b,l2,cp2⟩:Sd) (bV hle cP) (bV hle hex) hl bN cg dd ao (aM hle r1) (aM hle r2) (cG hle s1) (cG hle s2))
   (fA (m:=m') (⟨9,[],aj,aO,eN,a,l,cp,none,0,0⟩:Sd) lz (bV hle hex) hl bN rfl (aA _) ⟨ao.k,aF _,lG,ao.l,aF _⟩ (aM hle r1) gE (cG hle s1) iM)
 have hX:=fun m' (hle:ah m m')=>mh _ ex eN.cs m' (aA _) (hg.upM hle) (bV hle hex)
 clear s1 s2 r1 r2;refine enter lY lP Tryz.func56 rfl rfl (by kernel_rfl) rfl ?_ ?_
 ·simp only[go_sem,Sd.cs,Nd.cs,aO,aj,Int.reduceEq,aV,aT]
 ·simp only[go_sem,Sd.cs,Nd.cs,aO,aj,Int.reduceEq,aV,aT];refine ak ((hB m (.inl rfl)).mono ?_);clear hB;rintro r H' m1 aQ ⟨l1,rfl,rfl⟩;simp only[go_sem,Sd.cs,Nd.cs,aO,aj,Int.reduceEq,aV,aT];refine⟨fun b1=>ak ((hA m1 l1).mono ?_),fun b1=> ?_⟩
  ·clear hA;rintro r H' m2 aJ ⟨fU,rfl,rfl⟩;have bR:=ae l1 fU;simp only[go_sem,Sd.cs,Nd.cs,aO,aj,Int.reduceEq,aV,aT];refine⟨fun b2=> ?_,fun b2=> ?_⟩
   ·refine ak ((aC (hX m2 bR) (fun V=>rfl)).mono ?_);clear hX;rintro r H' w1 px ⟨cO,rfl,rfl⟩;simp only[go_sem,Sd.cs,Nd.cs,aO,aj,Int.reduceEq,aV,aT];refine⟨fun c1=> ?_,fun c1=> ?_⟩
    ·refine ak ((aC (hQ w1 (ae bR cO)) (fun V=>rfl)).mono ?_);clear hQ;rintro r H' w2 sH ⟨gR,rfl,rfl⟩;simp only[go_sem,Sd.cs,Nd.cs,aO,aj,Int.reduceEq,aV,aT];refine⟨ae (ae bR cO) gR,?_⟩;rw[e0,eR,b1,b2,c1];rfl
    ·refine⟨(ae bR cO),?_⟩;rw[e0,eR,b1,b2,c1];rfl
   ·refine⟨bR,?_⟩;rw[e0,eR,b1,b2];rfl
  ·clear hA;refine⟨l1,?_⟩;rw[e0,eR,b1];rfl
theorem W6 (nm:List UInt8) (ty:Ty) (tN eN:Nd) (a:Option Addr) (l cp:Nat) (b:Option Addr) (l2 cp2:Nat) (tg ex:Ex) (body alt:List St) (xs ys:List Value) (m:Mem) (hg:Glob m)
  (cP:aW m tg tN.cs) (hex:aW m ex eN.cs) (hl:l=body.length) (bN:l<=cp) (cg:l2=alt.length) (dd:l2<=cp2) (ao:StOk 10 nm ty body.length alt.length) (r1:ax m a l 23 xs) (r2:ax m b l2 23 ys) (s1:bG m body xs) (s2:bG m alt ys) (B1 B2 B V:Bool)
  (hB:∀m',ah m m' ->aI 112 [.v (.slice a l cp),.v (.bool false)] m' (.bool B1)) (hA:∀m',ah m m' ->aI 112 [.v (.slice b l2 cp2),.v (.bool false)] m' (.bool B2)) (eR:B=(B1&&B2))
  (e0:V=(B&&et (St.mk 10 nm ty tg ex body alt) (St.mk 10 [] aj zE zE body []))):aI 56 [.v (.agg ⟨Sd.cs ⟨10,nm,ty,tN,eN,a,l,cp,b,l2,cp2⟩⟩)] m (.bool V):=by
 have hQ:∀m',ah m m' ->aI 119 [.v (.agg ⟨Sd.cs ⟨10,nm,ty,tN,eN,a,l,cp,b,l2,cp2⟩⟩),.v (.agg ⟨Sd.cs ⟨10,[],aj,aO,aO,a,l,cp,none,0,0⟩⟩)] m' (.bool (et (St.mk 10 nm ty tg ex body alt) (St.mk 10 [] aj zE zE body []))):=fun m' hle=>
  lp _ _ _ _ _ m' (aA _) (fA (m:=m') (⟨10,nm,ty,tN,eN,a,l,cp,b,l2,cp2⟩:Sd) (bV hle cP) (bV hle hex) hl bN cg dd ao (aM hle r1) (aM hle r2) (cG hle s1) (cG hle s2))
   (fA (m:=m') (⟨10,[],aj,aO,aO,a,l,cp,none,0,0⟩:Sd) lz lz hl bN rfl (aA _) ⟨ao.k,aF _,lG,ao.l,aF _⟩ (aM hle r1) gE (cG hle s1) iM)
 clear s1 s2 r1 r2;refine enter lY lP Tryz.func56 rfl rfl (by kernel_rfl) rfl ?_ ?_
 ·simp only[go_sem,Sd.cs,Nd.cs,aO,aj,Int.reduceEq,aV,aT]
 ·simp only[go_sem,Sd.cs,Nd.cs,aO,aj,Int.reduceEq,aV,aT];refine ak ((hB m (.inl rfl)).mono ?_);clear hB;rintro r H' m1 aQ ⟨l1,rfl,rfl⟩;simp only[go_sem,Sd.cs,Nd.cs,aO,aj,Int.reduceEq,aV,aT];refine⟨fun b1=>ak ((hA m1 l1).mono ?_),fun b1=> ?_⟩
  ·clear hA;rintro r H' m2 aJ ⟨fU,rfl,rfl⟩;have bR:=ae l1 fU;simp only[go_sem,Sd.cs,Nd.cs,aO,aj,Int.reduceEq,aV,aT];refine⟨fun b2=> ?_,fun b2=> ?_⟩
   ·refine ak ((aC (hQ m2 bR) (fun V=>rfl)).mono ?_);clear hQ;rintro r H' w1 px ⟨cO,rfl,rfl⟩;simp only[go_sem,Sd.cs,Nd.cs,aO,aj,Int.reduceEq,aV,aT];refine⟨ae bR cO,?_⟩;rw[e0,eR,b1,b2];rfl
   ·refine⟨bR,?_⟩;rw[e0,eR,b1,b2];rfl
  ·clear hA;refine⟨l1,?_⟩;rw[e0,eR,b1];rfl
theorem W5 (nm:List UInt8) (ty:Ty) (tN eN:Nd) (a:Option Addr) (l cp:Nat) (b:Option Addr) (l2 cp2:Nat) (tg ex:Ex) (body alt:List St) (xs ys:List Value) (m:Mem) (hg:Glob m)
  (cP:aW m tg tN.cs) (hex:aW m ex eN.cs) (hl:l=body.length) (bN:l<=cp) (cg:l2=alt.length) (dd:l2<=cp2) (ao:StOk 11 nm ty body.length alt.length) (r1:ax m a l 23 xs) (r2:ax m b l2 23 ys) (s1:bG m body xs) (s2:bG m alt ys) (B1 B2 B V:Bool)
  (hB:∀m',ah m m' ->aI 112 [.v (.slice a l cp),.v (.bool false)] m' (.bool B1)) (hA:∀m',ah m m' ->aI 112 [.v (.slice b l2 cp2),.v (.bool false)] m' (.bool B2)) (eR:B=(B1&&B2))
  (e0:V=(xO ex&&et (St.mk 11 nm ty tg ex body alt) (St.mk 11 [] aj zE ex [] []))):aI 56 [.v (.agg ⟨Sd.cs ⟨11,nm,ty,tN,eN,a,l,cp,b,l2,cp2⟩⟩)] m (.bool V):=by
 have hQ:∀m',ah m m' ->aI 119 [.v (.agg ⟨Sd.cs ⟨11,nm,ty,tN,eN,a,l,cp,b,l2,cp2⟩⟩),.v (.agg ⟨Sd.cs ⟨11,[],aj,aO,eN,none,0,0,none,0,0⟩⟩)] m' (.bool (et (St.mk 11 nm ty tg ex body alt) (St.mk 11 [] aj zE ex [] []))):=fun m' hle=>
  lp _ _ _ _ _ m' (aA _) (fA (m:=m') (⟨11,nm,ty,tN,eN,a,l,cp,b,l2,cp2⟩:Sd) (bV hle cP) (bV hle hex) hl bN cg dd ao (aM hle r1) (aM hle r2) (cG hle s1) (cG hle s2))
   (fA (m:=m') (⟨11,[],aj,aO,eN,none,0,0,none,0,0⟩:Sd) lz (bV hle hex) rfl (aA _) rfl (aA _) ⟨ao.k,aF _,lG,aF _,aF _⟩ gE gE iM iM)
 have hX:=fun m' (hle:ah m m')=>Nw ex eN.cs m' (hg.upM hle) (bV hle hex)
 clear s1 s2 r1 r2;refine enter lY lP Tryz.func56 rfl rfl (by kernel_rfl) rfl ?_ ?_
 ·simp only[go_sem,Sd.cs,Nd.cs,aO,aj,Int.reduceEq,aV,aT]
 ·simp only[go_sem,Sd.cs,Nd.cs,aO,aj,Int.reduceEq,aV,aT];refine ak ((hB m (.inl rfl)).mono ?_);clear hB;rintro r H' m1 aQ ⟨l1,rfl,rfl⟩;simp only[go_sem,Sd.cs,Nd.cs,aO,aj,Int.reduceEq,aV,aT];refine⟨fun b1=>ak ((hA m1 l1).mono ?_),fun b1=> ?_⟩
  ·clear hA;rintro r H' m2 aJ ⟨fU,rfl,rfl⟩;have bR:=ae l1 fU;simp only[go_sem,Sd.cs,Nd.cs,aO,aj,Int.reduceEq,aV,aT];refine ak ((aC (hX m2 bR) (fun V=>rfl)).mono ?_);clear hX;rintro r H' w1 px ⟨cO,rfl,rfl⟩;simp only[go_sem,Sd.cs,Nd.cs,aO,aj,Int.reduceEq,aV,aT];refine⟨fun c1=> ?_,fun c1=> ?_⟩
   ·refine ak ((aC (hQ w1 (ae bR cO)) (fun V=>rfl)).mono ?_);clear hQ;rintro r H' w2 sH ⟨gR,rfl,rfl⟩;simp only[go_sem,Sd.cs,Nd.cs,aO,aj,Int.reduceEq,aV,aT];refine⟨ae (ae bR cO) gR,?_⟩;rw[e0,c1];rfl
   ·refine⟨(ae bR cO),?_⟩;rw[e0,c1];rfl
  ·clear hA;refine ak ((aC (hX m1 l1) (fun V=>rfl)).mono ?_);clear hX;rintro r H' w3 zp ⟨iD,rfl,rfl⟩;simp only[go_sem,Sd.cs,Nd.cs,aO,aj,Int.reduceEq,aV,aT];refine⟨fun c3=> ?_,fun c3=> ?_⟩
   ·refine ak ((aC (hQ w3 (ae l1 iD)) (fun V=>rfl)).mono ?_);clear hQ;rintro r H' w4 zo ⟨kv,rfl,rfl⟩;simp only[go_sem,Sd.cs,Nd.cs,aO,aj,Int.reduceEq,aV,aT];refine⟨ae (ae l1 iD) kv,?_⟩;rw[e0,c3];rfl
   ·refine⟨(ae l1 iD),?_⟩;rw[e0,c3];rfl
theorem YX (k:Int) (nm:List UInt8) (ty:Ty) (tN eN:Nd) (a:Option Addr) (l cp:Nat) (b:Option Addr) (l2 cp2:Nat) (m:Mem) (B1 B2:Bool) (e:∀j:Int,1<=j->j<=11->(k=j)=False)
  (hB:∀m',ah m m' ->aI 112 [.v (.slice a l cp),.v (.bool false)] m' (.bool B1)) (hA:∀m',ah m m' ->aI 112 [.v (.slice b l2 cp2),.v (.bool false)] m' (.bool B2)):
  aI 56 [.v (.agg ⟨Sd.cs ⟨k,nm,ty,tN,eN,a,l,cp,b,l2,cp2⟩⟩)] m (.bool false):=by
 have e1:=e 1 (by decide) (by decide);have e2:=e 2 (by decide) (by decide);have e3:=e 3 (by decide) (by decide);have e4:=e 4 (by decide) (by decide);have e5:=e 5 (by decide) (by decide);have e6:=e 6 (by decide) (by decide);have e7:=e 7 (by decide) (by decide);have e8:=e 8 (by decide) (by decide);have e9:=e 9 (by decide) (by decide);have bZ:=e 10 (by decide) (by decide);have cj:=e 11 (by decide) (by decide);refine enter lY lP Tryz.func56 rfl rfl (by kernel_rfl) rfl ?_ ?_
 ·simp only[go_sem,Sd.cs,Nd.cs]
 ·simp only[go_sem,Sd.cs,Nd.cs];refine ak ((hB m (.inl rfl)).mono ?_);clear hB;rintro r H' m1 aQ ⟨l1,rfl,rfl⟩;simp only[go_sem,Sd.cs,Nd.cs,e1,e2,e3,e4,e5,e6,e7,e8,e9,bZ,cj,aT];refine⟨fun b1=>ak ((hA m1 l1).mono ?_),fun b1=>l1⟩;clear hA;rintro r H' m2 aJ ⟨fU,rfl,rfl⟩;simp only[go_sem,Sd.cs,Nd.cs,e1,e2,e3,e4,e5,e6,e7,e8,e9,bZ,cj,aT];exact ae l1 fU
theorem Q7 {k:Int}:(k=1\/k=2\/k=3\/k=4\/k=5\/k=6\/k=7\/k=8\/k=9\/k=10\/k=11)\/∀j:Int,1<=j->j<=11->(k=j)=False:=by
 by_cases h:1<=k/\k<=11
 ·left;omega
 ·right;intro j h1 h2;exact eq_false fun e=>h (by omega)
theorem CL:∀(h:Nat) (e:St) (cs:List Value) (m:Mem),fN e<=h->Glob m->eg m e cs->aI 56 [.v (.agg ⟨cs⟩)] m (.bool (fj e))
 |0,.mk k nm ty tg ex body alt,cs,m,hd,_,_=>by simp [fN] at hd
 |h+1,.mk k nm ty tg ex body alt,cs,m,hd,hg,he=>by
  obtain⟨⟨k,nm,ty,tN,eN,a,l,cp,b,l2,cp2⟩,rfl,rfl,rfl,rfl,cP,hex,hl,bN,cg,dd,ao,xs,ys,r1,r2,s1,s2⟩:=u7 he;simp only[fN] at hd;simp only at cP hex hl bN cg dd ao r1 r2;have hB:=fun m' (hle:ah m m')=>CY false body a l cp xs m' hl (aM hle r1) (cG hle s1) (by rw[hl];exact ao.l) fun e he cs m2 bD bU=>CL h e cs m2 (by have:=qY he;omega) (hg.upM (ae hle bD)) bU
  have hA:=fun m' (hle:ah m m')=>CY false alt b l2 cp2 ys m' cg (aM hle r2) (cG hle s2) (by rw[cg];exact ao.l2) fun e he cs m2 bD bU=>CL h e cs m2 (by have:=qY he;omega) (hg.upM (ae hle bD)) bU
  simp only;rcases Q7 (k:=k) with hk |hk
  ·rcases hk with rfl |rfl |rfl |rfl |rfl |rfl |rfl |rfl |rfl |rfl |rfl
   ·exact YV nm ty tN eN a l cp b l2 cp2 tg ex body alt xs ys m hg cP hex hl bN cg dd ao r1 r2 s1 s2 _ _ _ _ hB hA rfl (by simp only[fj,jQ,mB,Int.reduceEq,or_false,or_true,false_or,true_or,if_true,if_false])
   ·exact YU nm ty tN eN a l cp b l2 cp2 tg ex body alt xs ys m hg cP hex hl bN cg dd ao r1 r2 s1 s2 _ _ _ _ hB hA rfl (by simp only[fj,jQ,mB,Int.reduceEq,or_false,or_true,false_or,true_or,if_true,if_false])
   ·exact YT nm ty tN eN a l cp b l2 cp2 tg ex body alt xs ys m hg cP hex hl bN cg dd ao r1 r2 s1 s2 _ _ _ _ hB hA rfl (by simp only[fj,jQ,mB,Int.reduceEq,or_false,or_true,false_or,true_or,if_true,if_false])
   ·exact YS nm ty tN eN a l cp b l2 cp2 tg ex body alt xs ys m hg cP hex hl bN cg dd ao r1 r2 s1 s2 _ _ _ _ hB hA rfl (by simp only[fj,jQ,mB,Int.reduceEq,or_false,or_true,false_or,true_or,if_true,if_false])
   ·exact YR nm ty tN eN a l cp b l2 cp2 tg ex body alt xs ys m hg cP hex hl bN cg dd ao r1 r2 s1 s2 _ _ _ _ hB hA rfl (by simp only[fj,jQ,mB,Int.reduceEq,or_false,or_true,false_or,true_or,if_true,if_false])
   ·exact YQ nm ty tN eN a l cp b l2 cp2 tg ex body alt xs ys m hg cP hex hl bN cg dd ao r1 r2 s1 s2 _ _ _ _ hB hA rfl (by simp only[fj,jQ,mB,Int.reduceEq,or_false,or_true,false_or,true_or,if_true,if_false])
   ·exact YP nm ty tN eN a l cp b l2 cp2 tg ex body alt xs ys m hg cP hex hl bN cg dd ao r1 r2 s1 s2 _ _ _ _ hB hA rfl (by simp only[fj,jQ,mB,Int.reduceEq,or_false,or_true,false_or,true_or,if_true,if_false])
   ·exact YO nm ty tN eN a l cp b l2 cp2 tg ex body alt xs ys m hg cP hex hl bN cg dd ao r1 r2 s1 s2 _ _ _ _ hB hA rfl (by simp only[fj,jQ,mB,Int.reduceEq,or_false,or_true,false_or,true_or,if_true,if_false])
   ·exact YN nm ty tN eN a l cp b l2 cp2 tg ex body alt xs ys m hg cP hex hl bN cg dd ao r1 r2 s1 s2 _ _ _ _ hB hA rfl (by simp only[fj,jQ,mB,Int.reduceEq,or_false,or_true,false_or,true_or,if_true,if_false])
   ·exact W6 nm ty tN eN a l cp b l2 cp2 tg ex body alt xs ys m hg cP hex hl bN cg dd ao r1 r2 s1 s2 _ _ _ _ hB hA rfl (by simp only[fj,jQ,mB,Int.reduceEq,or_false,or_true,false_or,true_or,if_true,if_false])
   ·exact W5 nm ty tN eN a l cp b l2 cp2 tg ex body alt xs ys m hg cP hex hl bN cg dd ao r1 r2 s1 s2 _ _ _ _ hB hA rfl (by simp only[fj,jQ,mB,Int.reduceEq,or_false,or_true,false_or,true_or,if_true,if_false])
  ·have hv:=YX k nm ty tN eN a l cp b l2 cp2 m _ _ hk hB hA;have:fj (.mk k nm ty tg ex body alt)=false:=by
    have e:∀j:Int,1<=j->j<=11->¬k=j:=fun j h1 h2 h3=>by have:=hk j h1 h2;rw[this] at h3;exact h3
    simp only[fj,jQ,hk 1 (by decide) (by decide),hk 2 (by decide) (by decide),hk 3 (by decide) (by decide),hk 4 (by decide) (by decide),hk 5 (by decide) (by decide),hk 6 (by decide) (by decide),hk 7 (by decide) (by decide),hk 8 (by decide) (by decide),hk 9 (by decide) (by decide),hk 10 (by decide) (by decide),hk 11 (by decide) (by decide),or_false,if_false,Bool.false_and]
   rw[this];exact hv
theorem HS (sup:Bool) (l:List St) (a:Option Addr) (n c:Nat) (xs:List Value) (m:Mem) (hg:Glob m) (hl:n=l.length) (hr:ax m a n 23 xs) (hs:bG m l xs) (hn:n<=aw):
  aI 112 [.v (.slice a n c),.v (.bool sup)] m (.bool (tq sup l)):=
 CY sup l a n c xs m hl hr hs hn fun e _ cs m' hle bU=>CL _ e cs m' (aA _) (hg.upM hle) bU
def hasB (fl m:Int):Bool:= !decide (bits .and .i64 fl m=0)
def qm (fl:Int):Bool:=decide (bits .and .i64 fl 7=0)||decide (bits .and .i64 fl 7=1)||decide (bits .and .i64 fl 7=2)||decide (bits .and .i64 fl 7=4)
def pZ (fl al:Int):Bool:=decide (bits .andNot .i64 fl al=0)
def rk (fl:Int):Bool:=qm fl&&pZ fl 1087&& !(hasB fl 1024&&hasB fl 58)&&(!hasB fl 32|| !hasB fl 8)
def vw (f:Fc):Bool:=iK f.ty.dim f.ty.base f.ty.name&&jL f.name&&qm f.fl&&pZ f.fl 31
def rv (p:Pc):Bool:=iK p.ty.dim p.ty.base p.ty.name&&jL p.name
def rq (t:Ty):Bool:=decide (t.dim=0)&&(decide (t.base=86)&&decide (t.name=[]))
def nR (m:Md):Bool:=if m.name=bB then rq m.res&&m.hb&&pZ m.fl 7 else jL m.name&&(rq m.res||iK m.res.dim m.res.base m.res.name)
def o8 (m:Md):Bool:=rk m.fl&& !(m.hb==hasB m.fl 1024)&&(m.hb||decide (m.body.length=0))&&decide (m.params.length<=16)
def ke (m:Md):Bool:=nR m&&o8 m&& !(m.params.any fun p=> !rv p)&&tq (decide (m.name=bB)) m.body
def aS:List UInt8:=[108,97,110,103,47,79,98,106,101,99,116]
def BM (m:Md):Bool:= !decide (m.fl=1)&& !decide (m.fl=1025)||decide (m.name=bB)
def Ek (d:Cd):Bool:=pZ d.fl 1537&&hasB d.fl 1024&&decide (d.super=aS)&&decide (d.fields.length+d.init.length=0)&& !(d.methods.any BM)
def qh (d:Cd):Bool:=if hasB d.fl 512=true then Ek d else pZ d.fl 1041&& !(hasB d.fl 16&&hasB d.fl 1024)
def ly (d:Cd):Bool:=iy d.name&&iy d.super&&decide (d.ifs.length<=8)
def oS (d:Cd):Bool:=decide (d.fields.length<=64)&&decide (d.methods.length<=64)
def iw (d:Cd):Bool:=qh d&&(ly d&& !(d.ifs.any fun s=> !iy s)&&oS d&& !(d.fields.any fun f=> !vw f)&& !(d.methods.any fun f=> !ke f)&&tq false d.init)
def zd (F:Int->Bool):List Value->Option (Prop×Value)
 |[.int .i64 c]=>some (True,.bool (F c))
 |_=>none
theorem Kp {P:Program} {f:FuncId} {F:Int->Bool} (h:∀c m,FnH P f [.v (.int .i64 c)] ⟨[],[]⟩ m fun r H' _=>r= .v (.bool (F c))/\H' =⟨[],[]⟩):vO P f (zd F):=fun aN y hy _ m=>by
 unfold zd at hy;split at hy
 ·cases hy;exact h _ m
 ·cases hy
def zc (F:Int->Int->Bool):List Value->Option (Prop×Value)
 |[.int .i64 c,.int .i64 d]=>some (True,.bool (F c d))
 |_=>none
theorem Ko {P:Program} {f:FuncId} {F:Int->Int->Bool} (h:∀c d m,FnH P f [.v (.int .i64 c),.v (.int .i64 d)] ⟨[],[]⟩ m fun r H' _=>r= .v (.bool (F c d))/\H' =⟨[],[]⟩):vO P f (zc F):=fun aN y hy _ m=>by
 unfold zc at hy;split at hy
 ·cases hy;exact h _ _ m
 ·cases hy
attribute [go_sem] zd zc
theorem PV (fl:Int) (m:Mem):FnH Tryz.prog 229 [.v (.int .i64 fl)] ⟨[],[]⟩ m fun r H' _=>r= .v (.bool (qm fl))/\H' =⟨[],[]⟩:=by
 refine br aq Tryz.func229 ?_
 ·simp only[go_sem];refine⟨fun a=>⟨fun _=>by simp [qm,a],fun n=>absurd a n⟩,fun a=>⟨fun b=>⟨fun _=>by simp [qm,b],fun n=>absurd b n⟩,fun b=>⟨fun c=>⟨fun _=>by simp [qm,c],fun n=>absurd c n⟩,fun c=>⟨fun d=>by simp [qm,d],fun d=>by simp [qm,a,b,c,d]⟩⟩⟩⟩
theorem Hk (fl al:Int) (m:Mem):FnH Tryz.prog 139 [.v (.int .i64 fl),.v (.int .i64 al)] ⟨[],[]⟩ m fun r H' _=>r= .v (.bool (pZ fl al))/\H' =⟨[],[]⟩:=by
 refine br aq Tryz.func139 ?_
 ·simp only[go_sem];rfl
abbrev uN:Cfg:=fF (fun _=>false) [(229,zd qm),(139,zc pZ),(113,jh BL fun s=> .bool (jL s)),(114,sB iK),(141,jh BL fun s=> .bool (iy s))]
theorem sA:cw uN Tryz.prog:=pure_cons (by kernel_rfl) (Kp PV) (pure_cons (by kernel_rfl) (Ko Hk) (pure_cons (by kernel_rfl) (km CS) (pure_cons (by kernel_rfl) (xT CK) (pure_cons (by kernel_rfl) (km Af) pure_nil))))
theorem Nc (fl:Int) (m:Mem):FnH Tryz.prog 230 [.v (.int .i64 fl)] ⟨[],[]⟩ m fun r H' _=>r= .v (.bool (rk fl))/\H' =⟨[],[]⟩:=by
 refine br sA Tryz.func230 ?_
 ·simp only[go_sem];refine⟨fun h=> ?_,fun h=>⟨fun g=> ?_,fun g=> ?_⟩⟩
  ·rcases h with h |h<;>simp [rk,h]
  ·simp [rk,hasB,g.1,g.2]
  ·rcases g with g |g<;>simp [rk,hasB,h.1,h.2,g]
theorem N0 (f:Fc) (m:Mem) (h:FcOk f):aI 143 [.v (.agg ⟨f.cs⟩)] m (.bool (vw f)):=by
 have h1:BL f.name:=dk h.name (by decide);have h2:BL f.ty.name:=dk h.ty.2.2 (by decide);refine enter uN sA Tryz.func143 rfl rfl (by kernel_rfl) rfl ?_ ?_
 ·simp only[go_sem,Fc.cs]
 ·simp only[go_sem,Fc.cs];exact⟨h2,fun _=>h1,rfl⟩
theorem PN (f:Fc) (m:Mem) (h:FcOk f):aI 142 [.v (.agg ⟨f.cs⟩)] m (.bool (!vw f)):=by
 have hF:=N0 f m h;refine enter uN sA Tryz.func142 rfl rfl (by kernel_rfl) rfl ?_ ?_
 ·simp only[go_sem,Fc.cs]
 ·simp only[go_sem,Fc.cs];refine ak ((aC hF (fun V=>rfl)).mono ?_);rintro r H' m2 aJ ⟨bD,rfl,rfl⟩;simp only[go_sem];exact bD
theorem PI (s:List UInt8) (m:Mem) (h:BL s):aI 140 [.v (.string (bs s))] m (.bool (!iy s)):=by
 refine br sA Tryz.func140 ?_
 ·simp only[go_sem];exact h
theorem PJ (f:Pc) (m:Mem) (h:PcOk f):aI 231 [.v (.agg ⟨f.cs⟩)] m (.bool (!rv f)):=by
 have h1:BL f.name:=dk h.name (by decide);have h2:BL f.ty.name:=dk h.ty.2.2 (by decide);refine enter uN sA Tryz.func231 rfl rfl (by kernel_rfl) rfl ?_ ?_
 ·simp only[go_sem,Pc.cs]
 ·simp only[go_sem,Pc.cs];exact⟨h2,fun _=>h1,by rw[rv,Bool.not_and]⟩
theorem PL (x:Mc) (m:Mem):aI 226 [.v (.agg ⟨x.cs⟩)] m (.bool (!decide (x.fl=1)&& !decide (x.fl=1025)||decide (x.name=bB))):=by
 refine enter uN sA Tryz.func226 rfl rfl (by kernel_rfl) rfl ?_ ?_
 ·simp only[go_sem,Mc.cs]
 ·simp only[go_sem,Mc.cs];rfl
theorem A7 {α:Type} {p:α->Bool} {l:List α} {n:Nat} (hn:n=l.length) {B:Nat->Bool} (h:∀i (hi:i<l.length),B i=p l[i]):ij n B=l.any p:=by
 subst hn;exact HU p l B h
def wP {α:Type} (p:α->Bool) (l:List α) (i:Nat):Bool:=match l[i]? with |some a=>p a |none=>false
theorem rF {α:Type} {p:α->Bool} {l:List α} {i:Nat} (h:i<l.length):wP p l i=p l[i]:=by simp only[wP,List.getElem?_eq_getElem h]
theorem QU {m:Mem} {d:Md} {cs:List Value} (h:gW m d cs):∃x:Mc,(cs=x.cs/\x.fl=d.fl/\x.res=d.res/\x.name=d.name/\x.hb=d.hb)/\(x.pl=d.params.length/\x.pl<=x.pc/\x.l=d.body.length/\x.l<=x.cp)/\MdOk d/\ax m x.pa x.pl 4 (flat Pc.cs d.params)/\∃xs,ax m x.a x.l 23 xs/\bG m d.body xs:=h
theorem Nf (d:Md) (cs:List Value) (m:Mem) (hg:Glob m) (h:gW m d cs):aI 145 [.v (.agg ⟨cs⟩)] m (.bool (ke d)):=by
 obtain⟨fl,res,name,params,hb,body⟩:=d;obtain⟨x,⟨rfl,rfl,rfl,rfl,rfl⟩,⟨gB,hpc,hl,bN⟩,ao,r1,xs,r2,s2⟩:=h;simp only at gB hl r1 s2;have h1:BL x.name:=dk ao.name (by decide);have h2:BL x.res.name:=dk ao.res.2.2 (by decide);have hP:∀m',ah m m' ->aI 232 [.v (.slice x.pa x.pl x.pc),.v (.func (.func 231) ⟨[]⟩ ⟨[]⟩)] m' (.bool (params.any fun p=> !rv p)):=fun m' hle=>by
  have:=X0 231 (wP (fun p=> !rv p) params) x.pa x.pl x.pc _ m' (aM hle r1) (by rw[gB];exact ao.pl) (by kernel_rfl) fun i hi=>⟨params[i]'(by omega),my (f:=Pc.cs) (sz:=4) (fun _=>rfl) (by omega),fun m2 _=>by
   rw[rF (by omega)];exact PJ _ m2 (ao.ps _ (List.getElem_mem _))⟩
  rw[A7 gB (p:=fun p=> !rv p) fun i hi=>rF hi] at this;exact this
 have hB:=fun m' (hle:ah m m')=>HS (decide (x.name=bB)) body x.a x.l x.cp xs m' (hg.upM hle) hl (aM hle r2) (cG hle s2) (by rw[hl];exact ao.l)
 clear s2;refine enter (fF (fun _=>false) [(230,zd rk),(139,zc pZ),(113,jh BL fun s=> .bool (jL s)),(114,sB iK)])
  (pure_cons (by kernel_rfl) (Kp Nc) (pure_cons (by kernel_rfl) (Ko Hk) (pure_cons (by kernel_rfl) (km CS) (pure_cons (by kernel_rfl) (xT CK) pure_nil)))) Tryz.func145 rfl rfl (by kernel_rfl) rfl ?_ ?_
 ·simp only[go_sem,Mc.cs]
 ·simp only[go_sem,Mc.cs,dC];have e1:∀(d:Md),nR d=true->o8 d=true->ke d=(!(d.params.any fun p=> !rv p)&&tq (decide (d.name=bB)) d.body):=fun d a b=>by rw[ke,a,b];rfl
  have g0:∀(d:Md),((rk d.fl=false\/(d.hb== !decide (bits .and .i64 d.fl 1024=0))=true)\/d.hb=false/\0<d.body.length)\/16<d.params.length->false=ke d:=fun d g=>by
   have:o8 d=false:=by
    rcases g with ((g |g) |g) |g
    ·simp [o8,g]
    ·simp only[o8,hasB,g,Bool.not_true,Bool.and_false,Bool.false_and]
    ·simp only[o8,g.1,Bool.false_or,ab (by omega:¬d.body.length=0),Bool.and_false,Bool.false_and]
    ·simp only[o8,ab (by omega:¬d.params.length<=16),Bool.and_false]
   rw[ke,this,Bool.and_false];rfl
  have g1:∀(d:Md),((rk d.fl=true/\(d.hb== !decide (bits .and .i64 d.fl 1024=0))=false)/\(d.hb=true\/¬0<d.body.length))/\¬16<d.params.length->o8 d=true:=fun d g=>by
   simp only[o8,hasB,g.1.1.1,g.1.1.2,aP (by omega:d.params.length<=16),Bool.not_false,Bool.and_true,Bool.true_and];rcases g.1.2 with h |h
   ·rw[h];rfl
   ·rw[aP (by omega:d.body.length=0),Bool.or_true]
  have FT:=g0 ⟨x.fl,x.res,x.name,params,x.hb,body⟩;have FR:=g1 ⟨x.fl,x.res,x.name,params,x.hb,body⟩;have FW:=e1 ⟨x.fl,x.res,x.name,params,x.hb,body⟩;clear g0 g1 e1;simp only at FT FR FW;have gx:∀{A B:Prop},(A\/B/\0<(x.l:Int))\/16<(x.pl:Int)->(A\/B/\0<body.length)\/16<params.length:=fun g=>by
   clear hP hB;rcases g with (g |g) |g
   ·exact .inl (.inl g)
   ·exact .inl (.inr ⟨g.1,by omega⟩)
   ·exact .inr (by omega)
  have gy:∀{A B:Prop},(A/\(B\/¬0<(x.l:Int)))/\¬16<(x.pl:Int)->(A/\(B\/¬0<body.length))/\¬16<params.length:=fun g=>by
   clear hP hB;refine⟨⟨g.1.1,?_⟩,by omega⟩;rcases g.1.2 with h |h
   ·exact .inl h
   ·exact .inr (by omega)
  refine⟨fun hn=>⟨fun c=> ?_,fun c=>⟨by kernel_rfl,fun g=>FT (gx g),fun g=>ak ((hP m (.inl rfl)).mono ?_)⟩⟩,
   fun hn=>⟨h1,fun _=>h2,fun c=> ?_,fun c=>⟨by kernel_rfl,fun g=>FT (gx g),fun g=>ak ((hP m (.inl rfl)).mono ?_)⟩⟩⟩
  ·clear hP hB;have:nR ⟨x.fl,x.res,x.name,params,x.hb,body⟩=false:=by
    simp only[nR,rq];rw[ai (show x.name=bB from hn)];rcases c with ((c |c |c) |c) |c<;>simp [c]
   rw[ke,this];rfl
  ·have g2:=FR (gy g);have hh:nR ⟨x.fl,x.res,x.name,params,x.hb,body⟩=true:=by
    clear hP hB;simp only[nR,rq];rw[ai (show x.name=bB from hn)];simp [c.1.1.1,c.1.1.2.1,c.1.1.2.2,c.1.2,c.2]
   have e2:=FW hh g2;clear hP;rintro r H' m2 aJ ⟨bD,rfl,rfl⟩;simp only[go_sem,Mc.cs];refine⟨fun b1=>ak ((hB m2 bD).mono ?_),fun b1=> ?_⟩
   ·clear hB;rintro r H' m3 dx ⟨tQ,rfl,rfl⟩;simp only[go_sem,Mc.cs];refine⟨ae bD tQ,?_⟩;rw[e2,b1];rfl
   ·refine⟨bD,?_⟩;rw[e2,b1];rfl
  ·clear hP hB;have:nR ⟨x.fl,x.res,x.name,params,x.hb,body⟩=false:=by
    simp only[nR,rq];rw[aa (show ¬x.name=bB from hn)];rcases c with c |c
    ·simp [c]
    ·rw[c.2];rcases c.1 with c |c |c<;>simp [c]
   rw[ke,this];rfl
  ·have g2:=FR (gy g);have hh:nR ⟨x.fl,x.res,x.name,params,x.hb,body⟩=true:=by
    clear hP hB;simp only[nR,rq];rw[aa (show ¬x.name=bB from hn),c.1];rcases c.2 with c |c<;>simp [c]
   have e2:=FW hh g2;clear hP;rintro r H' m2 aJ ⟨bD,rfl,rfl⟩;simp only[go_sem,Mc.cs];refine⟨fun b1=>ak ((hB m2 bD).mono ?_),fun b1=> ?_⟩
   ·clear hB;rintro r H' m3 dx ⟨tQ,rfl,rfl⟩;simp only[go_sem,Mc.cs];refine⟨ae bD tQ,?_⟩;rw[e2,b1];rfl
   ·refine⟨bD,?_⟩;rw[e2,b1];rfl
theorem PK (d:Md) (cs:List Value) (m:Mem) (hg:Glob m) (h:gW m d cs):aI 144 [.v (.agg ⟨cs⟩)] m (.bool (!ke d)):=by
 have hM:=Nf d cs m hg h;obtain⟨x,rfl⟩:=IH h;refine enter bj aq Tryz.func144 rfl rfl (by kernel_rfl) rfl ?_ ?_
 ·simp only[go_sem,Mc.cs]
 ·simp only[go_sem,Mc.cs];refine ak ((aC hM (fun V=>rfl)).mono ?_);rintro r H' m2 aJ ⟨bD,rfl,rfl⟩;simp only[go_sem];exact bD
theorem Us (d:Md) (cs:List Value) (m m' :Mem) (h:gW m d cs):aI 226 [.v (.agg ⟨cs⟩)] m' (.bool (BM d)):=by
 obtain⟨x,⟨rfl,h1,h2,h3,h4⟩,_⟩:=h;have:=PL x m';rw[h1,h3] at this;exact this
theorem MA (f:FuncId) (p:Md->Bool) (l:List Md) (a:Option Addr) (n c:Nat) (xs:List Value) (m:Mem) (hl:n=l.length) (hr:ax m a n 8 xs) (hs:eu (gW m) 8 l xs) (hn:n<=aw) (ao:de Tryz.prog f=true)
  (hf:∀d∈l,∀cs m',ah m m' ->gW m' d cs->aI f [.v (.agg ⟨cs⟩)] m' (.bool (p d))):
  aI 148 [.v (.slice a n c),.v (.func (.func f) ⟨[]⟩ ⟨[]⟩)] m (.bool (l.any p)):=by
 have:=X1 f (wP p l) a n c xs m hr hn ao fun i hi=>by
  have dp:i<l.length:=by omega
  have bU:=qd hs dp;obtain⟨X,hX⟩:=IH bU;rw[hX] at bU;refine⟨X,hX,fun m' hle=> ?_⟩;rw[rF dp];exact hf _ (List.getElem_mem dp) _ m' hle (lg hle bU)
 rw[A7 hl (p:=p) fun i hi=>rF hi] at this;exact this
theorem ctF (f:FuncId) (p:Fc->Bool) (l:List Fc) (a:Option Addr) (n c:Nat) (m:Mem) (hl:n=l.length) (hr:ax m a n 5 (flat Fc.cs l)) (hn:n<=aw) (ao:de Tryz.prog f=true)
  (hf:∀d∈l,∀m',ah m m' ->aI f [.v (.agg ⟨d.cs⟩)] m' (.bool (p d))):
  aI 147 [.v (.slice a n c),.v (.func (.func f) ⟨[]⟩ ⟨[]⟩)] m (.bool (l.any p)):=by
 have:=X2 f (wP p l) a n c _ m hr hn ao fun i hi=>by
  have dp:i<l.length:=by omega
  refine⟨l[i],my (f:=Fc.cs) (sz:=5) (fun _=>rfl) dp,fun m' hle=> ?_⟩;rw[rF dp];exact hf _ (List.getElem_mem dp) m' hle
 rw[A7 hl (p:=p) fun i hi=>rF hi] at this;exact this
theorem ctS (f:FuncId) (p:List UInt8->Bool) (l:List (List UInt8)) (a:Option Addr) (n c:Nat) (m:Mem) (hl:n=l.length) (hr:ax m a n 1 (strs l)) (hn:n<=aw) (ao:de Tryz.prog f=true)
  (hf:∀d∈l,∀m',ah m m' ->aI f [.v (.string (bs d))] m' (.bool (p d))):
  aI 146 [.v (.slice a n c),.v (.func (.func f) ⟨[]⟩ ⟨[]⟩)] m (.bool (l.any p)):=by
 have:=ZV f (wP p l) a n c _ m hr hn ao fun i hi=>by
  have dp:i<l.length:=by omega
  refine⟨l[i],?_,fun m' hle=> ?_⟩
  ·rw[strs,List.getElem?_map,List.getElem?_eq_getElem dp];rfl
  ·rw[rF dp];exact hf _ (List.getElem_mem dp) m' hle
 rw[A7 hl (p:=p) fun i hi=>rF hi] at this;exact this
theorem NY (d:Cd) (cs:List Value) (m:Mem) (h:gY m d cs):aI 138 [.v (.agg ⟨cs⟩)] m (.bool (Ek d)):=by
 obtain⟨fl,name,super,ifs,fields,methods,init⟩:=d;obtain⟨x,⟨rfl,rfl,rfl,rfl⟩,⟨dp,uC,ep,hfc,dR,hmc,eH,hsc⟩,ao,r1,r2,xs,ys,r3,s3,r4,s4⟩:=h;simp only at dp ep dR eH r1 r2 s3 s4;have hM:=MA 226 BM methods x.ma x.ml x.mc xs m dR r3 s3 (by rw[dR];exact ao.ml) (by kernel_rfl) fun d _ cs m' hle bU=>Us d cs m' m' bU
 have b1:=ao.fn;have b2:=ao.l;clear s3 s4;refine enter uN sA Tryz.func138 rfl rfl (by kernel_rfl) rfl ?_ ?_
 ·simp only[go_sem,Cc.cs]
 ·simp only[go_sem,Cc.cs];have e0:Ek ⟨x.fl,x.name,x.super,ifs,fields,methods,init⟩=(pZ x.fl 1537&&hasB x.fl 1024&&decide (x.super=aS)&&decide (fields.length+init.length=0)&& !(methods.any BM)):=rfl;simp only at b1 b2;refine⟨fun _=>by clear hM;unfold aB;simp only[aw] at b1 b2;omega,fun c=>ak (hM.mono ?_),fun c=> ?_⟩
  ·have g:fields.length+init.length=0:=by clear hM;omega
   clear hM;rintro r H' m2 aJ ⟨bD,rfl,rfl⟩;simp only[go_sem,Cc.cs];refine⟨bD,?_⟩;rw[e0,c.1.1.1,hasB,ab c.1.1.2,aP (show x.super=aS from c.1.2),aP g];rfl
  ·clear hM;rw[e0];rcases c with ((c |c) |c) |c
   ·simp [c]
   ·simp [hasB,c]
   ·rw[ab (show ¬x.super=aS from c)];simp
   ·rw[ab (by omega:¬fields.length+init.length=0)];simp
theorem Nn (d:Cd) (cs:List Value) (m:Mem) (hg:Glob m) (h:gY m d cs):aI 61 [.v (.agg ⟨cs⟩)] m (.bool (iw d)):=by
 have hI:=NY d cs m h;obtain⟨fl,name,super,ifs,fields,methods,init⟩:=d;obtain⟨x,⟨rfl,rfl,rfl,rfl⟩,⟨dp,uC,ep,hfc,dR,hmc,eH,hsc⟩,ao,r1,r2,xs,ys,r3,s3,r4,s4⟩:=h;simp only at dp ep dR eH r1 r2 s3 s4;have hM:=fun m' (hle:ah m m')=>MA 144 (fun d=> !ke d) methods x.ma x.ml x.mc xs m' dR (aM hle r3) (iT (fun _ _=>lg hle) s3) (by rw[dR];exact ao.ml) (by kernel_rfl) fun d _ cs m2 bD bU=>PK d cs m2 (hg.upM (ae hle bD)) bU
 have hF:=fun m' (hle:ah m m')=>ctF 142 (fun d=> !vw d) fields x.fa x.fn x.fc m' ep (aM hle r2) (by rw[ep];exact ao.fn) (by kernel_rfl) fun d hd m2 bD=>PN d m2 (ao.fs d hd)
 have hS:=fun m' (hle:ah m m')=>ctS 140 (fun d=> !iy d) ifs x.ia x.il x.ic m' dp (aM hle r1) (by rw[dp];exact ao.il) (by kernel_rfl) fun d hd m2 bD=>PI d m2 (dk (ao.ifs d hd) (by decide))
 have hB:=fun m' (hle:ah m m')=>HS false init x.sa x.sl x.sc ys m' (hg.upM hle) eH (aM hle r4) (cG hle s4) (by rw[eH];exact ao.l)
 have h1:BL x.name:=dk ao.name (by decide);have h2:BL x.super:=dk ao.super (by decide);clear s3 s4;refine enter uN sA Tryz.func61 rfl rfl (by kernel_rfl) rfl ?_ ?_
 ·simp only[go_sem,Cc.cs]
 ·simp only[go_sem,Cc.cs];have e0:qh ⟨x.fl,x.name,x.super,ifs,fields,methods,init⟩=true->iw ⟨x.fl,x.name,x.super,ifs,fields,methods,init⟩=(ly ⟨x.fl,x.name,x.super,ifs,fields,methods,init⟩&& !(ifs.any fun s=> !iy s)&&oS ⟨x.fl,x.name,x.super,ifs,fields,methods,init⟩&& !(fields.any fun f=> !vw f)&& !(methods.any fun f=> !ke f)&&tq false init):=fun h=>by rw[iw,h];rfl
  refine⟨fun b=>ak ((aC hI (fun V=>rfl)).mono ?_),fun b=>⟨fun c=> ?_,fun c=> ?_⟩⟩
  ·clear hI;rintro r H' m1 aQ ⟨l1,rfl,rfl⟩;simp only[go_sem,Cc.cs];have g:hasB x.fl 512=true:=by rw[hasB,ab b];rfl
   refine⟨fun c=> ?_,fun c=> ?_⟩
   ·refine⟨l1,?_⟩;rw[iw,qh,ai g,c];rfl
   ·have hH:qh ⟨x.fl,x.name,x.super,ifs,fields,methods,init⟩=true:=by rw[qh,ai g,c]
    refine⟨h1,fun _=>h2,fun c=>ak ((hS m1 l1).mono ?_),fun c=> ?_⟩
    ·clear hS;rintro r H' n1 fv ⟨k1,rfl,rfl⟩;simp only[go_sem,Cc.cs];have hN:ly ⟨x.fl,x.name,x.super,ifs,fields,methods,init⟩=true:=by clear hF hM hB;simp only[ly,c.1.1,c.1.2,aP (by omega:ifs.length<=8)];rfl
     refine⟨fun d=>ak ((hF n1 (ae l1 k1)).mono ?_),fun d=> ?_⟩
     ·clear hF;rintro r H' n2 B8 ⟨k2,rfl,rfl⟩;simp only[go_sem,Cc.cs];have hL:oS ⟨x.fl,x.name,x.super,ifs,fields,methods,init⟩=true:=by clear hM hB;simp only[oS,aP (by omega:fields.length<=64),aP (by omega:methods.length<=64)];rfl
      refine⟨fun e=>ak ((hM n2 (ae (ae l1 k1) k2)).mono ?_),fun e=> ?_⟩
      ·clear hM;rintro r H' n3 Mj ⟨k3,rfl,rfl⟩;simp only[go_sem,Cc.cs];refine⟨fun f=>ak ((hB n3 (ae (ae (ae l1 k1) k2) k3)).mono ?_),fun f=> ?_⟩
       ·clear hB;rintro r H' n4 Mi ⟨k4,rfl,rfl⟩;simp only[go_sem,Cc.cs];refine⟨ae (ae (ae (ae l1 k1) k2) k3) k4,?_⟩;rw[e0 hH,hN,d.1.1,hL,e,f];rfl
       ·refine⟨ae (ae (ae l1 k1) k2) k3,?_⟩;rw[e0 hH,f];simp
      ·refine⟨ae (ae l1 k1) k2,?_⟩;rw[e0 hH,e];simp
     ·refine⟨ae l1 k1,?_⟩;clear hF hM hB;rw[e0 hH];rcases d with (d |d) |d
      ·rw[d];simp
      ·simp only[oS,ab (by omega:¬fields.length<=64),Bool.false_and,Bool.and_false]
      ·simp only[oS,ab (by omega:¬methods.length<=64),Bool.false_and,Bool.and_false]
    ·clear hS hF hM hB;refine⟨l1,?_⟩;rw[e0 hH];rcases c with (c |c) |c
     ·simp only[ly,c,Bool.false_and]
     ·simp only[ly,c,Bool.false_and,Bool.and_false]
     ·simp only[ly,ab (by omega:¬ifs.length<=8),Bool.false_and,Bool.and_false]
  ·clear hI hM hF hS hB;have g:¬hasB x.fl 512=true:=by rw[hasB,aP b];decide
   have:qh ⟨x.fl,x.name,x.super,ifs,fields,methods,init⟩=false:=by
    rw[qh,aa g];rcases c with c |c
    ·simp [c]
    ·simp [hasB,c]
   rw[iw,this];rfl
  ·clear hI;have g:¬hasB x.fl 512=true:=by rw[hasB,aP b];decide
   have hH:qh ⟨x.fl,x.name,x.super,ifs,fields,methods,init⟩=true:=by
    clear hM hF hS hB;rw[qh,aa g];rcases c with ⟨c1,c |c⟩<;>simp [hasB,c1,c]
   clear c;refine⟨h1,fun _=>h2,fun c=>ak ((hS m (.inl rfl:ah m m)).mono ?_),fun c=> ?_⟩
   ·clear hS;rintro r H' n1 fv ⟨k1,rfl,rfl⟩;simp only[go_sem,Cc.cs];have hN:ly ⟨x.fl,x.name,x.super,ifs,fields,methods,init⟩=true:=by clear hF hM hB;simp only[ly,c.1.1,c.1.2,aP (by omega:ifs.length<=8)];rfl
    refine⟨fun d=>ak ((hF n1 (ae (.inl rfl:ah m m) k1)).mono ?_),fun d=> ?_⟩
    ·clear hF;rintro r H' n2 B8 ⟨k2,rfl,rfl⟩;simp only[go_sem,Cc.cs];have hL:oS ⟨x.fl,x.name,x.super,ifs,fields,methods,init⟩=true:=by clear hM hB;simp only[oS,aP (by omega:fields.length<=64),aP (by omega:methods.length<=64)];rfl
     refine⟨fun e=>ak ((hM n2 (ae (ae (.inl rfl:ah m m) k1) k2)).mono ?_),fun e=> ?_⟩
     ·clear hM;rintro r H' n3 Mj ⟨k3,rfl,rfl⟩;simp only[go_sem,Cc.cs];refine⟨fun f=>ak ((hB n3 (ae (ae (ae (.inl rfl:ah m m) k1) k2) k3)).mono ?_),fun f=> ?_⟩
      ·clear hB;rintro r H' n4 Mi ⟨k4,rfl,rfl⟩;simp only[go_sem,Cc.cs];refine⟨ae (ae (ae (ae (.inl rfl:ah m m) k1) k2) k3) k4,?_⟩;rw[e0 hH,hN,d.1.1,hL,e,f];rfl
      ·refine⟨ae (ae (ae (.inl rfl:ah m m) k1) k2) k3,?_⟩;rw[e0 hH,f];simp
     ·refine⟨ae (ae (.inl rfl:ah m m) k1) k2,?_⟩;rw[e0 hH,e];simp
    ·refine⟨ae (.inl rfl:ah m m) k1,?_⟩;clear hF hM hB;rw[e0 hH];rcases d with (d |d) |d
     ·rw[d];simp
     ·simp only[oS,ab (by omega:¬fields.length<=64),Bool.false_and,Bool.and_false]
     ·simp only[oS,ab (by omega:¬methods.length<=64),Bool.false_and,Bool.and_false]
   ·clear hS hF hM hB;rw[e0 hH];rcases c with (c |c) |c
    ·simp only[ly,c,Bool.false_and]
    ·simp only[ly,c,Bool.false_and,Bool.and_false]
    ·simp only[ly,ab (by omega:¬ifs.length<=8),Bool.false_and,Bool.and_false]
def yu:Ex->Nat | .mk _ _ _ _ _ args=>iP args
mutual
def nY:St->Nat
 | .mk k _ _ tg ex body alt=>max (max (cT body) (cT alt)) (max (eL tg) (if k=11 then yu ex else eL ex))
def cT:List St->Nat
 |[]=>0
 |e::r=>max (nY e) (cT r)
end
theorem Ga:∀{l:List St} {k:Nat} (hk:k<l.length),b9 (l.take (k+1))=max (b9 (l.take k)) (fN l[k])
 |[],_,hk=>absurd hk (Nat.not_lt_zero _)
 |e::r,0,_=>by simp [b9]
 |e::r,k+1,hk=>by
  have:=Ga (l:=r) (k:=k) (by simpa using hk);simp only[List.take_succ_cons,b9,this,List.getElem_cons_succ,Nat.max_assoc]
theorem Gr:∀{l:List St} {k:Nat} (hk:k<l.length),cT (l.take (k+1))=max (cT (l.take k)) (nY l[k])
 |[],_,hk=>absurd hk (Nat.not_lt_zero _)
 |e::r,0,_=>by simp [cT]
 |e::r,k+1,hk=>by
  have:=Gr (l:=r) (k:=k) (by simpa using hk);simp only[List.take_succ_cons,cT,this,List.getElem_cons_succ,Nat.max_assoc]
theorem CV:∀(l:List St) (k:Nat),b9 (l.take k)<=b9 l
 |[],k=>by simp
 |e::r,0=>by simp [b9]
 |e::r,k+1=>by
  have:=CV r k;simp only[List.take_succ_cons,b9];omega
theorem Dd:∀(l:List St) (k:Nat),cT (l.take k)<=cT l
 |[],k=>by simp
 |e::r,0=>by simp [cT]
 |e::r,k+1=>by
  have:=Dd r k;simp only[List.take_succ_cons,cT];omega
theorem GY:∀{l:List St} {e:St},e∈l->nY e<=cT l
 |[],e,he=>by cases he
 |x::r,e,he=>by
  simp only[cT];rcases List.mem_cons.1 he with rfl |he
  ·omega
  ·have:=GY he;omega
def yV (args:List SV) (m:Mem) (v1 v2:Nat):Prop:=FnH Tryz.prog 149 args ⟨[],[]⟩ m fun r H' m' =>ah m m' /\H' =⟨[],[]⟩/\r= .tup [.v (.int .i64 v1),.v (.int .i64 v2)]
structure DepN where
 b1:Nat
 b2:Nat
 a1:Nat
 a2:Nat
 t:Nat
 x:Nat
 dl:Nat->Nat
structure DepIt (X:Sd) (N:DepN) (mm:Mem):Prop where
 body:∀m',ah mm m' ->yV [.v (.slice X.a X.l X.cp)] m' N.b1 N.b2
 alt:∀m',ah mm m' ->yV [.v (.slice X.b X.l2 X.cp2)] m' N.a1 N.a2
 tg:∀m',ah mm m' ->aI 236 [.v (.agg ⟨X.tg.cs⟩)] m' (.int .i64 N.t)
 ex:¬X.k=11->∀m',ah mm m' ->aI 236 [.v (.agg ⟨X.ex.cs⟩)] m' (.int .i64 N.x)
 arg:X.k=11->∀m',ah mm m' ->∀j,j<X.ex.l->∃(Y:Nd) (d:Nat),(Rd m' (bc X.ex.a (j * 8)) Y.cs/\X.ex.a≠none)/\aI 236 [.v (.agg ⟨Y.cs⟩)] m' (.int .i64 d)/\N.dl (j+1)=max (N.dl j) d
 dl0:N.dl 0=0
 ln:X.ex.l<=aw
theorem Wt {h:Nat} (ih:∀h',h' <h->∀(l:List St) (a:Option Addr) (n c:Nat) (xs:List Value) (m:Mem),b9 l<=h' ->h' <=aw->cT l<=aw->n=l.length->n<=aw->ax m a n 23 xs->bG m l xs->yV [.v (.slice a n c)] m (b9 l) (cT l))
  {e:St} {cs:List Value} {mm:Mem} (hd:fN e<=h) (hb:h<=aw) (hx:nY e<=aw) (bU:eg mm e cs):
  ∃(X:Sd) (N:DepN),cs=X.cs/\DepIt X N mm/\fN e=max N.b1 N.a1+1/\nY e=max (max N.b2 N.a2) (max N.t (if X.k=11 then N.dl X.ex.l else N.x)):=by
 cases e with
 |mk k nm ty tg ex body alt=>
  obtain⟨X,rfl,rfl,rfl,rfl,cP,hex,hl,bN,cg,dd,ao,xs,ys,r1,r2,s1,s2⟩:=u7 bU;simp only[fN] at hd;simp only[nY] at hx;cases ex with
  |mk xk xn xss xc xty args=>
   obtain⟨y,hy,h1,h2,h3,h4,h5,h6,h7,h8,zs,r3,s3⟩:=rh hex;have hy:=A0 hy;subst hy;refine⟨X,⟨b9 body,cT body,b9 alt,cT alt,eL tg,eL (.mk xk xn xss xc xty args),fun j=>iP (args.take j)⟩,rfl,⟨fun m' hle=> ?_,fun m' hle=> ?_,fun m' hle=> ?_,fun hk m' hle=> ?_,fun hk m' hle j hj=> ?_,by simp [iP],h8⟩,by simp only[fN],?_⟩
   ·exact ih (b9 body) (by omega) body X.a X.l X.cp xs m' (aA _) (by omega) (by omega) hl (by rw[hl];exact ao.l) (aM hle r1) (cG hle s1)
   ·exact ih (b9 alt) (by omega) alt X.b X.l2 X.cp2 ys m' (aA _) (by omega) (by omega) cg (by rw[cg];exact ao.l2) (aM hle r2) (cG hle s2)
   ·exact Aq _ tg _ m' (aA _) (by omega) (bV hle cP)
   ·rw[aa hk] at hx;exact Aq _ _ _ m' (aA _) (by omega) (bV hle hex)
   ·rw[ai hk] at hx;simp only[yu] at hx;have FA:j<args.length:=by omega
    have Ez:=bV hle (tk s3 FA);obtain⟨Y,hY⟩:=ri Ez;have cR:=dK (aM hle r3) hj;rw[hY] at cR Ez;exact⟨Y,eL args[j],cR,Aq _ _ _ m' (aA _) (by have:=Ap FA;omega) Ez,CT FA⟩
   ·simp only[nY,yu];rw[jI (by omega:args.length<=X.ex.l)]
theorem G0:∀(h:Nat) (l:List St) (a:Option Addr) (n c:Nat) (xs:List Value) (m:Mem),b9 l<=h->h<=aw->cT l<=aw->n=l.length->n<=aw->ax m a n 23 xs->bG m l xs->yV [.v (.slice a n c)] m (b9 l) (cT l):=by
 intro h;induction h using Nat.strongRecOn with
 |ind h ih=>
  intro l a n c xs m hd hb hx hl hn hr hs;refine br aq Tryz.func149 ?_
  ·simp only[go_sem];refine gz aq (fun x:Nat×Int×Int×Mem=>⟨[⟨4,[],.v (.int .i64 x.2.1)⟩,⟨5,[],.v (.int .i64 x.2.2.1)⟩,⟨14,[],.v (.slice a n c)⟩,⟨15,[],.v (.int .i64 n)⟩,⟨16,[],.v (.int .i64 x.1)⟩],[],[],[],0,x.2.2.2⟩)
    (fun x=>ah m x.2.2.2/\x.1<=n/\x.2.1=b9 (l.take x.1)/\x.2.2.1=cT (l.take x.1)) (fun x=>n - x.1) (0,0,0,m) (fun _ _=>aA _) (fun x hx=>hx.1) ?_ ?_ ?_
   ·simp only[go_sem];rfl
   ·exact⟨.inl rfl,aF _,by simp [b9],by simp [cT]⟩
   ·rintro⟨k,s,e,mm⟩ ⟨h1,h2,h3,h4⟩;simp only at h1 h2 h3 h4;have hy:∀(hk:k<l.length),∃(X:Sd) (N:DepN),(Rd mm (bc a (k * 23)) X.cs/\a≠none)/\DepIt X N mm/\fN l[k]=max N.b1 N.a1+1/\nY l[k]=max (max N.b2 N.a2) (max N.t (if X.k=11 then N.dl X.ex.l else N.x)):=fun hk=>by
     have bU:=xb h1 (ru hs hk);have q1:=qY (List.getElem_mem hk);have q2:=GY (List.getElem_mem hk);obtain⟨X,N,hX,hD,e1,e2⟩:=Wt ih (by omega) hb (by omega) bU;have cR:=dK (aM h1 hr) (by omega:k<n);rw[hX] at cR;exact⟨X,N,cR,hD,e1,e2⟩
    have hq1:=CV l k;have Me:=Dd l k;have uq:∀(hk:k<l.length),b9 (l.take (k+1))=max (b9 (l.take k)) (fN l[k])/\b9 (l.take (k+1))<=b9 l:=fun hk=>⟨Ga hk,CV l _⟩
    have uo:∀(hk:k<l.length),cT (l.take (k+1))=max (cT (l.take k)) (nY l[k])/\cT (l.take (k+1))<=cT l:=fun hk=>⟨Gr hk,Dd l _⟩
    clear ih;simp only[go_sem];refine⟨fun an=> ?_,fun fZ=> ?_⟩
    ·have hk:k<l.length:=by clear hy;omega
     have g3:=uq hk;have g4:=uo hk;refine Exists.elim (hy hk) fun X bH=>Exists.elim bH fun N fq=>⟨⟨by clear hy bH fq;omega,an,fq.1.2⟩,X.cs,⟨fq.1.1,rfl⟩,?_⟩
     clear hy bH;have hD:=fq.2.1;have e1:=fq.2.2.1;have e2:=fq.2.2.2;rw[e1] at g3;rw[e2] at g4;clear fq e1 e2;simp only[go_sem,Sd.cs,Nd.cs];refine ak ((hD.body mm (.inl rfl)).mono ?_);rintro r H' n1 fv ⟨k1,rfl,rfl⟩;simp only[go_sem,Sd.cs,Nd.cs];refine ak ((hD.alt n1 k1).mono ?_);rintro r H' n2 B8 ⟨k2,rfl,rfl⟩;have LY:=ae k1 k2;simp only[go_sem,Sd.cs,Nd.cs];refine⟨by clear hD;unfold aB;simp only[aw] at hb;split<;>omega,by kernel_rfl,bF ((aC (hD.tg n2 LY) (fun V=>rfl)).mono ?_)⟩;rintro r H' n3 Mj ⟨k3,rfl,rfl⟩;have BW:=ae LY k3;simp only[go_sem,Sd.cs,Nd.cs];have hS:(if s<1+(if(N.b1:Int)<N.a1 then(N.a1:Int) else N.b1) then 1+(if(N.b1:Int)<N.a1 then(N.a1:Int) else N.b1) else s)=((b9 (l.take (k+1)):Nat):Int):=by
      clear hD uq uo;rw[g3.1,h3];split<;>split<;>omega
     have wL:mx (mx (mx e N.b2) N.a2) N.t=((max (max (max (cT (l.take k)) N.b2) N.a2) N.t:Nat):Int):=by
      clear hD uq uo hS;simp only[mx,h4]
      (repeat' split)<;>omega
     refine Exists.elim (Exists.intro (max (max (max (cT (l.take k)) N.b2) N.a2) N.t) rfl:∃B0:Nat,max (max (max (cT (l.take k)) N.b2) N.a2) N.t=B0) fun B0 hB=> ?_
     rw[hB] at wL;refine⟨fun yN=> ?_,fun yN=> ?_⟩
     ·refine ak ((aC (hD.ex yN n3 BW) (fun V=>rfl)).mono ?_);clear hD;rintro r H' n4 Mi ⟨k4,rfl,rfl⟩;simp only[go_sem,Sd.cs,Nd.cs];rw[aa yN] at g4;refine⟨by unfold aB;simp only[aw] at hn;omega,(k+1,((b9 (l.take (k+1)):Nat):Int),((cT (l.take (k+1)):Nat):Int),n4),⟨⟨hS,?_,by simp⟩,.inl rfl⟩,⟨ae h1 (ae BW k4),by simp only;omega,rfl,rfl⟩,by simp only;omega⟩;simp only;rw[wL,g4.1];clear hS wL uq uo g3 h3 h4;split<;>omega
     ·rw[ai yN] at g4;refine gz aq (fun x' :Nat×Int×Mem=>⟨[⟨4,[],.v (.int .i64 (b9 (l.take (k+1)):Nat))⟩,⟨5,[],.v (.int .i64 x'.2.1)⟩,⟨14,[],.v (.slice a n c)⟩,⟨15,[],.v (.int .i64 n)⟩,⟨16,[],.v (.int .i64 k)⟩,⟨55,[],.v (.slice X.ex.a X.ex.l X.ex.cp)⟩,⟨56,[],.v (.int .i64 X.ex.l)⟩,⟨57,[],.v (.int .i64 x'.1)⟩],[],[],[],1,x'.2.2⟩)
       (fun x' =>ah n3 x'.2.2/\x'.1<=X.ex.l/\x'.2.1=((max B0 (N.dl x'.1):Nat):Int)) (fun x' =>X.ex.l - x'.1) (0,(B0:Int),n3) (fun _ _=>aA _) (fun x hx=>hx.1) ?_ ?_ ?_
      ·simp only[go_sem];exact⟨hS,wL,rfl⟩
      ·exact⟨.inl rfl,aF _,by rw[hD.dl0,Nat.max_zero]⟩
      ·rintro⟨j,e',mj⟩ ⟨q1,q2,q3⟩;simp only at q1 q2 q3;have hz:=hD.arg yN mj (ae BW q1) j;have sJ:=hD.ln;clear hD;simp only[go_sem];refine⟨fun ES=> ?_,fun aca=> ?_⟩
       ·refine Exists.elim (hz (by clear hz;omega)) fun Y Fi=>Exists.elim Fi fun dj wA=>⟨⟨by clear hz Fi wA;omega,ES,wA.1.2⟩,Y.cs,⟨wA.1.1,rfl⟩,?_⟩
        clear hz Fi;have Ch:=wA.2.1;have hdj:=wA.2.2;clear wA;simp only[go_sem,Nd.cs];refine ak ((aC Ch (fun V=>rfl)).mono ?_);clear Ch;rintro r H' n5 hn5 ⟨k5,rfl,rfl⟩;simp only[go_sem];refine⟨by unfold aB;simp only[aw] at sJ;omega,(j+1,((max B0 (N.dl (j+1)):Nat):Int),n5),⟨⟨?_,by simp⟩,.inl rfl⟩,⟨ae q1 k5,by simp only;omega,by simp only[Nat.max_def]⟩,by simp only;omega⟩;simp only;rw[hdj,q3];clear hS wL uq uo g3 g4 h3 h4 hB
        (repeat' split)<;>omega
       ·clear hz;have hj:j=X.ex.l:=by omega
        refine⟨by unfold aB;simp only[aw] at hn;omega,(k+1,((b9 (l.take (k+1)):Nat):Int),((cT (l.take (k+1)):Nat):Int),mj),⟨⟨rfl,?_,by simp⟩,.inl rfl⟩,⟨ae h1 (ae BW q1),by simp only;omega,rfl,rfl⟩,by simp only;omega⟩;simp only;rw[q3,g4.1,hj];clear hS wL uq uo g3 h3 h4
        (repeat' split)<;>omega
    ·clear hy uq uo;have:l.take k=l:=jI (by omega);rw[this] at h3 h4;rw[h3,h4];exact⟨h1,rfl⟩
def ig:List Md->Nat
 |[]=>0
 |e::r=>max (b9 e.body) (ig r)
def iY:List Md->Nat
 |[]=>0
 |e::r=>max (cT e.body) (iY r)
def nZ (d:Cd):Bool:=decide (24<max (b9 d.init) (ig d.methods))||decide (24<max (cT d.init) (iY d.methods))
structure CdB (d:Cd):Prop where
 s:b9 d.init<=aw
 e:cT d.init<=aw
 ms:ig d.methods<=aw
 me:iY d.methods<=aw
theorem Hs:∀{l:List Md} {k:Nat} (hk:k<l.length),ig (l.take (k+1))=max (ig (l.take k)) (b9 l[k].body)
 |[],_,hk=>absurd hk (Nat.not_lt_zero _)
 |e::r,0,_=>by simp [ig]
 |e::r,k+1,hk=>by
  have:=Hs (l:=r) (k:=k) (by simpa using hk);simp only[List.take_succ_cons,ig,this,List.getElem_cons_succ,Nat.max_assoc]
theorem Ht:∀{l:List Md} {k:Nat} (hk:k<l.length),iY (l.take (k+1))=max (iY (l.take k)) (cT l[k].body)
 |[],_,hk=>absurd hk (Nat.not_lt_zero _)
 |e::r,0,_=>by simp [iY]
 |e::r,k+1,hk=>by
  have:=Ht (l:=r) (k:=k) (by simpa using hk);simp only[List.take_succ_cons,iY,this,List.getElem_cons_succ,Nat.max_assoc]
theorem IF:∀{l:List Md} {e:Md},e∈l->b9 e.body<=ig l
 |[],e,he=>by cases he
 |x::r,e,he=>by
  simp only[ig];rcases List.mem_cons.1 he with rfl |he
  ·omega
  ·have:=IF he;omega
theorem IG:∀{l:List Md} {e:Md},e∈l->cT e.body<=iY l
 |[],e,he=>by cases he
 |x::r,e,he=>by
  simp only[iY];rcases List.mem_cons.1 he with rfl |he
  ·omega
  ·have:=IG he;omega
theorem Pw (d:Cd) (cs:List Value) (m:Mem) (hB:CdB d) (h:gY m d cs):aI 62 [.v (.agg ⟨cs⟩)] m (.bool (nZ d)):=by
 obtain⟨fl,name,super,ifs,fields,methods,init⟩:=d;obtain⟨x,⟨rfl,rfl,rfl,rfl⟩,⟨dp,uC,ep,hfc,dR,hmc,eH,hsc⟩,ao,r1,r2,xs,ys,r3,s3,r4,s4⟩:=h;simp only at dp ep dR eH r1 r2 s3 s4;obtain⟨b1,b2,b3,b4⟩:=hB;simp only at b1 b2 b3 b4;have hI:=G0 (b9 init) init x.sa x.sl x.sc ys m (aA _) b1 b2 eH (by rw[eH];exact ao.l) r4 s4;have fY:x.ml<=aw:=by rw[dR];exact ao.ml
 refine enter bj aq Tryz.func62 rfl rfl (by kernel_rfl) rfl ?_ ?_
 ·simp only[go_sem,Cc.cs]
 ·simp only[go_sem,Cc.cs];refine ak (hI.mono ?_);clear hI;rintro r H' m1 aQ ⟨l1,rfl,rfl⟩;simp only[go_sem,Cc.cs];refine gz aq (fun x' :Nat×Int×Int×Mem=>⟨[⟨3,[],.v (.int .i64 x'.2.1)⟩,⟨4,[],.v (.int .i64 x'.2.2.1)⟩,⟨16,[],.v (.slice x.ma x.ml x.mc)⟩,⟨17,[],.v (.int .i64 x.ml)⟩,⟨18,[],.v (.int .i64 x'.1)⟩],[],[],[],1,x'.2.2.2⟩)
   (fun x' =>ah m1 x'.2.2.2/\x'.1<=x.ml/\x'.2.1=max (b9 init) (ig (methods.take x'.1))/\x'.2.2.1=max (cT init) (iY (methods.take x'.1))) (fun x' =>x.ml - x'.1) (0,b9 init,cT init,m1) (fun _ _=>aA _) (fun x hx=>hx.1) ?_ ?_ ?_
  ·simp only[go_sem];rfl
  ·exact⟨.inl rfl,aF _,by simp [ig],by simp [iY]⟩
  ·rintro⟨k,s,e,mm⟩ ⟨h1,h2,h3,h4⟩;simp only at h1 h2 h3 h4;have hy:∀(hk:k<methods.length),∃(X:Mc) (v1 v2:Nat),(Rd mm (bc x.ma (k * 8)) X.cs/\x.ma≠none)/\yV [.v (.slice X.a X.l X.cp)] mm v1 v2/\(ig (methods.take (k+1))=max (ig (methods.take k)) v1/\iY (methods.take (k+1))=max (iY (methods.take k)) v2)/\v1<=aw/\v2<=aw:=fun hk=>by
    have bU:=lg (ae l1 h1) (qd s3 hk);have q1:=IF (List.getElem_mem hk);have q2:=IG (List.getElem_mem hk);have cR:=dK (aM (ae l1 h1) r3) (by omega:k<x.ml);have t1:=Hs hk;have t2:=Ht hk;obtain⟨X,⟨e1,_⟩,⟨e2,e3,e4,e5⟩,hk2,_,zs,r5,s5⟩:=QU bU;rw[e1] at cR;exact⟨X,_,_,cR,G0 _ _ X.a X.l X.cp zs mm (aA _) (by omega) (by omega) e4 (by rw[e4];exact hk2.l) r5 s5,⟨t1,t2⟩,by omega,by omega⟩
   simp only[go_sem];refine⟨fun an=> ?_,fun fZ=> ?_⟩
   ·have hk:k<methods.length:=by clear hy;omega
    refine Exists.elim (hy hk) fun X zk=>Exists.elim zk fun v1 wC=>Exists.elim wC fun v2 ug=>⟨⟨by clear hy zk wC ug;omega,an,ug.1.2⟩,X.cs,⟨ug.1.1,rfl⟩,?_⟩
    clear hy zk wC;have hD:=ug.2.1;have e1:=ug.2.2.1.1;have e2:=ug.2.2.1.2;clear ug;simp only[go_sem,Mc.cs];refine ak (hD.mono ?_);clear hD;rintro r H' m2 aJ ⟨l2,rfl,rfl⟩;simp only[go_sem];refine⟨by unfold aB;simp only[aw] at fY;omega,(k+1,((max (b9 init) (ig (methods.take (k+1))):Nat):Int),((max (cT init) (iY (methods.take (k+1))):Nat):Int),m2),⟨⟨?_,?_,by simp⟩,.inl rfl⟩,⟨ae h1 l2,by simp only;omega,by simp only[Nat.max_def],by simp only[Nat.max_def]⟩,by simp only;omega⟩
    ·simp only;rw[e1,h3];clear h3 h4 e1 e2
     (repeat' split)<;>omega
    ·simp only;rw[e2,h4];clear h3 h4 e1 e2
     (repeat' split)<;>omega
   ·clear hy;have:methods.take k=methods:=jI (by omega);rw[this] at h3 h4;have e0:nZ ⟨x.fl,x.name,x.super,ifs,fields,methods,init⟩=(decide (24<max (b9 init) (ig methods))||decide (24<max (cT init) (iY methods))):=rfl;refine⟨ae l1 h1,?_⟩;rw[e0];congr 1
    ·rw[decide_eq_decide];omega
    ·rw[decide_eq_decide];omega
def jY {α:Type} [BEq α]:List α->List α->Bool
 |_,[]=>false
 |seen,a::r=>seen.contains a||jY (seen++[a]) r
def mO (d:Cd):Bool:=jY [] d.ifs||jY [] (d.fields.map (·.name))||jY [] (d.methods.map fun m=>(m.name,m.params.length))
def qA (l:List (List UInt8)):List Value:=(l.map fun s=>[.string (bs s),.bool true]).flatten
theorem nA:∀(l:List Value),jJ (l.map .v)=some l
 |[]=>rfl
 |x::r=>by simp [jJ,plain,nA r]
theorem mr {n:Nat} {vc:List Vc}:∀(l:List Value),cL n vc (l.map .v)=True
 |[]=>rfl
 |x::r=>by simp [cL,gQ,mr r]
theorem Km {a b:List UInt8}:(Value.string (bs a)=Value.string (bs b))=(a=b):=propext ⟨fun h=>oM (Value.string.inj h),fun h=>by rw[h]⟩
theorem Ag (s:List UInt8):∀(l:List (List UInt8)),zi (gK (qA l) (.string (bs s)))=l.contains s
 |[]=>rfl
 |a::r=>by
  have e:qA (a::r)= .string (bs a):: .bool true::qA r:=rfl;rw[e,gK,Km,List.contains_cons];by_cases h:a=s
  ·rw[ai h];subst h;simp [zi]
  ·rw[aa h,Ag s r,(beq_eq_false_iff_ne.2 fun e=>h e.symm:(s==a)=false),Bool.false_or]
theorem Du (s:List UInt8):∀(l:List (List UInt8)),l.contains s=false->oY (qA l) (.string (bs s)) (.bool true)=qA (l++[s])
 |[],_=>rfl
 |a::r,h=>by
  have e:qA (a::r)= .string (bs a):: .bool true::qA r:=rfl;rw[List.contains_cons,Bool.or_eq_false_iff] at h;have hn:¬a=s:=fun e=>(beq_eq_false_iff_ne.1 h.1) e.symm
  rw[e,oY,Km,aa hn,Du s r h.2];rfl
abbrev so:=List UInt8×Nat
def o9 (k:so):Value:= .agg ⟨[.string (bs k.1),.int .i64 k.2]⟩
theorem Vw (k:so):dF 1000001 (o9 k)=True:=Kz _ _
def se (l:List so):List Value:=(l.map fun k=>[o9 k,.bool true]).flatten
theorem JQ {a b:so}:(o9 a=o9 b)=(a=b):=propext ⟨fun h=>by
 obtain⟨a1,a2⟩:=a;obtain⟨b1,b2⟩:=b;simp only[o9,Value.agg.injEq,Array.mk.injEq,List.cons.injEq,Value.string.injEq,Value.int.injEq,true_and,and_true] at h
 rw[oM h.1,show a2=b2 by omega],fun h=>by rw[h]⟩
theorem GX (k:so):∀(l:List so),zi (gK (se l) (o9 k))=l.contains k
 |[]=>rfl
 |a::r=>by
  have e:se (a::r)=o9 a:: .bool true::se r:=rfl;rw[e,gK,JQ,List.contains_cons];by_cases h:a=k
  ·rw[ai h];subst h;simp [zi]
  ·rw[aa h,GX k r,(beq_eq_false_iff_ne.2 fun e=>h e.symm:(k==a)=false),Bool.false_or]
theorem Hh (k:so):∀(l:List so),l.contains k=false->oY (se l) (o9 k) (.bool true)=se (l++[k])
 |[],_=>rfl
 |a::r,h=>by
  have e:se (a::r)=o9 a:: .bool true::se r:=rfl;rw[List.contains_cons,Bool.or_eq_false_iff] at h;have hn:¬a=k:=fun e=>(beq_eq_false_iff_ne.1 h.1) e.symm
  rw[e,oY,JQ,aa hn,Hh k r h.2];rfl
theorem R1 {m:Mem} {a:Option Addr} {n k c:Nat} {l:List (List UInt8)} (h:ax m a n 1 (strs l)) (hk:k<=n):ax m (if c=0 then a else a.map (·.add (0 * 1))) (k - 0) 1 (strs (l.take k)):=by
 have hl:=h.1;simp only[strs,List.length_map,Nat.mul_one] at hl;refine⟨by simp [strs];omega,fun h0=> ?_⟩;obtain⟨ad,rfl,hs,bW⟩:=h.2 (by omega);have e:(if c=0 then some ad else(some ad).map (·.add (0 * 1)))=some ad:=by
  by_cases hc:c=0
  ·rw[ai hc]
  ·rw[aa hc];rfl
 refine⟨ad,e,hs,fun j hj=> ?_⟩;obtain⟨h1,h2⟩:=bW j (by omega);refine⟨?_,h2⟩;rw[h1];simp only[strs,List.getElem?_map,List.getElem?_take];rw[ai (by omega)]
theorem DG {α:Type} [BEq α] {l:List α} {k:Nat} (hk:k<l.length):jY (l.take k) (l.drop k)=((l.take k).contains l[k]||jY (l.take (k+1)) (l.drop (k+1))):=by
 rw[List.drop_eq_getElem_cons hk,jY,List.take_succ_eq_append_getElem hk]
/-! The types of the maps. -/
theorem Ej:dM Tryz.prog 96=(1000000,none):=by kernel_rfl
theorem xX:dM Tryz.prog 153=(1000001,none):=by kernel_rfl
theorem S2:oT Tryz.prog 96:=
 Hv (k:=9) (e:=4) (by kernel_rfl) (by kernel_rfl) (by rw[Ej];decide) fun w=>by
  rw[Ej];exact C1 (i:=(Tryz.prog.info? 4).getD default) (by kernel_rfl) (by kernel_rfl) w
theorem Eb:cU Tryz.prog 155=some [.v (.string (bs [])),.v (.int .i64 0)]:=by kernel_rfl
theorem Yv:cC Tryz.prog 155=some (some 2):=by kernel_rfl
theorem Y1:aK Tryz.prog 155=2:=by kernel_rfl
theorem Tm:a8 Tryz.prog 155 0=some (0,none,1):=by kernel_rfl
theorem Tl:a8 Tryz.prog 155 1=some (1,none,1):=by kernel_rfl
theorem Yd:fP Tryz.prog 155=true:=by kernel_rfl
theorem Ws:wj Tryz.prog 155:=J6 Eb (by kernel_rfl) (by kernel_rfl) (by kernel_rfl) rfl (by kernel_rfl)
attribute [go_sem] Ej xX Eb Yv Y1 Tm Tl Yd
theorem U2 {a b:ByteArray}:tl a=tl b↔a=b:=⟨fun h=>by have:=congrArg bs h;rwa [eW,eW] at this,fun h=>by rw[h]⟩
theorem J2 {s:ByteArray} {n:Int} (w:World):∀(es:List MapEntry) (i:Nat),(∀x∈es,∃a k,x.key= .agg ⟨[.string a,.int .i64 k]⟩)->
  (Instr.findAsking 155 (.agg ⟨[.string s,.int .i64 n]⟩) es i).run Tryz.prog w= .ok (sE es (.agg ⟨[.string s,.int .i64 n]⟩) i) w
 |[],_,_=>rfl
 |e::es,i,h=>by
  obtain⟨a,k,ha⟩:=h e (bL ..);have ih:=J2 (s:=s) (n:=n) w es (i+1) fun x hx=>h x (bt _ hx)
  have he:=(Ws [.string s,.int .i64 n] [.string a,.int .i64 k] (decide (tl s=tl a)&&(decide (n=k)&&true)) w (.const undef) (.const undef) .eql rfl (by rw[Eb];rfl)).2;simp only[Instr.findAsking,Sem.run_bind,ha,sE];rw[show(Array.mk [Value.string s,Value.int .i64 n])=[Value.string s,Value.int .i64 n].toArray from rfl,show(Array.mk [Value.string a,Value.int .i64 k])=[Value.string a,Value.int .i64 k].toArray from rfl,he];simp only[Result.andThen_ok];by_cases hk:(Value.agg [Value.string a,Value.int .i64 k].toArray=Value.agg [Value.string s,Value.int .i64 n].toArray)
  ·rw[ai (ha.trans hk)];simp only[Value.agg.injEq,Array.mk.injEq,List.cons.injEq,Value.string.injEq,Value.int.injEq,true_and,and_true] at hk;obtain⟨rfl,rfl⟩:=hk;simp
  ·rw[aa fun e=>hk (ha.symm.trans e)];have:(decide (tl s=tl a)&&(decide (n=k)&&true))=false:=by
    simp only[Value.agg.injEq,Array.mk.injEq,List.cons.injEq,Value.string.injEq,Value.int.injEq,true_and,and_true] at hk;simp only[Bool.and_true,Bool.and_eq_false_iff,decide_eq_false_iff_not,U2];by_cases h1:s=a
    ·exact .inr fun h2=>hk ⟨h1.symm,h2.symm⟩
    ·exact .inl h1
   rw[this];exact ih
theorem S0:oT Tryz.prog 153:=by
 refine⟨by rw[xX];decide,155,4,by kernel_rfl,fun w key em n hk=> ?_,fun w key es hk cF=> ?_,fun w=> ?_⟩
 ·rw[xX] at hk;unfold dF at hk;rw[ai rfl] at hk;obtain⟨s,k,rfl⟩:=hk;have hu:Tryz.prog.underlying 155=some (.struct (Tryz.prog.fieldsOf 155)):=by kernel_rfl
  have FE:Tryz.prog.fieldsOf 155= #[(Tryz.prog.fieldsOf 155).getD 0 default,(Tryz.prog.fieldsOf 155).getD 1 default]:=by kernel_rfl
  rw[FE] at hu;have n0:((Tryz.prog.fieldsOf 155).getD 0 default).name= "name" :=by kernel_rfl
  have n1:((Tryz.prog.fieldsOf 155).getD 1 default).name= "params" :=by kernel_rfl
  have t0:((Tryz.prog.fieldsOf 155).getD 0 default).type=9:=by kernel_rfl
  have t1:((Tryz.prog.fieldsOf 155).getD 1 default).type=3:=by kernel_rfl
  have o0:((Tryz.prog.fieldsOf 155).getD 0 default).offset=0:=by kernel_rfl
  have o1:((Tryz.prog.fieldsOf 155).getD 1 default).offset=1:=by kernel_rfl
  have p0:=run_part_plain (P:=Tryz.prog) (w:=w) (e:=9) (by kernel_rfl) (xs:= #[.string s,.int .i64 k]) (off:=0) (v:= .string s) rfl;have p1:=run_part_plain (P:=Tryz.prog) (w:=w) (e:=3) (by kernel_rfl) (xs:= #[.string s,.int .i64 k]) (off:=1) (v:= .int .i64 k) rfl;have c0:=MapKept.run_checkKey (P:=Tryz.prog) (w:=w) (kt:=9) (d:= .string) (k:= .string s) (by kernel_rfl) (by simp [MapKept.IsKey]) em n;have c1:=MapKept.run_checkKey (P:=Tryz.prog) (w:=w) (kt:=3) (d:= .int .i64) (k:= .int .i64 k) (by kernel_rfl) (by simp [MapKept.IsKey]) em n;generalize (Tryz.prog.fieldsOf 155).getD 0 default=f0 at *
  generalize (Tryz.prog.fieldsOf 155).getD 1 default=f1 at *
  rw[Instr.checkKey];simp [run_underlying hu,Result.andThen,n0,n1,t0,t1,o0,o1,p0,p1,c0,c1]
 ·rw[xX] at hk cF;unfold dF at hk cF;simp only[if_true] at hk cF;obtain⟨s,k,rfl⟩:=hk;rw[run_findKey_eq w (by kernel_rfl)];exact J2 w es 0 cF
 ·rw[xX];exact C1 (i:=(Tryz.prog.info? 4).getD default) (by kernel_rfl) (by kernel_rfl) w
attribute [go_sem] S2 S0
theorem Rz (d:Cd) (cs:List Value) (m:Mem) (h:gY m d cs):aI 63 [.v (.agg ⟨cs⟩)] m (.bool (mO d)):=by
 obtain⟨fl,name,super,ifs,fields,methods,init⟩:=d;obtain⟨x,⟨rfl,rfl,rfl,rfl⟩,⟨dp,uC,ep,hfc,dR,hmc,eH,hsc⟩,ao,r1,r2,xs,ys,r3,s3,r4,s4⟩:=h;simp only at dp ep dR eH r1 r2 r3 s3 r4 s4;have j6:x.il<=aw:=by rw[dp];exact ao.il
 have Ca:x.fn<=aw:=by rw[ep];exact ao.fn
 have fY:x.ml<=aw:=by rw[dR];exact ao.ml
 clear r4 s4;refine enter bj aq Tryz.func63 rfl rfl (by kernel_rfl) rfl ?_ ?_
 ·simp only[go_sem,Cc.cs]
 ·simp only[go_sem,Cc.cs];refine ct aq (fun x' :Nat×Mem=>⟨[⟨1,[],.box 0 0⟩,⟨13,[],.v (.slice x.ia x.il x.ic)⟩,⟨14,[],.v (.int .i64 x.il)⟩,⟨15,[],.v (.int .i64 x'.1)⟩],[],[⟨0,33,x.cs.map .v⟩],[],1,x'.2⟩)
   (fun x' =>ah m x'.2/\x'.1<=x.il/\jY [] ifs=jY (ifs.take x'.1) (ifs.drop x'.1)) (fun x' =>x.il - x'.1) (0,m) (by kernel_rfl) (fun _ _=>aA _) (fun x hx=>hx.1) (fun _=> ?_) ?_ ?_ ?_
  ·simp only[go_sem,Cc.cs]
  ·simp only[go_sem,Cc.cs];rfl
  ·exact⟨.inl rfl,aF _,rfl⟩
  ·rintro⟨k,mm⟩ ⟨h1,h2,h3⟩;simp only at h1 h2 h3;have hy:∀(hk:k<ifs.length),(Rd mm (bc x.ia k) [.string (bs ifs[k])]/\x.ia≠none)/\FnH Tryz.prog 98 [.v (gA x.ia x.ic 0 k 1),.v (.string (bs ifs[k]))] ⟨[],[]⟩ mm fun r H' _=>r= .v (.bool ((ifs.take k).contains ifs[k]))/\H' =⟨[],[]⟩:=fun hk=>
    ⟨Sj (aM h1 r1) hk,uR (ifs.take k) ifs[k] _ (k - 0) (x.ic - 0) mm (R1 (aM h1 r1) (by omega)) (by simp only[aw] at j6;omega)⟩
   simp only[go_sem,Cc.cs];refine⟨fun an=> ?_,fun fZ=> ?_⟩
   ·have hk:k<ifs.length:=by clear hy;omega
    have bH:=hy hk;clear hy;refine⟨⟨by clear bH;omega,an,bH.1.2⟩,_,bH.1.1,?_⟩;simp only[go_sem,Cc.cs];have pC:=DG hk;refine⟨⟨Int.le_refl _,by clear bH;omega,by clear bH;omega⟩,by kernel_rfl,bF (bH.2.mono ?_)⟩;clear bH;rintro r H' m2 aJ ⟨rfl,rfl⟩;simp only[go_sem,Cc.cs];refine⟨fun hc=>⟨ae h1 (.inr aJ),?_⟩,fun hc=>⟨by unfold aB;simp only[aw] at j6;omega,(k+1,m2),⟨by simp,.inl rfl⟩,⟨ae h1 (.inr aJ),by simp only;omega,?_⟩,by simp only;omega⟩⟩
    ·simp only[mO,h3,pC,hc,Bool.true_or]
    ·simp only;rw[h3,pC,hc,Bool.false_or]
   ·clear hy;have hI:jY [] ifs=false:=by
     rw[h3,List.drop_of_length_le (by omega)];rfl
    refine ct aq (fun x' :Nat×Mem=>⟨[⟨1,[],.box 0 0⟩,⟨5,[],.mp 1⟩,⟨29,[],.v (.slice x.fa x.fn x.fc)⟩,⟨30,[],.v (.int .i64 x.fn)⟩,⟨31,[],.v (.int .i64 x'.1)⟩],[],[⟨1,1000000,(qA ((fields.map (·.name)).take x'.1)).map .v⟩,⟨0,33,x.cs.map .v⟩],[],2,x'.2⟩)
     (fun x' =>ah mm x'.2/\x'.1<=x.fn/\jY [] (fields.map (·.name))=jY ((fields.map (·.name)).take x'.1) ((fields.map (·.name)).drop x'.1)) (fun x' =>x.fn - x'.1) (0,mm) (by kernel_rfl) (fun _ _=>aA _) (fun x hx=> ?_) (fun _=> ?_) ?_ ?_ ?_
    ·exact hx.1
    ·simp only[go_sem,Cc.cs,mr]
    ·simp only[go_sem,Cc.cs];exact⟨rfl,rfl⟩
    ·exact⟨.inl rfl,aF _,rfl⟩
    ·rintro⟨j,mj⟩ ⟨q1,q2,q3⟩;simp only at q1 q2 q3;have hy:∀(hj:j<fields.length),Rd mj (bc x.fa (j * 5)) (fields[j]).cs/\x.fa≠none:=fun hj=>by
      have:=dK (aM (ae h1 q1) r2) (by omega:j<x.fn);rw[my (f:=Fc.cs) (sz:=5) (fun _=>rfl) hj] at this;exact this
     simp only[go_sem,Cc.cs];refine⟨fun an=> ?_,fun fZ=> ?_⟩
     ·have hj:j<fields.length:=by omega
      refine⟨⟨by omega,an,(hy hj).2⟩,(fields[j]).cs,⟨(hy hj).1,rfl⟩,?_⟩;simp only[go_sem,Cc.cs,Fc.cs,nA,Ag];have iq:j<(fields.map (·.name)).length:=by simpa using hj
      have pC:=DG iq;have yO:(fields.map (·.name))[j]=fields[j].name:=by simp
      rw[yO] at pC;refine⟨fun hc=>⟨ae h1 q1,?_⟩,fun hc=>⟨by unfold aB;simp only[aw] at Ca;omega,(j+1,mj),⟨by simp,?_,.inl rfl⟩,⟨q1,by simp only;omega,?_⟩,by simp only;omega⟩⟩
      ·simp only[mO,q3,pC,hc,Bool.true_or,Bool.or_true]
      ·simp only;rw[Du _ _ hc,List.take_succ_eq_append_getElem iq,yO]
      ·simp only;rw[q3,pC,hc,Bool.false_or]
     ·have hF:jY [] (fields.map (·.name))=false:=by
       rw[q3,List.drop_of_length_le (by simp;omega)];rfl
      refine ct aq (fun x' :Nat×Mem=>⟨[⟨1,[],.box 0 0⟩,⟨8,[],.mp 2⟩,⟨45,[],.v (.slice x.ma x.ml x.mc)⟩,⟨46,[],.v (.int .i64 x.ml)⟩,⟨47,[],.v (.int .i64 x'.1)⟩],[],[⟨2,1000001,(se ((methods.map fun m=>(m.name,m.params.length)).take x'.1)).map .v⟩,⟨0,33,x.cs.map .v⟩],[],3,x'.2⟩)
       (fun x' =>ah mj x'.2/\x'.1<=x.ml/\jY [] (methods.map fun m=>(m.name,m.params.length))=jY ((methods.map fun m=>(m.name,m.params.length)).take x'.1) ((methods.map fun m=>(m.name,m.params.length)).drop x'.1)) (fun x' =>x.ml - x'.1) (0,mj) (by kernel_rfl) (fun _ _=>aA _) (fun x hx=>hx.1) (fun _=> ?_) ?_ ?_ ?_
      ·simp only[go_sem,Cc.cs,mr]
      ·simp only[go_sem,Cc.cs];exact⟨rfl,rfl⟩
      ·exact⟨.inl rfl,aF _,rfl⟩
      ·rintro⟨k,mk⟩ ⟨p1,p2,p3⟩;simp only at p1 p2 p3;have hy:∀(hj:k<methods.length),∃X:Mc,(Rd mk (bc x.ma (k * 8)) X.cs/\x.ma≠none)/\X.name=methods[k].name/\X.pl=methods[k].params.length:=fun hj=>by
        have bU:=lg (ae h1 (ae q1 p1)) (qd s3 hj);have cR:=dK (aM (ae h1 (ae q1 p1)) r3) (by omega:k<x.ml);obtain⟨X,e1,e2,_⟩:=bU;rw[e1.1] at cR;exact⟨X,cR,e1.2.2.2.1,e2.1⟩
       simp only[go_sem,Cc.cs];refine⟨fun an=> ?_,fun fZ=> ?_⟩
       ·have hj:k<methods.length:=by omega
        refine Exists.elim (hy hj) fun X hX=>⟨⟨by clear hX hy;omega,an,hX.1.2⟩,X.cs,⟨hX.1.1,rfl⟩,?_⟩
        clear hy;have ov:=hX.2.1;have gB:=hX.2.2;clear hX;have hkv:Value.agg ⟨[.string (bs X.name),.int .i64 X.pl]⟩=o9 (X.name,X.pl):=rfl;simp only[go_sem,Cc.cs,Mc.cs,nA,hkv,Vw,GX];have iq:k<(methods.map fun m=>(m.name,m.params.length)).length:=by simpa using hj
        have pC:=DG iq;have yO:(methods.map fun m=>(m.name,m.params.length))[k]=(X.name,X.pl):=by simp [ov,gB]
        rw[yO] at pC;refine⟨fun hc=>⟨ae h1 (ae q1 p1),?_⟩,fun hc=>⟨by unfold aB;simp only[aw] at fY;omega,(k+1,mk),⟨by simp,?_,.inl rfl⟩,⟨p1,by simp only;omega,?_⟩,by simp only;omega⟩⟩
        ·simp only[mO,p3,pC,hc,Bool.true_or,Bool.or_true]
        ·simp only;rw[Hh _ _ hc,List.take_succ_eq_append_getElem iq,yO]
        ·simp only;rw[p3,pC,hc,Bool.false_or]
       ·have hM:jY [] (methods.map fun m=>(m.name,m.params.length))=false:=by
         rw[p3,List.drop_of_length_le (by simp;omega)];rfl
        exact⟨ae h1 (ae q1 p1),by simp only[mO,hI,hF,hM,Bool.or_false]⟩
def dS:List (List UInt8)->List Cd->List UInt8×Int
 |_,[]=>([],0)
 |seen,d::r=>if iw d=true then(if nZ d=true then(d.name,9) else if(seen.contains d.name||mO d)=true then(d.name,6) else dS (seen++[d.name]) r) else(d.name,4)
theorem N6 (l:List Cd) (p:Option Addr) (n c:Nat) (m:Mem) (hg:Glob m) (hC:∀d∈l,CdB d) (h:gV m l p n c):
  FnH Tryz.prog 35 [.v (.slice p n c)] ⟨[],[]⟩ m fun r H' m' =>ah m m' /\H' =⟨[],[]⟩/\r= .tup [.v (.string (bs (dS [] l).1)),.v (.int .i64 (dS [] l).2)]:=by
 obtain⟨hl,bN,hn,xs,r1,s1⟩:=h;refine br aq Tryz.func35 ?_
 ·simp only[go_sem];refine ct aq (fun x:Nat×Mem=>⟨[⟨4,[],.mp 0⟩,⟨8,[],.v (.slice p n c)⟩,⟨9,[],.v (.int .i64 n)⟩,⟨10,[],.v (.int .i64 x.1)⟩],[],[⟨0,1000000,(qA ((l.map (·.name)).take x.1)).map .v⟩],[],1,x.2⟩)
   (fun x=>ah m x.2/\x.1<=n/\dS [] l=dS ((l.map (·.name)).take x.1) (l.drop x.1)) (fun x=>n - x.1) (0,m) (by kernel_rfl) (fun _ _=>aA _) (fun x hx=>hx.1) (fun _=> ?_) ?_ ?_ ?_
  ·simp only[go_sem,mr]
  ·simp only[go_sem];exact⟨rfl,rfl⟩
  ·exact⟨.inl rfl,aF _,rfl⟩
  ·rintro⟨k,mm⟩ ⟨h1,h2,h3⟩;simp only at h1 h2 h3;have hy:∀(hk:k<l.length),∃X:Cc,(Rd mm (bc p (k * 7)) X.cs/\p≠none)/\X.name=l[k].name/\
     (aI 61 [.v (.agg ⟨X.cs⟩)] mm (.bool (iw l[k])))/\(∀m',ah mm m' ->aI 62 [.v (.agg ⟨X.cs⟩)] m' (.bool (nZ l[k])))/\(∀m',ah mm m' ->aI 63 [.v (.agg ⟨X.cs⟩)] m' (.bool (mO l[k]))):=fun hk=>by
    have bU:=vb h1 (qd s1 hk);have cR:=dK (aM h1 r1) (by omega:k<n);have hX:∃X:Cc,(xs.drop (k * 7)).take 7=X.cs/\X.name=l[k].name:=by
     obtain⟨X,e1,_⟩:=bU;exact⟨X,e1.1,e1.2.2.1⟩
    obtain⟨X,e1,e2⟩:=hX;rw[e1] at cR bU;have ao:=hC _ (List.getElem_mem hk);exact⟨X,cR,e2,Nn _ _ mm (hg.upM h1) bU,fun m' hle=>Pw _ _ m' ao (vb hle bU),fun m' hle=>Rz _ _ m' (vb hle bU)⟩
   have eG:∀(hk:k<l.length),dS [] l=(if iw l[k]=true then(if nZ l[k]=true then(l[k].name,9) else if(((l.map (·.name)).take k).contains l[k].name||mO l[k])=true then(l[k].name,6) else dS ((l.map (·.name)).take (k+1)) (l.drop (k+1))) else(l[k].name,4)):=fun hk=>by
    rw[h3,List.drop_eq_getElem_cons hk,dS];have:(l.map (·.name)).take (k+1)=(l.map (·.name)).take k++[l[k].name]:=by
     rw[List.take_succ_eq_append_getElem (by simpa using hk)];simp
    rw[this]
   clear hC;simp only[go_sem];refine⟨fun an=> ?_,fun fZ=> ?_⟩
   ·have hk:k<l.length:=by clear hy;omega
    have rZ:=eG hk;clear eG;refine Exists.elim (hy hk) fun X bH=>⟨⟨by clear hy bH;omega,an,bH.1.2⟩,X.cs,⟨bH.1.1,rfl⟩,?_⟩
    clear hy;have ov:=bH.2.1;have hV:=bH.2.2.1;have FN:=bH.2.2.2.1;have zG:=bH.2.2.2.2;clear bH;simp only[go_sem,Cc.cs];refine ak ((aC hV (fun V=>rfl)).mono ?_);clear hV;rintro r H' m2 aJ ⟨l2,rfl,rfl⟩;simp only[go_sem,Cc.cs];refine⟨fun b1=>⟨ae h1 l2,?_⟩,fun b1=>ak ((aC (FN m2 l2) (fun V=>rfl)).mono ?_)⟩
    ·clear FN zG;rw[rZ,aa (by rw[b1];decide),ov]
    ·clear FN;rw[ai b1] at rZ;rintro r H' m3 dx ⟨l3,rfl,rfl⟩;have uf:=ae l2 l3;simp only[go_sem,Cc.cs,nA,Ag];refine⟨fun b2=>⟨ae h1 uf,?_⟩,fun b2=> ?_⟩
     ·clear zG;rw[rZ,ai b2,ov]
     ·rw[aa (by rw[b2];decide)] at rZ;refine⟨fun b3=>ak ((aC (zG m3 uf) (fun V=>rfl)).mono ?_),fun b3=>⟨ae h1 uf,?_⟩⟩
      ·clear zG;rw[<- ov,b3,Bool.false_or] at rZ;rintro r H' m4 iF ⟨l4,rfl,rfl⟩;have LX:=ae uf l4;simp only[go_sem,Cc.cs,nA,Ag];refine⟨fun b4=>⟨ae h1 LX,?_⟩,fun b4=>⟨by unfold aB;simp only[aw] at hn;omega,(k+1,m4),⟨by simp,?_,.inl rfl⟩,⟨ae h1 LX,by simp only;omega,?_⟩,by simp only;omega⟩⟩
       ·rw[rZ,ai b4]
       ·have eI:k<(l.map (·.name)).length:=by simpa using hk
        simp only;rw[Du _ _ b3,List.take_succ_eq_append_getElem eI,ov];simp
       ·simp only;rw[rZ,aa (by rw[b4];decide)]
      ·clear zG;rw[rZ,<- ov,b3,ai (by simp)]
   ·clear hy;rw[h3,List.drop_of_length_le (by omega),dS];exact⟨h1,rfl⟩
abbrev Nm:=List UInt8
def mQ:Md:=⟨0,aj,[],[],false,[]⟩
def ej:Cd:=⟨0,[],[],[],[],[],[]⟩
def ko:Ty:=⟨-1,76,aS⟩
def eY (s:Nm):Ty:=⟨0,76,s⟩
def b8:Ty:=⟨0,73,[]⟩
def dT:Ty:=⟨0,74,[]⟩
def fQ:Ty:=⟨0,86,[]⟩
def lH:Nm:=[108,97,110,103,47,83,116,114,105,110,103]
def iU:Nm:=[108,97,110,103,47,84,104,114,111,119,97,98,108,101]
def mG:Nm:=[108,97,110,103,47]
def eM (t:Ty):Bool:=decide (t.base=76)|| !decide (t.dim=0)
def o7 (t:Ty):Nm:=if t.dim=0 then t.name else aS
/-! The classes that a checker knows: the program's, then the built-in ones. -/
def cls (E:List Cd) (s:Nm):Option Cd:=E.find? fun d=>decide (d.name=s)
def cd (E:List Cd) (s:Nm):Cd:=(cls E s).getD ej
def fT (E:List Cd):Nat->List Nm->Nm->List Nm
 |0,out,_=>out
 |f+1,out,s=>match cls E s with
  |none=>out
  |some d=>if out.contains s=true then out else fT E f (out++[s]) d.super
def bP (E:List Cd) (s:Nm):List Nm:=fT E (E.length+1) [] s
def gk (E:List Cd):Nat->List Nm->List Nm->List Nm
 |0,out,_=>out
 |f+1,out,l=>l.foldl (fun out s=>match cls E s with
  |some d=>if out.contains s=true then out else gk E f (out++[s]) d.ifs
  |none=>out) out
def gU (E:List Cd) (out l:List Nm):List Nm:=gk E (E.length+1) out l
def cH (E:List Cd) (s:Nm):List Nm:=(bP E s).foldl (fun out c=>gU E out (cd E c).ifs) []
def jP (E:List Cd) (a b:Nm):Bool:=decide (a=b)||((cls E a).isSome&&(decide (b=aS)||(bP E a).contains b||(cH E a).contains b))
def ew (E:List Cd) (a b:Ty):Bool:=
 if Ty.eq a b=true then true else if(!eM a|| !eM b||Ty.eq b ko)=true then false else if(Ty.eq a ko||Ty.eq b (eY aS))=true then true
 else if(decide (a.base=76)&&decide (b.base=76)&&decide (a.dim=b.dim)&&jP E a.name b.name)=true then true
 else decide (b.dim<a.dim)&&decide (b.base=76)&&decide (b.name=aS)
def fk (E:List Cd) (s name:Nm):Option (Nm×Fc):=(bP E s).findSome? fun c=>((cd E c).fields.find? fun f=>decide (f.name=name)).map fun f=>(c,f)
def cM (E:List Cd) (s name:Nm) (n:Int):Option Md:=(cd E s).methods.find? fun m=>decide (m.name=name)&&decide ((m.params.length:Int)=n)
def eA (E:List Cd) (l:List Nm) (name:Nm) (n:Int):Option (Nm×Md):=l.findSome? fun s=>(cM E s name n).map fun m=>(s,m)
def fi (E:List Cd) (s name:Nm) (n:Int):Option (Nm×Md):=
 if name=bB then eA E ((bP E s).take 1) name n else match eA E (bP E s) name n with
  |some x=>some x
  |none=>eA E (cH E s) name n
def mC (E:List Cd) (l:List Nm) (name:Nm) (n:Int):List Nm:=l.filter fun s=>match cM E s name n with
 |some m=> !hasB m.fl 8
 |none=>false
def gH (E:List Cd) (l:List Nm) (name:Nm) (n:Int):List Nm:=
 (mC E l name n).filter fun s=> !((mC E l name n).any fun t=> !decide (t=s)&&jP E t s)
/-! Types of expressions in a scope. -/
structure Sc where
 pr:List Cd
 ci:Nat
 st:Bool
 su:Bool
 res:Ty
 loc:List Pc
def cB (S:Sc):Cd:=S.pr.getD S.ci ej
def je (S:Sc) (o:Nm) (fl:Int):Bool:= !hasB fl 2||decide (o=(cB S).name)
abbrev TR:=Ty×Int
def eC (ok:Bool) (t:Ty):TR:=if ok=true then(t,0) else(aj,73)
def iz (E:List Cd):List Pc->List Ty->Int
 |p::l,a::r=>if ew E a p.ty=true then iz E l r else 73
 |_,_=>0
def gZ (E:List Cd) (S:Sc) (s name:Nm) (st:Bool) (args:List Ty):TR:=
 match fi E s name args.length with
 |none=>(aj,72)
 |some (o,m)=>if(!je S o m.fl|| !(hasB m.fl 8==st))=true then(aj,72) else if iz E m.params args=0 then(m.res,0) else(aj,iz E m.params args)
def jo (E:List Cd) (S:Sc) (name:Nm) (args:List Ty):TR:=
 if(S.st||S.su||hasB (cB S).fl 512)=true then(aj,72) else match fi E (cB S).super name args.length with
  |none=>(aj,72)
  |some (_,m)=>if hasB m.fl 1024=true then(aj,72)
   else if(eA E (bP E (cB S).super) name args.length).isSome=true then gZ E S (cB S).super name false args
   else match gH E (cH E (cB S).super) name args.length with
    |[s]=>if((cM E s name args.length).getD mQ).hb=true then gZ E S (cB S).super name false args else(aj,72)
    |_=>(aj,72)
def mJ (E:List Cd) (S:Sc) (s:Nm) (args:List Ty):Int:=
 match cM E s bB args.length with
 |some m=>if je S s m.fl=true then iz E m.params args else 72
 |none=>match S.pr.find? fun d=>decide (d.name=s) with
  |some d=>if args.length=0/\(d.methods.any fun m=>decide (m.name=bB))=false then 0 else 72
  |none=>72
def EN (a b:Ty):Bool:=Ty.eq a b&&(Ty.eq a b8||Ty.eq a dT)
def gw (E:List Cd) (op:Nm) (a b:Ty):TR:=
 if op=[43]\/op=[45]\/op=[42]\/op=[47]\/op=[37] then eC (EN a b) a
 else if op=[60]\/op=[60,61]\/op=[62]\/op=[62,61] then eC (EN a b) b8
 else if op=[61,61]\/op=[33,61] then eC (EN a b||(eM a&&eM b&&(ew E a b||ew E b a))) b8
 else eC (Ty.eq a b8&&Ty.eq b b8) b8
def rY (E:List Cd) (t:Ty):Bool:=decide (t.dim=0)&&decide (t.base=76)&&hasB (cd E t.name).fl 512
def cu (E:List Cd) (t:Ty):Bool:= !decide (t.base=76)||(cls E t.name).isSome
def kJ (E:List Cd) (k:Int) (ty a:Ty):TR:=
 if cu E ty=true then eC (eM a&&eM ty&&(ew E a ty||ew E ty a||rY E a||rY E ty)) (if k=18 then b8 else ty) else(aj,72)
def lL (E:List Cd) (S:Sc) (st:Bool) (c s:Nm):TR:=
 match fk E c s with
 |none=>(aj,72)
 |some (o,f)=>if(!(hasB f.fl 8==st)|| !je S o f.fl)=true then(aj,72) else(f.ty,0)
def fC (E:List Cd) (S:Sc) (k:Int) (s c:Nm) (args:List Ty):TR:=
 if k=6 then match S.loc.find? fun p=>decide (p.name=s) with
  |some p=>(p.ty,0)
  |none=>(aj,72)
 else if k=7 then(if eM (args.getD 0 aj)=true then lL E S false (o7 (args.getD 0 aj)) s else(aj,73))
 else lL E S true c s
def gX (E:List Cd) (S:Sc) (k:Int) (c:Nm) (ty:Ty) (args:List Ty):TR:=
 if k=14 then(if cu E ty=true then eC (Ty.eq (args.getD 0 aj) b8&&decide (ty.dim<8)) ⟨ty.dim+1,ty.base,ty.name⟩ else(aj,72))
 else match cls E c with
  |none=>(aj,72)
  |some d=>if hasB d.fl 1536=true then(aj,73) else(eY c,mJ E S c args)
def jW (S:Sc) (k:Int):TR:=
 if k=1 then(b8,0) else if k=2 then(dT,0) else if k=3 then(eY lH,0) else if k=4 then(ko,0)
 else if(S.st||S.su)=true then(aj,72) else(eY (cB S).name,0)
def bf (E:List Cd) (S:Sc) (k:Int) (s c:Nm) (ty:Ty) (args:List Ty):TR:=
 if k=6\/k=7\/k=8 then fC E S k s c args
 else if k=9 then eC (decide (0<(args.getD 0 aj).dim)&&Ty.eq (args.getD 1 aj) b8) ⟨(args.getD 0 aj).dim - 1,(args.getD 0 aj).base,(args.getD 0 aj).name⟩
 else if k=19 then eC (decide (0<(args.getD 0 aj).dim)) b8
 else if k=10 then(if eM (args.getD 0 aj)=true then gZ E S (o7 (args.getD 0 aj)) s false args.tail else(aj,73))
 else if k=11 then gZ E S c s true args
 else if k=12 then jo E S s args
 else if k=13\/k=14 then gX E S k c ty args
 else if k=15 then eC (Ty.eq (args.getD 0 aj) b8||(decide (s=[45])&&Ty.eq (args.getD 0 aj) dT)) (args.getD 0 aj)
 else if k=16 then gw E s (args.getD 0 aj) (args.getD 1 aj)
 else if k=17\/k=18 then kJ E k ty (args.getD 0 aj)
 else if k=20 then eC (Ty.eq (args.getD 0 aj) dT) b8
 else if k=21 then eC (Ty.eq (args.getD 0 aj) b8) dT
 else jW S k
mutual
def bJ (E:List Cd) (S:Sc):Ex->TR
 | .mk k _ s c ty es=>if(bS E S es).2=0 then(if(bf E S k s c ty (bS E S es).1).2=0 then bf E S k s c ty (bS E S es).1 else(aj,(bf E S k s c ty (bS E S es).1).2)) else(aj,(bS E S es).2)
def bS (E:List Cd) (S:Sc):List Ex->List Ty×Int
 |[]=>([],0)
 |e::r=>if(bJ E S e).2=0 then(if(bS E S r).2=0 then((bJ E S e).1::(bS E S r).1,0) else([],(bS E S r).2)) else([],(bJ E S e).2)
end
/-! Statements. -/
mutual
def vz:St->Bool
 | .mk k _ _ _ _ body alt=>if k=6\/k=7 then true else if k=10\/k=9 then iQ body else if k=4\/k=8 then iQ body&&iQ alt else false
def iQ:List St->Bool
 |[]=>false
 |s::r=>match r with
  |[]=>vz s
  |_::_=>iQ r
end
def Ex.kd:Ex->Int | .mk k _ _ _ _ _=>k
def Ex.ar:Ex->List Ex | .mk _ _ _ _ _ es=>es
def gG (S:Sc) (t:Ty) (s:Nm):Sc:={S with loc:=S.loc++[⟨t,s⟩]}
def xY (S:Sc) (s:Nm):Bool:=S.loc.any fun p=>decide (p.name=s)
def ib (E:List Cd) (S:Sc) (e:Ex) (x:Ty):Int:=if(bJ E S e).2=0/\ew E (bJ E S e).1 x=false then 73 else(bJ E S e).2
def fR (E:List Cd) (S:Sc) (ty:Ty) (s:Nm):Int:=if(!cu E ty||xY S s)=true then 72 else 0
def gr (E:List Cd) (S:Sc) (l:List Ex):Int:=
 if S.st=true then 72 else if(bS E {S with su:=true} l).2=0 then mJ E S (cB S).super (bS E {S with su:=true} l).1 else(bS E {S with su:=true} l).2
def tE (E:List Cd) (S:Sc) (e:Ex):Int:=
 if e.kd=0 then(if S.res.base=86 then 0 else 73)
 else if(bJ E S e).2=0/\(S.res.base=86\/ew E (bJ E S e).1 S.res=false) then 73 else(bJ E S e).2
mutual
def gu (E:List Cd) (S:Sc):St->Sc×Int
 | .mk k name ty tg ex body alt=>
  if k=1 then(if fR E S ty name=0 then(if ib E S ex ty=0 then(gG S ty name,0) else(S,ib E S ex ty)) else(S,fR E S ty name))
  else(S,
   if k=2 then(if(bJ E S tg).2=0 then ib E S ex (bJ E S tg).1 else(bJ E S tg).2)
   else if k=3 then(bJ E S ex).2
   else if k=7 then ib E S ex (eY iU)
   else if k=6 then tE E S ex
   else if k=8 then(if fR E S ty name=0 then(if ew E ty (eY iU)=true then(if bT E S false body=0 then bT E (gG S ty name) false alt else bT E S false body) else 73) else fR E S ty name)
   else if k=11 then gr E S ex.ar
   else if k=10 then bT E S false body
   else if(bJ E S ex).2=0 then
    (if(if k=9 then eM (bJ E S ex).1 else Ty.eq (bJ E S ex).1 b8)=true then(if bT E S false body=0 then bT E S false alt else bT E S false body) else 73)
   else(bJ E S ex).2)
def bT (E:List Cd) (S:Sc) (t:Bool):List St->Int
 |[]=>0
 |s::r=>if t=true then 74 else if(gu E S s).2=0 then bT E (gu E S s).1 (vz s) r else(gu E S s).2
end
/-! Classes. -/
abbrev CR:=Nm×Int
def rr (E:List Cd) (d:Cd):CR:=
 if(mG.isPrefixOf d.name||(d.super::d.ifs).any fun s=>(cls E s).isNone)=true then([],72) else match d.fields.find? fun f=> !cu E f.ty with
  |some f=>(f.name,72)
  |none=>match d.methods.find? fun m=>(m.params.any fun p=> !cu E p.ty)|| !cu E m.res with
   |some m=>(m.name,72)
   |none=>([],0)
def n7 (E:List Cd) (d:Cd):CR:=if((bP E d.super).contains d.name||(gU E [] d.ifs).contains d.name)=true then([],31) else([],0)
def nU (E:List Cd) (d:Cd):CR:=if(hasB (cd E d.super).fl 528||d.ifs.any fun s=> !hasB (cd E s).fl 512)=true then([],33) else([],0)
def rI (fl:Int):Int:=if hasB fl 1=true then 3 else if hasB fl 4=true then 2 else if hasB fl 2=true then 0 else 1
def mD (a b:Md):Bool:=Ty.eq a.res b.res&&fu (fun(x y:Pc)=>Ty.eq x.ty y.ty) a.params b.params
def vC (m g:Md):Bool:= !mD m g|| !(hasB m.fl 8==hasB g.fl 8)||decide (rI m.fl<rI g.fl)||hasB g.fl 16
def pV (E:List Cd) (d:Cd):CR:=
 match d.fields.find? fun f=>(fk E d.super f.name).isSome with
 |some f=>(f.name,73)
 |none=>match d.methods.find? fun m=> !decide (m.name=bB)&&((bP E d.name).tail++cH E d.name).any fun s=>match cM E s m.name m.params.length with
   |some g=> !hasB g.fl 2&&vC m g
   |none=>false with
  |some m=>(m.name,73)
  |none=>([],0)
def kp (E:List Cd) (s:Nm) (g:Md):Bool:=
 match eA E (bP E s) g.name g.params.length with
 |some (_,m)=> !hasB m.fl 1034&&mD m g
 |none=>match gH E (cH E s) g.name g.params.length with
  |[t]=>((cM E t g.name g.params.length).getD mQ).hb&&mD ((cM E t g.name g.params.length).getD mQ) g
  |_=>false
def nN (E:List Cd) (d:Cd):CR:=
 if hasB d.fl 1024=true then([],0) else match((bP E d.name).flatMap fun s=>(cd E s).methods).find? fun m=>hasB m.fl 1024&& !kp E d.name m with
  |some m=>(m.name,74)
  |none=>match((cH E d.name).flatMap fun s=>(cd E s).methods).find? fun m=> !hasB m.fl 8&& !kp E d.name m with
   |some m=>(m.name,74)
   |none=>([],0)
def tT:List Nm->List Pc->Bool
 |_,[]=>false
 |seen,p::r=>if seen.contains p.name=true then true else tT (seen++[p.name]) r
def Bj (m:Md):Bool:=decide (m.name=bB)&& !(match m.body with | .mk k _ _ _ _ _ _::_=>decide (k=11) |[]=>false)
def jO (E pr:List Cd) (i:Nat) (m:Md):Int:=
 if tT [] m.params=true then 72
 else if Bj m=true/\gr E ⟨pr,i,hasB m.fl 8,false,m.res,m.params⟩ []≠0 then gr E ⟨pr,i,hasB m.fl 8,false,m.res,m.params⟩ []
 else if bT E ⟨pr,i,hasB m.fl 8,false,m.res,m.params⟩ false m.body=0/\m.res.base≠86/\iQ m.body=false then 74
 else bT E ⟨pr,i,hasB m.fl 8,false,m.res,m.params⟩ false m.body
def mK (E pr:List Cd) (i:Nat):List Md->CR
 |[]=>([],0)
 |m::r=>if m.hb=true/\jO E pr i m≠0 then(m.name,jO E pr i m) else mK E pr i r
def K4:Nm:=[60,99,108,105,110,105,116,62]
def qi (E pr:List Cd) (i:Nat):CR:=
 if(mK E pr i (pr.getD i ej).methods).2≠0 then mK E pr i (pr.getD i ej).methods
 else if hasB (pr.getD i ej).fl 512=false/\((pr.getD i ej).methods.any fun m=>decide (m.name=bB))=false/\gr E ⟨pr,i,false,false,fQ,[]⟩ []≠0 then(bB,gr E ⟨pr,i,false,false,fQ,[]⟩ [])
 else if bT E ⟨pr,i,true,false,fQ,[]⟩ false (pr.getD i ej).init=0 then([],0) else(K4,bT E ⟨pr,i,true,false,fQ,[]⟩ false (pr.getD i ej).init)
def ei (E pr:List Cd) (n i:Nat):CR:=
 if n=1 then rr E (pr.getD i ej) else if n=2 then n7 E (pr.getD i ej) else if n=3 then nU E (pr.getD i ej) else if n=4 then pV E (pr.getD i ej) else if n=5 then nN E (pr.getD i ej) else qi E pr i
def kG (E pr:List Cd) (n:Nat):List Nat->Nm×Nm×Int
 |[]=>([],[],0)
 |i::r=>if(ei E pr n i).2=0 then kG E pr n r else((pr.getD i ej).name,(ei E pr n i).1,(ei E pr n i).2)
def mE (E pr:List Cd):List Nat->Nm×Nm×Int
 |[]=>([],[],0)
 |n::r=>if(kG E pr n (List.range pr.length)).2.2=0 then mE E pr r else kG E pr n (List.range pr.length)
def lj (B pr:List Cd):Nm×Nm×Int:=
 if(dS [] pr).2=0 then mE (pr++B) pr [1,2,3,4,5,6] else((dS [] pr).1,[],(dS [] pr).2)
end Go.Proofs.YtmdokbohofchgaaGreatDoor.E

/- Several texts in one. -/
import Derived.WideKeyRuns
import Derived.Test.YtmdokbohofchgaaGreatDoorMrg2
set_option linter.unusedSimpArgs false
set_option linter.unusedVariables false
set_option maxHeartbeats 4000000
set_option maxRecDepth 20000
namespace Go.Proofs.YtmdokbohofchgaaGreatDoor.E
open Go
theorem abX:cH Tryz.prog 4=some none:=by kernel_rfl
theorem sz4:aM Tryz.prog 4=1:=by kernel_rfl
theorem abT:cH Tryz.prog 35=some (some 3):=by kernel_rfl
theorem aay:aM Tryz.prog 35=3:=by kernel_rfl
theorem L6:cY Tryz.prog 35=some [.v (.int .i64 0),.v (.int .u8 0),.v (.string (bs []))]:=by kernel_rfl
theorem Xl:bf Tryz.prog 35 0=some (0,none,1):=by kernel_rfl
theorem Xk:bf Tryz.prog 35 1=some (1,none,1):=by kernel_rfl
theorem Xj:bf Tryz.prog 35 2=some (2,none,1):=by kernel_rfl
theorem abN:fV Tryz.prog 35=true:=by kernel_rfl
theorem dD:wZ Tryz.prog 35:=Lh L6 (by kernel_rfl) (by kernel_rfl) (by kernel_rfl) rfl (by kernel_rfl)
theorem abS:cH Tryz.prog 57=some (some 8):=by kernel_rfl
theorem szX:aM Tryz.prog 57=8:=by kernel_rfl
theorem Yt:cY Tryz.prog 57=some [.v (.int .i64 0),.v (.int .i64 0),.v (.string (bs [])),.v (.string (bs [])),.v (.int .i64 0),.v (.int .u8 0),.v (.string (bs [])),.v (.slice none 0 0)]:=by kernel_rfl
theorem Xg:bf Tryz.prog 57 0=some (0,none,1):=by kernel_rfl
theorem Xf:bf Tryz.prog 57 1=some (1,none,1):=by kernel_rfl
theorem Xe:bf Tryz.prog 57 2=some (2,none,1):=by kernel_rfl
theorem Xd:bf Tryz.prog 57 3=some (3,none,1):=by kernel_rfl
theorem Xc:bf Tryz.prog 57 4=some (4,some 3,3):=by kernel_rfl
theorem Xb:bf Tryz.prog 57 5=some (7,none,1):=by kernel_rfl
theorem abM:fV Tryz.prog 57=true:=by kernel_rfl
theorem aae:cH Tryz.prog 55=some none:=by kernel_rfl
theorem aaI:aM Tryz.prog 55=1:=by kernel_rfl
theorem abp:eo Tryz.prog 55=some 57:=by kernel_rfl
theorem aad:cH Tryz.prog 28=some none:=by kernel_rfl
theorem abU:cH Tryz.prog 201=some (some 5):=by kernel_rfl
theorem szS:aM Tryz.prog 201=5:=by kernel_rfl
theorem Yu:cY Tryz.prog 201=some [.v (.bool false),.v (.bool false),.v (.bool false),.v (.int .i64 0),.v (.int .i64 0)]:=by kernel_rfl
theorem Xw:bf Tryz.prog 201 0=some (0,none,1):=by kernel_rfl
theorem Xv:bf Tryz.prog 201 1=some (1,none,1):=by kernel_rfl
theorem Xu:bf Tryz.prog 201 2=some (2,none,1):=by kernel_rfl
theorem Xt:bf Tryz.prog 201 3=some (3,none,1):=by kernel_rfl
theorem Xs:bf Tryz.prog 201 4=some (4,none,1):=by kernel_rfl
theorem abO:fV Tryz.prog 201=true:=by kernel_rfl
attribute [go_sem] abX sz4 abT aay L6 Xl Xk Xj abN abS szX Yt Xg Xf Xe Xd Xc Xb abM aae aaI abp aad abU szS Yu Xw Xv Xu Xt Xs abO
def bJ:List UInt8:=[60,105,110,105,116,62]
def yv:List UInt8:=[60,99,108,105,110,105,116,62]
def sn (s:List UInt8):Bool:=decide (s=bJ)||decide (s=yv)||(ie s&&decide (Lib.indexByte s 47<0))
def jW (s:List UInt8):Bool:=sn s&&decide (s.getD 0 0≠60)&& !iD s&& !vF.contains s
theorem Pu (s:List UInt8) (m:Mem) (hs:BL s):FnH Tryz.prog 214 [.v (.string (bs s))] ⟨[],[]⟩ m fun r H' _=>r= .v (.bool (sn s))/\H' =⟨[],[]⟩:=by
 refine br M9 Tryz.func214 ?_
 ·simp only[go_sem];refine⟨fun h=> ?_,fun h=>⟨hs,fun h1=>ai ((Ob s 47 m).mono ?_),fun h1=> ?_⟩⟩
  ·simp only[sn,bJ,yv];rcases h with h |h<;>simp [h]
  ·rintro r H' m' hm ⟨rfl,rfl⟩;simp only[go_sem];have h2:=h.1;have h3:=h.2;simp [sn,bJ,yv,h1,h2,h3]
  ·have h2:=h.1;have h3:=h.2;simp [sn,bJ,yv,h1,h2,h3]
abbrev cfM:Cfg:=eZ (fun _=>false) [(214,iJ BL fun s=> .bool (sn s)),(227,iJ BL fun s=> .bool (ie s)),(141,iJ BL fun s=> .bool (iD s))]
theorem M8:cw cfM Tryz.prog:=pure_cons (by kernel_rfl) (jZ Pu) (pure_cons (by kernel_rfl) (jZ Hn) (pure_cons (by kernel_rfl) (jZ AM) pure_nil))
theorem SK {s:List UInt8} (h:sn s=true):0<s.length:=by
 cases s with
 |nil=>simp [sn,bJ,yv,ie,eR] at h
 |cons a r=>simp
theorem Dw (s:List UInt8) (m:Mem) (hs:BL s):FnH Tryz.prog 113 [.v (.string (bs s))] ⟨[],[]⟩ m fun r H' _=>r= .v (.bool (jW s))/\H' =⟨[],[]⟩:=by
 refine br M8 Tryz.func113 ?_
 ·simp only[go_sem];have e:∀u:UInt8,((u.toNat:Int)=60)=(u=60):=fun u=>propext ⟨fun h=>UInt8.toNat_inj.1 (by have:(60:UInt8).toNat=60:=rfl;omega),fun h=>by rw[h];rfl⟩
  simp only[e];refine⟨hs,fun h=>⟨by omega,by have:=SK h;omega⟩,fun _=>hs,fun h=>ai ((Og m).mono ?_),fun h=> ?_⟩
  ·rintro r H' m' hm ⟨rfl,rfl,rfl⟩;simp only[go_sem];refine⟨by kernel_rfl,fun a c m1 aR hc cW=>bD ((vn vF s a 28 c m1 cW (by omega)).mono ?_)⟩;rintro r H' m' aK ⟨rfl,rfl⟩;have h1:=h.1.1;have h2:=h.1.2;have h3:=h.2;generalize hb:vF.contains s=kb
   simp only[go_sem];rw[jW,h1,h3,hb,aQ h2];rfl
  ·rw[jW];rcases h with (h |h) |h
   ·simp [h]
   ·have:decide (s.getD 0 0≠60)=false:=by rw[h];rfl
    rw[this];simp
   ·simp [h]
def kz (d b:Int) (s:List UInt8):Bool:=if d<0\/8<d then false else if b=73\/b=74 then decide (s=[]) else if b=86 then decide (d=0)&&decide (s=[]) else if b=76 then ie s else false
def iS (d b:Int) (s:List UInt8):Bool:=kz d b s&&decide (b≠86)&&(decide (b≠76)||iD s)
def pC (F:Int->Int->List UInt8->Bool):List Value->Option (Prop×Value)
 |[.agg ⟨[.int .i64 d,.int .u8 b,.string s]⟩]=>some (BL (tl s),.bool (F d b (tl s)))
 |_=>none
attribute [go_sem] pC.eq_1
theorem tT {P:Program} {f:FuncId} {F:Int->Int->List UInt8->Bool} (h:∀d b a m,BL a->FnH P f [.v (.agg ⟨[.int .i64 d,.int .u8 b,.string (bs a)]⟩)] ⟨[],[]⟩ m fun r H' _=>r= .v (.bool (F d b a))/\H' =⟨[],[]⟩):wG P f (pC F):=fun aO y hy hB m=>by
 unfold pC at hy;split at hy
 ·rename_i d b a;cases hy;have:=h d b (tl a) m hB;rwa [eY] at this
 ·cases hy
theorem HB (d b:Int) (s:List UInt8) (m:Mem) (hs:BL s):FnH Tryz.prog 216 [.v (.agg ⟨[.int .i64 d,.int .u8 b,.string (bs s)]⟩)] ⟨[],[]⟩ m fun r H' _=>r= .v (.bool (kz d b s))/\H' =⟨[],[]⟩:=by
 refine br M8 Tryz.func216 ?_
 ·simp only[go_sem];refine⟨fun h=>by simp only[kz,ak h],fun h=> ?_⟩;have h0:¬(d<0\/8<d):=fun h' =>h'.elim h.1 h.2
  simp only[kz,ae h0];refine⟨fun h1=> ?_,fun h1=> ?_⟩
  ·simp [h1]
  ·refine⟨fun h2=>by simp [h2],fun h2=> ?_⟩;refine⟨fun h3=>by simp [h3],fun h3=>⟨fun h4=>⟨hs,by simp [h4]⟩,fun h4=>by simp [h1,h2,h3,h4]⟩⟩
abbrev cfT:Cfg:=eZ (fun _=>false) [(216,pC kz),(141,iJ BL fun s=> .bool (iD s))]
theorem puT:cw cfT Tryz.prog:=pure_cons (by kernel_rfl) (tT HB) (pure_cons (by kernel_rfl) (jZ AM) pure_nil)
theorem Dr (d b:Int) (s:List UInt8) (m:Mem) (hs:BL s):FnH Tryz.prog 114 [.v (.agg ⟨[.int .i64 d,.int .u8 b,.string (bs s)]⟩)] ⟨[],[]⟩ m fun r H' _=>r= .v (.bool (iS d b s))/\H' =⟨[],[]⟩:=by
 refine br puT Tryz.func114 ?_
 ·simp only[go_sem];refine⟨hs,fun _=>hs,?_⟩;simp [iS]
def tU (c:UInt8):Bool:=decide (c.toNat=10)||(decide (32<=c.toNat)&&decide (c.toNat<=126))
def yG (s:List UInt8):Bool:=s.all tU&&decide (s.length<=1024)
theorem Pk (s:List UInt8) (m:Mem) (hs:BL s):FnH Tryz.prog 261 [.v (.string (bs s))] ⟨[],[]⟩ m fun r H' _=>r= .v (.bool (yG s))/\H' =⟨[],[]⟩:=by
 refine br xe Tryz.func261 ?_
 ·simp only[go_sem];refine gC xe (fun k:Nat=>⟨[⟨0,[],.v (.string (bs s))⟩,⟨6,[],.v (.int .i64 s.length)⟩,⟨7,[],.v (.int .i64 k)⟩],[],[],[],0,m⟩)
   (fun k=>k<=s.length/\(s.take k).all tU=true) (fun k=>s.length - k) 0 (fun _ _=>aC _) (fun _ _=> .inl rfl) ?_ ?_ ?_
  ·simp only[go_sem];rfl
  ·simp
  ·rintro k ⟨hk,hp⟩;simp only[go_sem];refine⟨fun aj=> ?_,fun gj=> ?_⟩
   ·have eO:k<s.length:=by omega
    have hd:=vT eO;refine⟨⟨by omega,aj⟩,fun h=> ?_,fun h=>⟨by unfold az;have:s.length<=4611686018427387904:=hs;omega,k+1,by omega,⟨by omega,?_⟩,by omega⟩⟩
    ·have hb:tU (s.getD k 0)=false:=by
      simp only[tU,Bool.or_eq_false_iff,Bool.and_eq_false_iff,decide_eq_false_iff_not];exact⟨by omega,by omega⟩
     have:s.all tU=false:=by
      rw[<- List.take_append_drop k s,List.all_append,hd,List.all_cons,hb];simp
     rw[yG,this,Bool.false_and]
    ·have hb:tU (s.getD k 0)=true:=by
      simp only[tU,Bool.or_eq_true,bB,cE];omega
     rw[List.take_succ_eq_append_getElem eO,List.all_append,hp,List.all_cons];have e:s.getD k 0=s[k]:=by rw[List.getD_eq_getElem?_getD,List.getElem?_eq_getElem eO];rfl
     rw[e] at hb;simp [hb]
   ·rw[jS (by omega)] at hp;rw[yG,hp,Bool.true_and,decide_eq_decide];omega
def kB (k:Int):Bool×Bool×Bool×Int×Int:=
 if k=6 then(true,false,false,0,0)
 else if k=7 then(true,false,false,1,1)
 else if k=8 then(true,true,false,0,0)
 else if k=9\/k=16 then(false,false,false,2,2)
 else if k=10 then(true,false,false,1,17)
 else if k=11 then(true,true,false,0,16)
 else if k=12 then(true,false,false,0,16)
 else if k=13 then(false,true,false,0,16)
 else if k=14\/k=17\/k=18 then(false,false,true,1,1)
 else if k=15\/k=19\/k=20\/k=21 then(false,false,false,1,1)
 else(false,false,false,0,0)
def isKind (k:Int):Bool:=decide (1<=k)&&decide (k<=21)
theorem kinds {k:Int} (h:isKind k=true):k=1\/k=2\/k=3\/k=4\/k=5\/k=6\/k=7\/k=8\/k=9\/k=10\/k=11\/k=12\/k=13\/k=14\/k=15\/k=16\/k=17\/k=18\/k=19\/k=20\/k=21:=by
 simp only[isKind,bB,cE] at h;omega
theorem O1 (k:Int) (m:Mem):FnH Tryz.prog 186 [.v (.int .i64 k)] ⟨[],[]⟩ m fun r H' m' =>m' =m/\H' =⟨[],[]⟩/\r= .tup [.agg [.v (.bool (kB k).1),.v (.bool (kB k).2.1),.v (.bool (kB k).2.2.1),.v (.int .i64 (kB k).2.2.2.1),.v (.int .i64 (kB k).2.2.2.2)],.v (.bool (isKind k))]:=by
 refine br xe Tryz.func186 ?_
 ·cases hk:isKind k with
  |true=>
   rcases kinds hk with h |h |h |h |h |h |h |h |h |h |h |h |h |h |h |h |h |h |h |h |h<;>subst h<;>simp only[go_sem,kB,Int.reduceEq,aW,aV]
  |false=>
   have pN:¬(1<=k/\k<=21):=by simpa [isKind] using hk
   have e:∀j:Int,1<=j->j<=21->(k=j)=False:=fun j h1 h2=>eq_false fun h=>pN (h▸⟨h1,h2⟩)
   have e1:=e 1 (by decide) (by decide);have e2:=e 2 (by decide) (by decide);have e3:=e 3 (by decide) (by decide);have e4:=e 4 (by decide) (by decide);have e5:=e 5 (by decide) (by decide);have e6:=e 6 (by decide) (by decide);have e7:=e 7 (by decide) (by decide);have e8:=e 8 (by decide) (by decide);have e9:=e 9 (by decide) (by decide);have cn:=e 10 (by decide) (by decide);have cu:=e 11 (by decide) (by decide);have e12:=e 12 (by decide) (by decide);have e13:=e 13 (by decide) (by decide);have e14:=e 14 (by decide) (by decide);have e15:=e 15 (by decide) (by decide);have e16:=e 16 (by decide) (by decide);have e17:=e 17 (by decide) (by decide);have e18:=e 18 (by decide) (by decide);have e19:=e 19 (by decide) (by decide);have e20:=e 20 (by decide) (by decide);have e21:=e 21 (by decide) (by decide);simp only[go_sem,kB,e1,e2,e3,e4,e5,e6,e7,e8,e9,cn,cu,e12,e13,e14,e15,e16,e17,e18,e19,e20,e21,aV]
def od (k n:Int) (s:List UInt8):Bool:=
 if k=1 then decide (0<=n)&&decide (n<=2147483647)&&decide (s=[])
 else if k=2 then decide (0<=n)&&decide (s=[])
 else if k=3 then decide (n=0)&&yG s
 else if k=15 then decide (n=0)&&(decide (s=[45])||decide (s=[33]))
 else if k=16 then decide (n=0)&&opsL.contains s
 else decide (n=0)&&decide (s=[])
abbrev cfP:Cfg:=eZ (fun _=>false) [(261,iJ BL fun s=> .bool (yG s))]
theorem puP:cw cfP Tryz.prog:=pure_cons (by kernel_rfl) (jZ Pk) pure_nil
theorem Sz (k n:Int) (s c:List UInt8) (d b:Int) (nm:List UInt8) (sl:Value) (m:Mem) (hg:Glob m) (hs:BL s):
  FnH Tryz.prog 187 [.v (.agg ⟨[.int .i64 k,.int .i64 n,.string (bs s),.string (bs c),.int .i64 d,.int .u8 b,.string (bs nm),sl]⟩)] ⟨[],[]⟩ m fun r H' m' =>af m m' /\H' =⟨[],[]⟩/\r= .v (.bool (od k n s)):=by
 refine br puP Tryz.func187 ?_
 ·simp only[go_sem];refine⟨fun h=>by simp only[od,ak h],fun h1=>⟨fun h=>by simp only[od,ae h1,ak h],fun h2=>⟨fun h=>⟨fun _=>hs,by simp only[od,ae h1,ae h2,ak h]⟩,fun h3=>⟨fun h=>by simp only[od,ae h1,ae h2,ae h3,ak h],fun h4=>⟨fun h=> ?_,fun h=>by simp only[od,ae h1,ae h2,ae h3,ae h4,ae h]⟩⟩⟩⟩⟩;have nz:=hg.2;refine nz.elim fun ad nz=>nz.elim fun cp nz=>⟨.slice (some ad) 19 cp,fun _=>nz.1,fun hn=>ai ((vn opsL s (some ad) 19 cp m nz.2.2 (by omega)).mono ?_),fun hn=> ?_⟩
  ·rintro r H' m' hm ⟨rfl,rfl⟩;simp only[go_sem];refine⟨.inr hm,?_⟩;simp only[od,ae h1,ae h2,ae h3,ae h4,ak h,aQ hn,Bool.true_and]
  ·simp only[od,ae h1,ae h2,ae h3,ae h4,ak h,ab hn,Bool.false_and]
def qx (k n:Int) (s c:List UInt8) (d b:Int) (nm:List UInt8) (l:Nat):Bool:=
 isKind k&&decide ((kB k).2.2.2.1<=l)&&decide (l<=(kB k).2.2.2.2)&&(if(kB k).1=true then jW s&&decide (n=0) else od k n s)&&(if(kB k).2.1=true then iD c else decide (c=[]))
  &&(if(kB k).2.2.1=true then iS d b nm&&(decide (k≠14)||decide (d<8)) else decide (d=0)&&decide (b=0)&&decide (nm=[]))
abbrev mz:Cfg:=eZ (fun _=>false) [(113,iJ BL fun s=> .bool (jW s)),(114,pC iS),(141,iJ BL fun s=> .bool (iD s))]
theorem mb:cw mz Tryz.prog:=pure_cons (by kernel_rfl) (jZ Dw) (pure_cons (by kernel_rfl) (tT Dr) (pure_cons (by kernel_rfl) (jZ AM) pure_nil))
theorem aD {P:Program} {f:FuncId} {args qD:List SV} {H:Hp} {m:Mem} {R:SV->Hp->Mem->Prop} (h:FnH P f args H m R) (e:∀V,qD.map (den V)=args.map (den V)):FnH P f qD H m R:=
 fun V w D h1 h2 h3=>by rw[e V];exact h V w D h1 h2 h3
theorem Qy (k n:Int) (s c:List UInt8) (d b:Int) (nm:List UInt8) (a:Option Addr) (l cp:Nat) (m:Mem) (hg:Glob m) (hs:BL s) (hc:BL c) (hn:BL nm):
  FnH Tryz.prog 100 [.v (.agg ⟨[.int .i64 k,.int .i64 n,.string (bs s),.string (bs c),.int .i64 d,.int .u8 b,.string (bs nm),.slice a l cp]⟩)] ⟨[],[]⟩ m fun r H' m' =>af m m' /\H' =⟨[],[]⟩/\r= .v (.bool (qx k n s c d b nm l)):=by
 refine br mb Tryz.func100 ?_
 ·simp only[go_sem];refine ai (((O1 k m).mono (R' :=fun r H' m' =>m' =m/\H' =⟨[],[]⟩/\∃i cl ty lo hi,kB k=(i,cl,ty,lo,hi)/\r= .tup [.agg [.v (.bool i),.v (.bool cl),.v (.bool ty),.v (.int .i64 lo),.v (.int .i64 hi)],.v (.bool (isKind k))]) fun r H' m' hm h=>⟨h.1,h.2.1,_,_,_,_,_,rfl,h.2.2⟩).mono ?_);rintro r H' m' hm ⟨rfl,rfl,i,cl,ty,lo,hi,kP,rfl⟩;simp only[go_sem,dD];have Ag:∀x:Bool,(isKind k=false\/(l:Int)<lo)\/hi<(l:Int)->false=(isKind k&&decide (lo<=(l:Int))&&decide ((l:Int)<=hi)&&x):=fun x h=>by
   rcases h with (h |h) |h
   ·simp [h]
   ·rw[ab (by omega:¬lo<=(l:Int))];simp
   ·rw[ab (by omega:¬(l:Int)<=hi)];simp
  have hN:qx k n s c d b nm l=(isKind k&&decide (lo<=(l:Int))&&decide ((l:Int)<=hi)&&(if i=true then jW s&&decide (n=0) else od k n s)&&(if cl=true then iD c else decide (c=[]))
    &&(if ty=true then iS d b nm&&(decide (k≠14)||decide (d<8)) else decide (d=0)&&decide (b=0)&&decide (nm=[]))):=by simp only[qx,kP]
  refine⟨fun h=> ?_,fun h=> ?_⟩
  ·rw[hN,Bool.and_assoc,Bool.and_assoc];exact Ag _ h
  ·have e1:=h.1.1;have e2:decide (lo<=(l:Int))=true:=aQ (by have:=h.1.2;omega);have e3:decide ((l:Int)<=hi)=true:=aQ (by have:=h.2;omega);have hM:qx k n s c d b nm l=((if i=true then jW s&&decide (n=0) else od k n s)&&(if cl=true then iD c else decide (c=[]))&&(if ty=true then iS d b nm&&(decide (k≠14)||decide (d<8)) else decide (d=0)&&decide (b=0)&&decide (nm=[]))):=by
    rw[hN,e1,e2,e3];simp only[Bool.true_and]
   refine⟨fun hi=>⟨hs,fun aU=>⟨fun _=>hc,fun ht=>⟨fun _=>hn,by rw[hM];simp [hi,aU,ht,Bool.and_assoc]⟩,fun ht=>by rw[hM];simp [hi,aU,ht,Bool.and_assoc]⟩,fun aU=>⟨fun ht=>⟨fun _=>hn,by rw[hM];simp [hi,aU,ht,Bool.and_assoc]⟩,fun ht=>by rw[hM];simp [hi,aU,ht,Bool.and_assoc]⟩⟩,fun hi=>ai ((aD (Sz k n s c d b nm (.slice a l cp) m' hg hs) (fun V=>rfl)).mono ?_)⟩;rintro r H' m2 aK ⟨hle,rfl,rfl⟩;simp only[go_sem,dD];exact⟨fun aU=>⟨fun _=>hc,fun ht=>⟨fun _=>hn,hle,by rw[hM];simp [hi,aU,ht,Bool.and_assoc]⟩,fun ht=>⟨hle,by rw[hM];simp [hi,aU,ht,Bool.and_assoc]⟩⟩,fun aU=>⟨fun ht=>⟨fun _=>hn,hle,by rw[hM];simp [hi,aU,ht,Bool.and_assoc]⟩,fun ht=>⟨hle,by rw[hM];simp [hi,aU,ht,Bool.and_assoc]⟩⟩⟩
structure Ty where
 dim:Int
 base:Int
 name:List UInt8
inductive Ex where
 |mk (k n:Int) (s c:List UInt8) (ty:Ty) (args:List Ex)
inductive St where
 |mk (k:Int) (name:List UInt8) (ty:Ty) (tg ex:Ex) (body alt:List St)
abbrev ay:Nat:=2000000
def uH (t:Ty):List Value:=[.int .i64 t.dim,.int .u8 t.base,.string (bs t.name)]
def uE (t:Ty):Prop:=az t.dim/\(0<=t.base/\t.base<256)/\t.name.length<=ay
def en (k n:Int) (s c:List UInt8) (ty:Ty) (sl:Value):List Value:=[.int .i64 k,.int .i64 n,.string (bs s),.string (bs c),.int .i64 ty.dim,.int .u8 ty.base,.string (bs ty.name),sl]
def Ct (k n:Int) (s c:List UInt8) (ty:Ty) (l:Nat):Prop:=az k/\az n/\s.length<=ay/\c.length<=ay/\uE ty/\l<=ay
mutual
def a8 (m:Mem):Ex->List Value->Prop
 | .mk k n s c ty args,cs=>∃a cp xs,cs=en k n s c ty (.slice a args.length cp)/\args.length<=cp/\aw m a args.length 8 xs/\Ct k n s c ty args.length/\dI m args xs
def dI (m:Mem):List Ex->List Value->Prop
 |[],_=>True
 |e::r,xs=>a8 m e (xs.take 8)/\dI m r (xs.drop 8)
end
theorem tX {m:Mem}:∀{l:List Ex} {xs:List Value} {i:Nat} (_:dI m l xs) (hi:i<l.length),a8 m l[i] ((xs.drop (i * 8)).take 8)
 |[],_,_,_,hi=>absurd hi (Nat.not_lt_zero _)
 |e::r,xs,0,h,_=>by simp only[dI] at h;simpa using h.1
 |e::r,xs,i+1,h,hi=>by
  simp only[dI] at h;have:=tX (i:=i) h.2 (by simpa using hi);rw[List.drop_drop] at this;rw[show(i+1) * 8=8+i * 8 by omega];exact this
mutual
theorem tJ {m m' :Mem} (hle:m.le m'):∀(e:Ex) (cs:List Value),a8 m e cs->a8 m' e cs
 | .mk k n s c ty args,cs,h=>by
  simp only[a8] at h ⊢;obtain⟨a,cp,xs,h1,h2,h3,h4,h5⟩:=h;exact⟨a,cp,xs,h1,h2,yN hle h3,h4,DS hle args xs h5⟩
theorem DS {m m' :Mem} (hle:m.le m'):∀(l:List Ex) (xs:List Value),dI m l xs->dI m' l xs
 |[],_,_=>by simp only[dI]
 |e::r,xs,h=>by
  simp only[dI] at h ⊢;exact⟨tJ hle e _ h.1,DS hle r _ h.2⟩
end
mutual
def eS:Ex->Nat
 | .mk _ _ _ _ _ args=>iX args+1
def iX:List Ex->Nat
 |[]=>0
 |e::r=>max (eS e) (iX r)
end
theorem AX:∀{l:List Ex} {i:Nat} (hi:i<l.length),eS l[i]<=iX l
 |[],_,hi=>absurd hi (Nat.not_lt_zero _)
 |e::r,0,_=>by simp only[iX];exact Nat.le_max_left _ _
 |e::r,i+1,hi=>by
  have:=AX (l:=r) (i:=i) (by simpa using hi);simp only[iX];exact cQ this (Nat.le_max_right _ _)
theorem Dx:∀{l:List Ex} {i:Nat} (hi:i<l.length),iX (l.take (i+1))=max (iX (l.take i)) (eS l[i])
 |[],_,hi=>absurd hi (Nat.not_lt_zero _)
 |e::r,0,_=>by simp [iX]
 |e::r,i+1,hi=>by
  have:=Dx (l:=r) (i:=i) (by simpa using hi);simp only[List.take_succ_cons,iX,this];rw[List.getElem_cons_succ,Nat.max_assoc]
def aL (f:FuncId) (args:List SV) (m:Mem) (v:Value):Prop:=FnH Tryz.prog f args ⟨[],[]⟩ m fun r H' m' =>af m m' /\H' =⟨[],[]⟩/\r= .v v
theorem RM {α:Type} {l:List α} {B:α->Bool} {k:Nat} (h:k<l.length):(l.take (k+1)).any B=((l.take k).any B||B l[k]):=by
 rw[List.take_succ_eq_append_getElem h,List.any_append];simp
theorem Glob.upM {m m' :Mem} (h:Glob m) (hm:af m m'):Glob m' :=by
 rcases hm with rfl |hm
 ·exact h
 ·exact h.up hm
theorem bY {m m' :Mem} {e:Ex} {cs:List Value} (hle:af m m') (h:a8 m e cs):a8 m' e cs:=by
 rcases hle with rfl |hle
 ·exact h
 ·exact tJ hle e cs h
theorem xP {m m' :Mem} {l:List Ex} {cs:List Value} (hle:af m m') (h:dI m l cs):dI m' l cs:=by
 rcases hle with rfl |hle
 ·exact h
 ·exact DS hle l cs h
theorem aN {m m' :Mem} {a:Option Addr} {n sz:Nat} {xs:List Value} (hle:af m m') (h:aw m a n sz xs):aw m' a n sz xs:=by
 rcases hle with rfl |hle
 ·exact h
 ·exact yN hle h
theorem aa {m m' fP:Mem} (h:af m m') (h' :af m' fP):af m fP:=by
 rcases h with rfl |h
 ·exact h'
 ·rcases h' with rfl |h'
  ·exact .inr h
  ·exact .inr (Mem.le_trans h h')
theorem OK (f:FuncId) (B:Ex->Bool) (l:List Ex) (a:Option Addr) (n c:Nat) (xs:List Value) (m:Mem) (hl:l.length=n) (hr:aw m a n 8 xs) (he:dI m l xs) (hn:n<=ay) (ao:dp Tryz.prog f=true)
  (hf:∀i (hi:i<l.length) cs m',af m m' ->a8 m' l[i] cs->aL f [.v (.agg ⟨cs⟩)] m' (.bool (B l[i]))):
  FnH Tryz.prog 188 [.v (.slice a n c),.v (.func (.func f) ⟨[]⟩ ⟨[]⟩)] ⟨[],[]⟩ m fun r H' m' =>af m m' /\H' =⟨[],[]⟩/\∃i:Int,r= .v (.int .i64 i)/\decide (0<=i)=l.any B:=by
 refine br aq Tryz.func188 ?_
 ·simp only[go_sem];refine gC aq (fun x:Nat×Mem=>⟨[⟨0,[],.v (.slice a n c)⟩,⟨1,[],.v (.func (.func f) ⟨[]⟩ ⟨[]⟩)⟩,⟨7,[],.v (.int .i64 n)⟩,⟨8,[],.v (.int .i64 x.1)⟩],[],[],[],0,x.2⟩)
   (fun x=>af m x.2/\x.1<=n/\(l.take x.1).any B=false) (fun x=>n - x.1) (0,m) (fun _ _=>aC _) (fun x hx=>hx.1) ?_ ?_ ?_
  ·simp only[go_sem];rfl
  ·exact⟨.inl rfl,aF _,rfl⟩
  ·rintro⟨k,mm⟩ ⟨h1,h2,h3⟩;simp only at h1 h2 h3;have bT:bb.own f=false:=rfl;have NA:∀(hk:k<n),Rd mm (bk a (k * 8)) ((xs.drop (k * 8)).take 8)/\a≠none:=fun hk=>dM (aN h1 hr) hk
   have CQ:∀(hk:k<n),((xs.drop (k * 8)).take 8).length=8:=fun hk=>by
    have:=hr.1;have hm:(k+1) * 8<=n * 8:=Nat.mul_le_mul_right _ hk;rw[List.length_take,gI];omega
   simp only[go_sem,bT];refine⟨fun aj=> ?_,fun gj=>⟨h1,?_⟩⟩
   ·have hk:k<n:=by clear hf;omega
    have eO:k<l.length:=by clear hf;omega
    refine⟨⟨by clear hf;omega,aj,(NA hk).2⟩,_,⟨(NA hk).1,CQ hk⟩,ao,bD ((hf k eO _ mm h1 (bY h1 (tX he eO))).mono ?_)⟩;clear hf;rintro r H' m' hm ⟨hle,rfl,rfl⟩;simp only[go_sem];refine⟨fun hb=>⟨aa h1 hle,?_⟩,fun hb=>⟨by unfold az;simp only[ay] at hn;omega,(k+1,m'),⟨by simp,.inl rfl⟩,⟨aa h1 hle,by simp only;omega,?_⟩,by simp only;omega⟩⟩
    ·have:l.any B=true:=List.any_eq_true.2 ⟨_,List.getElem_mem eO,hb⟩;rw[this];simp
    ·simp only;rw[RM eO,h3,hb];rfl
   ·rw[jS (by clear hf;omega)] at h3;rw[h3];rfl
theorem G3 (f:FuncId) (B:Ex->Bool) (l:List Ex) (a:Option Addr) (n c:Nat) (xs:List Value) (m:Mem) (hl:l.length=n) (hr:aw m a n 8 xs) (he:dI m l xs) (hn:n<=ay) (ao:dp Tryz.prog f=true)
  (hf:∀i (hi:i<l.length) cs m',af m m' ->a8 m' l[i] cs->aL f [.v (.agg ⟨cs⟩)] m' (.bool (B l[i]))):
  aL 101 [.v (.slice a n c),.v (.func (.func f) ⟨[]⟩ ⟨[]⟩)] m (.bool (l.any B)):=by
 refine br aq Tryz.func101 ?_
 ·simp only[go_sem];refine ai ((OK f B l a n c xs m hl hr he hn ao hf).mono ?_);clear hf;rintro r H' m' hm ⟨hle,rfl,i,rfl,hi⟩;simp only[go_sem];exact⟨hle,hi⟩
mutual
def de:Ex->Bool
 | .mk k n s c ty args=>qx k n s c ty.dim ty.base ty.name args.length&&kV args
def kV:List Ex->Bool
 |[]=>true
 |e::r=>de e&&kV r
end
theorem Dd:∀(l:List Ex),(!l.any fun e=> !de e)=kV l
 |[]=>rfl
 |e::r=>by
  simp only[List.any_cons,kV,<- Dd r];cases de e<;>simp
theorem mD:∀(h:Nat) (e:Ex) (cs:List Value) (m:Mem),eS e<=h->Glob m->a8 m e cs->aL 51 [.v (.agg ⟨cs⟩)] m (.bool (de e))
 |0,.mk k n s c ty args,cs,m,hd,_,_=>by simp [eS] at hd
 |h+1,.mk k n s c ty args,cs,m,hd,hg,he=>by
  simp only[a8] at he;obtain⟨a,cp,xs,rfl,bQ,hr,ao,cJ⟩:=he;have hn:=ao.2.2.2.2.2;simp only[eS] at hd;have hf:∀i (hi:i<args.length) cs m',af m m' ->a8 m' args[i] cs->aL 102 [.v (.agg ⟨cs⟩)] m' (.bool (!de args[i])):=fun i hi cs m' hle bX=>by
   have hlen:∃c0 c1 c2 c3 c4 c5 c6 c7,cs=[c0,c1,c2,c3,c4,c5,c6,c7]:=by
    cases lP:args[i] with
    |mk k n s c ty args=>
     rw[lP] at bX;simp only[a8] at bX;obtain⟨a,cp,xs,rfl,_⟩:=bX;exact⟨_,_,_,_,_,_,_,_,rfl⟩
   have ih:=mD h args[i] cs m' (by have:=AX hi;omega) (hg.upM hle) bX;obtain⟨c0,c1,c2,c3,c4,c5,c6,c7,rfl⟩:=hlen;refine br aq Tryz.func102 ?_
   ·simp only[go_sem];refine ai ((aD ih (fun V=>rfl)).mono ?_);rintro r H' m2 aK ⟨bH,rfl,rfl⟩;simp only[go_sem];exact bH
  have hv:=fun m' (hm:af m m')=>G3 102 (fun e=> !de e) args a args.length cp xs m' rfl (aN hm hr) (xP hm cJ) hn (by kernel_rfl) (fun i hi cs m2 hle=>hf i hi cs m2 (aa hm hle))
  have Zk:=Qy k n s c ty.dim ty.base ty.name a args.length cp m hg (cQ ao.2.2.1 (by decide)) (cQ ao.2.2.2.1 (by decide)) (cQ ao.2.2.2.2.1.2.2 (by decide));clear hf;refine enter bb aq Tryz.func51 rfl rfl (by kernel_rfl) rfl ?_ ?_
  ·simp only[go_sem,en]
  ·simp only[go_sem,en];refine ai ((aD Zk (fun V=>rfl)).mono ?_);rintro r H' m2 aK ⟨hle,rfl,rfl⟩;simp only[go_sem];refine⟨fun hb=>ai ((hv m2 hle).mono ?_),fun hb=>⟨hle,?_⟩⟩
   ·clear hv;rintro r H' m3 cA ⟨uy,rfl,rfl⟩;simp only[go_sem];refine⟨aa hle uy,?_⟩;rw[Dd,de,hb,Bool.true_and]
   ·rw[de,hb,Bool.false_and]
structure Nd where
 k:Int
 n:Int
 s:List UInt8
 c:List UInt8
 ty:Ty
 a:Option Addr
 l:Nat
 cp:Nat
def Nd.cs (x:Nd):List Value:=[.int .i64 x.k,.int .i64 x.n,.string (bs x.s),.string (bs x.c),.int .i64 x.ty.dim,.int .u8 x.ty.base,.string (bs x.ty.name),.slice x.a x.l x.cp]
theorem rN {m:Mem} {e:Ex} {cs:List Value} (h:a8 m e cs):∃x:Nd,cs=x.cs:=by
 cases e with
 |mk k n s c ty args=>
  simp only[a8] at h;obtain⟨a,cp,xs,rfl,_⟩:=h;exact⟨⟨k,n,s,c,ty,a,args.length,cp⟩,rfl⟩
theorem AY:∀(h:Nat) (e:Ex) (cs:List Value) (m:Mem),eS e<=h->h<=ay->a8 m e cs->aL 236 [.v (.agg ⟨cs⟩)] m (.int .i64 (eS e))
 |0,.mk k n s c ty args,cs,m,hd,_,_=>by simp [eS] at hd
 |h+1,.mk k n s c ty args,cs,m,hd,hb,he=>by
  simp only[a8] at he;obtain⟨a,cp,xs,rfl,bQ,hr,ao,cJ⟩:=he;have hn:=ao.2.2.2.2.2;simp only[eS] at hd;refine enter bb aq Tryz.func236 rfl rfl (by kernel_rfl) rfl ?_ ?_
  ·simp only[go_sem,en]
  ·simp only[go_sem,en];refine gC aq (fun x:Nat×Mem=>⟨[⟨3,[],.v (.int .i64 (iX (args.take x.1)))⟩,⟨7,[],.v (.slice a args.length cp)⟩,⟨8,[],.v (.int .i64 args.length)⟩,⟨9,[],.v (.int .i64 x.1)⟩],[],[],[],1,x.2⟩)
    (fun x=>af m x.2/\x.1<=args.length) (fun x=>args.length - x.1) (0,m) (fun _ _=>aC _) (fun x hx=>hx.1) ?_ ?_ ?_
   ·simp only[go_sem];exact⟨rfl,rfl⟩
   ·exact⟨.inl rfl,aF _⟩
   ·rintro⟨i,mm⟩ ⟨h1,h2⟩;simp only at h1 h2;have hx:∀(hi:i<args.length),∃x:Nd,Rd mm (bk a (i * 8)) x.cs/\a≠none/\aL 236 [.v (.agg ⟨x.cs⟩)] mm (.int .i64 (eS args[i])):=fun hi=>by
     have bX:=bY h1 (tX cJ hi);obtain⟨x,hx⟩:=rN bX;have cW:=dM (aN h1 hr) hi;rw[hx] at bX cW;exact⟨x,cW.1,cW.2,AY h args[i] x.cs mm (by have:=AX hi;omega) (by omega) bX⟩
    simp only[go_sem];refine⟨fun aj=> ?_,fun gj=> ?_⟩
    ·refine Exists.elim (hx (by clear hx;omega)) fun x db=>⟨⟨by clear hx db;omega,aj,db.2.1⟩,x.cs,⟨db.1,rfl⟩,?_⟩
     clear hx;have ha:=db.2.2;simp only[go_sem,Nd.cs];refine ai ((aD ha (fun V=>rfl)).mono ?_);clear db ha;rintro r H' m2 aK ⟨bH,rfl,rfl⟩;simp only[go_sem];have hi:i<args.length:=by omega
     have hdt:=Dx hi;refine⟨by unfold az;simp only[ay] at hn;omega,(i+1,m2),⟨⟨?_,by simp⟩,.inl rfl⟩,⟨aa h1 bH,by simp only;omega⟩,by simp only;omega⟩;simp only;rw[hdt];split<;>omega
    ·clear hx;have:args.take i=args:=jS (by omega);rw[this];simp only[eS];exact⟨by unfold az;simp only[ay] at hb;omega,h1,by omega⟩
mutual
def nU:Ex->Nat
 | .mk _ _ _ _ _ args=>oW args+1
def oW:List Ex->Nat
 |[]=>0
 |e::r=>nU e+oW r
end
def sg (s:List UInt8):Tk:=⟨6,s,0,0⟩
def kw (s:List UInt8):Tk:=⟨2,s,0,0⟩
def iw (s:List UInt8):Tk:=⟨1,s,0,0⟩
theorem TW {l:List (List UInt8)} {a:Option Addr} {n:Nat} {m:Mem} (hr:aw m a n 1 (strs l)) {k:Nat} (hk:k<l.length):Rd m (bk a k) [.string (bs l[k])]/\a≠none:=by
 have hl:l.length=n:=by have:=hr.1;simpa [strs] using this
 obtain⟨hx,h,b9⟩:=E3 hr (by omega:k<n);have e:(strs l)[k]= .string (bs l[k]):=by simp [strs]
 rw[e] at h;exact⟨h,b9⟩
def Mz:List UInt8:=[105,110,116]
def Mf:List UInt8:=[108,111,110,103]
def Yz:List UInt8:=[118,111,105,100]
def Z3 (b:Int) (nm:List UInt8):Tk:=if b=73 then kw Mz else if b=74 then kw Mf else if b=86 then kw Yz else iw nm
def abu (d:Int):List Tk:=(List.replicate d.toNat [sg [91],sg [93]]).flatten
def sC (d b:Int) (nm:List UInt8):List Tk:=Z3 b nm::abu d
def LY:Bool->List (List Tk)->List Tk
 |_,[]=>[]
 |f,t::r=>(if f=true then t else sg [44]::t)++LY false r
def lN (l:List (List Tk)):List Tk:=sg [40]::(LY true l++[sg [41]])
def aa2 (k:Int):Bool:=decide (k=15)||decide (k=16)||decide (k=17)||decide (k=18)
def aaZ (b:Bool) (t:List Tk):List Tk:=if b=true then lN [t] else t
def zK (ts:List (Bool×List Tk)) (i:Nat):List Tk:=(ts.getD i (false,[])).2
def sZ (ts:List (Bool×List Tk)) (i:Nat):List Tk:=aaZ (ts.getD i (false,[])).1 (ts.getD i (false,[])).2
def Y7 (k n:Int) (s c:List UInt8) (ty:Ty) (ts:List (Bool×List Tk)):List Tk:=
 if k=1 then[⟨3,[],n,0⟩]
 else if k=2 then[⟨4,[],n,0⟩]
 else if k=3 then[⟨5,s,0,0⟩]
 else if k=4 then[kw [110,117,108,108]]
 else if k=5 then[kw [116,104,105,115]]
 else if k=6 then[iw s]
 else if k=7 then sZ ts 0++[sg [46]]++[iw s]
 else if k=8 then[iw c]++[sg [46]]++[iw s]
 else if k=9 then sZ ts 0++[sg [91]]++zK ts 1++[sg [93]]
 else if k=10 then sZ ts 0++[sg [46]]++[iw s]++lN ((ts.drop 1).map (·.2))
 else if k=11 then[iw c]++[sg [46]]++[iw s]++lN (ts.map (·.2))
 else if k=12 then[kw [115,117,112,101,114]]++[sg [46]]++[iw s]++lN (ts.map (·.2))
 else if k=13 then[kw [110,101,119]]++[iw c]++lN (ts.map (·.2))
 else if k=14 then[kw [110,101,119]]++sC ty.dim ty.base ty.name++[sg [91]]++zK ts 0++[sg [93]]
 else if k=15 then[sg s]++sZ ts 0
 else if k=16 then sZ ts 0++[sg s]++sZ ts 1
 else if k=17 then sZ ts 0++[kw [97,115]]++sC ty.dim ty.base ty.name
 else if k=18 then sZ ts 0++[kw [105,115]]++sC ty.dim ty.base ty.name
 else if k=19 then[kw [108,101,110]]++lN [zK ts 0]
 else if k=20 then[kw Mz]++lN [zK ts 0]
 else if k=21 then[kw Mf]++lN [zK ts 0]
 else[]
def Ex.k:Ex->Int | .mk k _ _ _ _ _=>k
mutual
def n7:Ex->List Tk
 | .mk k n s c ty args=>Y7 k n s c ty (LW args)
def LW:List Ex->List (Bool×List Tk)
 |[]=>[]
 |e::r=>(aa2 e.k,n7 e)::LW r
end
abbrev cap:Nat:=800000000
theorem Dc:∀{l:List Ex},kV l=true->∀e∈l,de e=true
 |[],_,e,he=>by cases he
 |x::r,h,e,he=>by
  simp only[kV,bB] at h;rcases List.mem_cons.1 he with rfl |he
  ·exact h.1
  ·exact Dc h.2 e he
theorem DA:∀{l:List Ex} {e:Ex},e∈l->eS e<=iX l
 |[],e,he=>by cases he
 |x::r,e,he=>by
  simp only[iX];rcases List.mem_cons.1 he with rfl |he
  ·omega
  ·have:=DA he;omega
structure Sd where
 k:Int
 name:List UInt8
 ty:Ty
 tg:Nd
 ex:Nd
 a:Option Addr
 l:Nat
 cp:Nat
 b:Option Addr
 l2:Nat
 cp2:Nat
def Sd.cs (x:Sd):List Value:=[.int .i64 x.k,.string (bs x.name),.int .i64 x.ty.dim,.int .u8 x.ty.base,.string (bs x.ty.name),.int .i64 x.tg.k,.int .i64 x.tg.n,.string (bs x.tg.s),.string (bs x.tg.c),.int .i64 x.tg.ty.dim,.int .u8 x.tg.ty.base,.string (bs x.tg.ty.name),.slice x.tg.a x.tg.l x.tg.cp,.int .i64 x.ex.k,.int .i64 x.ex.n,.string (bs x.ex.s),.string (bs x.ex.c),.int .i64 x.ex.ty.dim,.int .u8 x.ex.ty.base,.string (bs x.ex.ty.name),.slice x.ex.a x.ex.l x.ex.cp,.slice x.a x.l x.cp,.slice x.b x.l2 x.cp2]
theorem Z6:cH Tryz.prog 59=some (some 23):=by kernel_rfl
theorem aaB:aM Tryz.prog 59=23:=by kernel_rfl
theorem Wa:cY Tryz.prog 59=some [.v (.int .i64 0),.v (.string (bs [])),.v (.int .i64 0),.v (.int .u8 0),.v (.string (bs [])),.v (.int .i64 0),.v (.int .i64 0),.v (.string (bs [])),.v (.string (bs [])),.v (.int .i64 0),.v (.int .u8 0),.v (.string (bs [])),.v (.slice none 0 0),.v (.int .i64 0),.v (.int .i64 0),.v (.string (bs [])),.v (.string (bs [])),.v (.int .i64 0),.v (.int .u8 0),.v (.string (bs [])),.v (.slice none 0 0),.v (.slice none 0 0),.v (.slice none 0 0)]:=by kernel_rfl
theorem ZP:fV Tryz.prog 59=true:=by kernel_rfl
theorem Yh:cH Tryz.prog 31=some none:=by kernel_rfl
theorem YD:aM Tryz.prog 31=1:=by kernel_rfl
theorem Zw:eo Tryz.prog 31=some 59:=by kernel_rfl
theorem U2:bf Tryz.prog 59 0=some (0,none,1):=by kernel_rfl
theorem U1:bf Tryz.prog 59 1=some (1,none,1):=by kernel_rfl
theorem U0:bf Tryz.prog 59 2=some (2,some 3,3):=by kernel_rfl
theorem UZ:bf Tryz.prog 59 3=some (5,some 8,8):=by kernel_rfl
theorem UY:bf Tryz.prog 59 4=some (13,some 8,8):=by kernel_rfl
theorem UX:bf Tryz.prog 59 5=some (21,none,1):=by kernel_rfl
theorem UW:bf Tryz.prog 59 6=some (22,none,1):=by kernel_rfl
structure Mc where
 fl:Int
 res:Ty
 name:List UInt8
 pa:Option Addr
 pl:Nat
 pc:Nat
 hb:Bool
 a:Option Addr
 l:Nat
 cp:Nat
def Mc.cs (x:Mc):List Value:=[.int .i64 x.fl,.int .i64 x.res.dim,.int .u8 x.res.base,.string (bs x.res.name),.string (bs x.name),.slice x.pa x.pl x.pc,.bool x.hb,.slice x.a x.l x.cp]
theorem aac:cH Tryz.prog 45=some (some 8):=by kernel_rfl
theorem aaG:aM Tryz.prog 45=8:=by kernel_rfl
theorem Wg:cY Tryz.prog 45=some [.v (.int .i64 0),.v (.int .i64 0),.v (.int .u8 0),.v (.string (bs [])),.v (.string (bs [])),.v (.slice none 0 0),.v (.bool false),.v (.slice none 0 0)]:=by kernel_rfl
theorem ZU:fV Tryz.prog 45=true:=by kernel_rfl
theorem Yj:cH Tryz.prog 30=some none:=by kernel_rfl
theorem YF:aM Tryz.prog 30=1:=by kernel_rfl
theorem Zy:eo Tryz.prog 30=some 45:=by kernel_rfl
theorem Va:bf Tryz.prog 45 0=some (0,none,1):=by kernel_rfl
theorem U9:bf Tryz.prog 45 1=some (1,some 3,3):=by kernel_rfl
theorem U8:bf Tryz.prog 45 2=some (4,none,1):=by kernel_rfl
theorem U7:bf Tryz.prog 45 3=some (5,none,1):=by kernel_rfl
theorem U6:bf Tryz.prog 45 4=some (6,none,1):=by kernel_rfl
theorem U5:bf Tryz.prog 45 5=some (7,none,1):=by kernel_rfl
structure Cc where
 fl:Int
 name:List UInt8
 super:List UInt8
 ia:Option Addr
 il:Nat
 ic:Nat
 fa:Option Addr
 fn:Nat
 fc:Nat
 ma:Option Addr
 ml:Nat
 mc:Nat
 sa:Option Addr
 sl:Nat
 sc:Nat
def Cc.cs (x:Cc):List Value:=[.int .i64 x.fl,.string (bs x.name),.string (bs x.super),.slice x.ia x.il x.ic,.slice x.fa x.fn x.fc,.slice x.ma x.ml x.mc,.slice x.sa x.sl x.sc]
theorem aak:cH Tryz.prog 33=some (some 7):=by kernel_rfl
theorem aaO:aM Tryz.prog 33=7:=by kernel_rfl
theorem Wn:cY Tryz.prog 33=some [.v (.int .i64 0),.v (.string (bs [])),.v (.string (bs [])),.v (.slice none 0 0),.v (.slice none 0 0),.v (.slice none 0 0),.v (.slice none 0 0)]:=by kernel_rfl
theorem Z1:fV Tryz.prog 33=true:=by kernel_rfl
theorem Ym:cH Tryz.prog 22=some none:=by kernel_rfl
theorem YH:aM Tryz.prog 22=1:=by kernel_rfl
theorem ZA:eo Tryz.prog 22=some 33:=by kernel_rfl
theorem Vm:bf Tryz.prog 33 0=some (0,none,1):=by kernel_rfl
theorem Vk:bf Tryz.prog 33 1=some (1,none,1):=by kernel_rfl
theorem Vj:bf Tryz.prog 33 2=some (2,none,1):=by kernel_rfl
theorem Vi:bf Tryz.prog 33 3=some (3,none,1):=by kernel_rfl
theorem Vh:bf Tryz.prog 33 4=some (4,none,1):=by kernel_rfl
theorem Vg:bf Tryz.prog 33 5=some (5,none,1):=by kernel_rfl
theorem Vf:bf Tryz.prog 33 6=some (6,none,1):=by kernel_rfl
structure Pc where
 ty:Ty
 name:List UInt8
def Pc.cs (x:Pc):List Value:=[.int .i64 x.ty.dim,.int .u8 x.ty.base,.string (bs x.ty.name),.string (bs x.name)]
theorem Z9:cH Tryz.prog 95=some (some 4):=by kernel_rfl
theorem aaE:aM Tryz.prog 95=4:=by kernel_rfl
theorem Wd:cY Tryz.prog 95=some [.v (.int .i64 0),.v (.int .u8 0),.v (.string (bs [])),.v (.string (bs []))]:=by kernel_rfl
theorem ZS:fV Tryz.prog 95=true:=by kernel_rfl
theorem Yi:cH Tryz.prog 43=some none:=by kernel_rfl
theorem YE:aM Tryz.prog 43=1:=by kernel_rfl
theorem Zx:eo Tryz.prog 43=some 95:=by kernel_rfl
theorem U4:bf Tryz.prog 95 0=some (0,some 3,3):=by kernel_rfl
theorem U3:bf Tryz.prog 95 1=some (3,none,1):=by kernel_rfl
structure Fc where
 fl:Int
 ty:Ty
 name:List UInt8
def Fc.cs (x:Fc):List Value:=[.int .i64 x.fl,.int .i64 x.ty.dim,.int .u8 x.ty.base,.string (bs x.ty.name),.string (bs x.name)]
theorem aah:cH Tryz.prog 40=some (some 5):=by kernel_rfl
theorem aaL:aM Tryz.prog 40=5:=by kernel_rfl
theorem Wj:cY Tryz.prog 40=some [.v (.int .i64 0),.v (.int .i64 0),.v (.int .u8 0),.v (.string (bs [])),.v (.string (bs []))]:=by kernel_rfl
theorem ZX:fV Tryz.prog 40=true:=by kernel_rfl
theorem Yk:cH Tryz.prog 29=some none:=by kernel_rfl
theorem YG:aM Tryz.prog 29=1:=by kernel_rfl
theorem Zz:eo Tryz.prog 29=some 40:=by kernel_rfl
theorem Ve:bf Tryz.prog 40 0=some (0,none,1):=by kernel_rfl
theorem Vd:bf Tryz.prog 40 1=some (1,some 3,3):=by kernel_rfl
theorem Vb:bf Tryz.prog 40 2=some (4,none,1):=by kernel_rfl
theorem aaH:aM Tryz.prog 28=1:=by kernel_rfl
attribute [go_sem] Z6 aaB Wa ZP Yh YD Zw U2 U1 U0 UZ UY UX UW aac aaG Wg ZU Yj YF Zy Va U9 U8 U7 U6 U5 aak aaO Wn Z1 Ym YH ZA Vm Vk Vj Vi Vh Vg Vf Z9 aaE Wd ZS Yi YE Zx U4 U3 aah aaL Wj ZX Yk YG Zz Ve Vd Vb aaH
def lY (n:Nat) (B:Nat->Bool):Bool:=(List.range n).all B
theorem I1 {n:Nat} {B:Nat->Bool}:lY (n+1) B=(lY n B&&B n):=by simp [lY,List.range_succ,List.all_append]
theorem Lt {n k:Nat} {B:Nat->Bool} (hk:k<n) (h:B k=false):lY n B=false:=by
 simp only[lY,List.all_eq_false,List.mem_range];exact⟨k,hk,by simp [h]⟩
theorem Zs (f:FuncId) (B:Nat->Bool) (a:Option Addr) (n c:Nat) (a2:Option Addr) (n2 c2:Nat) (xs ys:List Value) (m:Mem) (hr:aw m a n 8 xs) (rp:aw m a2 n2 8 ys) (hn:n<=ay) (ao:dp Tryz.prog f=true)
  (hx:∀i,i<n->n=n2->∃X Y:Nd,(xs.drop (i * 8)).take 8=X.cs/\(ys.drop (i * 8)).take 8=Y.cs/\∀m',af m m' ->aL f [.v (.agg ⟨X.cs⟩),.v (.agg ⟨Y.cs⟩)] m' (.bool (B i))):
  aL 270 [.v (.slice a n c),.v (.slice a2 n2 c2),.v (.func (.func f) ⟨[]⟩ ⟨[]⟩)] m (.bool (decide (n=n2)&&lY n B)):=by
 refine br aq Tryz.func270 ?_
 ·simp only[go_sem];refine⟨fun b9=> ?_,fun heq=> ?_⟩
  ·have:¬n=n2:=by clear hx;omega
   rw[ab this];rfl
  ·have heq:n=n2:=by clear hx;omega
   subst heq;refine gC aq (fun x:Nat×Mem=>⟨[⟨1,[],.v (.slice a2 n c2)⟩,⟨2,[],.v (.func (.func f) ⟨[]⟩ ⟨[]⟩)⟩,⟨15,[],.v (.slice a n c)⟩,⟨16,[],.v (.int .i64 n)⟩,⟨17,[],.v (.int .i64 x.1)⟩],[],[],[],0,x.2⟩)
    (fun x=>af m x.2/\x.1<=n/\lY x.1 B=true) (fun x=>n - x.1) (0,m) (fun _ _=>aC _) (fun x hx=>hx.1) ?_ ?_ ?_
   ·simp only[go_sem];rfl
   ·exact⟨.inl rfl,aF _,rfl⟩
   ·rintro⟨k,mm⟩ ⟨h1,h2,h3⟩;simp only at h1 h2 h3;have bT:bb.own f=false:=rfl;have hy:∀(hk:k<n),∃X Y:Nd,(Rd mm (bk a (k * 8)) X.cs/\a≠none)/\(Rd mm (bk a2 (k * 8)) Y.cs/\a2≠none)/\aL f [.v (.agg ⟨X.cs⟩),.v (.agg ⟨Y.cs⟩)] mm (.bool (B k)):=fun hk=>by
     obtain⟨X,Y,e1,e2,e3⟩:=hx k hk rfl;have r1:=dM (aN h1 hr) hk;have r2:=dM (aN h1 rp) hk;rw[e1] at r1;rw[e2] at r2;exact⟨X,Y,r1,r2,e3 mm h1⟩
    clear hx;simp only[go_sem,bT];refine⟨fun aj=> ?_,fun gj=>⟨h1,?_⟩⟩
    ·have hk:k<n:=by clear hy;omega
     refine Exists.elim (hy hk) fun X bK=>Exists.elim bK fun Y fz=>⟨⟨by clear hy bK fz;omega,aj,fz.1.2⟩,X.cs,⟨fz.1.1,rfl⟩,?_⟩
     clear hy bK;have ha:=fz.2.2;simp only[go_sem,bT,Nd.cs];refine⟨⟨by clear fz ha;omega,aj,fz.2.1.2⟩,Y.cs,⟨fz.2.1.1,rfl⟩,?_⟩;clear fz;simp only[go_sem,bT,Nd.cs];refine⟨ao,bD ((aD ha (fun V=>rfl)).mono ?_)⟩;clear ha;rintro r H' m2 aK ⟨bH,rfl,rfl⟩;simp only[go_sem];refine⟨fun hb=>⟨aa h1 bH,?_⟩,fun hb=>⟨by unfold az;simp only[ay] at hn;omega,(k+1,m2),⟨by simp,.inl rfl⟩,⟨aa h1 bH,by simp only;omega,?_⟩,by simp only;omega⟩⟩
     ·rw[Lt hk hb];simp
     ·simp only;rw[I1,h3,hb];rfl
    ·have:k=n:=by clear hy;omega
     rw[<- this,h3];simp
theorem Ml (f:FuncId) (B:Nat->Bool) (a:Option Addr) (n c:Nat) (a2:Option Addr) (n2 c2:Nat) (xs ys:List Value) (m:Mem) (hr:aw m a n 23 xs) (rp:aw m a2 n2 23 ys) (hn:n<=ay) (ao:dp Tryz.prog f=true)
  (hx:∀i,i<n->n=n2->∃X Y:Sd,(xs.drop (i * 23)).take 23=X.cs/\(ys.drop (i * 23)).take 23=Y.cs/\∀m',af m m' ->aL f [.v (.agg ⟨X.cs⟩),.v (.agg ⟨Y.cs⟩)] m' (.bool (B i))):
  aL 219 [.v (.slice a n c),.v (.slice a2 n2 c2),.v (.func (.func f) ⟨[]⟩ ⟨[]⟩)] m (.bool (decide (n=n2)&&lY n B)):=by
 refine br aq Tryz.func219 ?_
 ·simp only[go_sem];refine⟨fun b9=> ?_,fun heq=> ?_⟩
  ·have:¬n=n2:=by clear hx;omega
   rw[ab this];rfl
  ·have heq:n=n2:=by clear hx;omega
   subst heq;refine gC aq (fun x:Nat×Mem=>⟨[⟨1,[],.v (.slice a2 n c2)⟩,⟨2,[],.v (.func (.func f) ⟨[]⟩ ⟨[]⟩)⟩,⟨15,[],.v (.slice a n c)⟩,⟨16,[],.v (.int .i64 n)⟩,⟨17,[],.v (.int .i64 x.1)⟩],[],[],[],0,x.2⟩)
    (fun x=>af m x.2/\x.1<=n/\lY x.1 B=true) (fun x=>n - x.1) (0,m) (fun _ _=>aC _) (fun x hx=>hx.1) ?_ ?_ ?_
   ·simp only[go_sem];rfl
   ·exact⟨.inl rfl,aF _,rfl⟩
   ·rintro⟨k,mm⟩ ⟨h1,h2,h3⟩;simp only at h1 h2 h3;have bT:bb.own f=false:=rfl;have hy:∀(hk:k<n),∃X Y:Sd,(Rd mm (bk a (k * 23)) X.cs/\a≠none)/\(Rd mm (bk a2 (k * 23)) Y.cs/\a2≠none)/\aL f [.v (.agg ⟨X.cs⟩),.v (.agg ⟨Y.cs⟩)] mm (.bool (B k)):=fun hk=>by
     obtain⟨X,Y,e1,e2,e3⟩:=hx k hk rfl;have r1:=dM (aN h1 hr) hk;have r2:=dM (aN h1 rp) hk;rw[e1] at r1;rw[e2] at r2;exact⟨X,Y,r1,r2,e3 mm h1⟩
    clear hx;simp only[go_sem,bT];refine⟨fun aj=> ?_,fun gj=>⟨h1,?_⟩⟩
    ·have hk:k<n:=by clear hy;omega
     refine Exists.elim (hy hk) fun X bK=>Exists.elim bK fun Y fz=>⟨⟨by clear hy bK fz;omega,aj,fz.1.2⟩,X.cs,⟨fz.1.1,rfl⟩,?_⟩
     clear hy bK;have ha:=fz.2.2;simp only[go_sem,bT,Sd.cs];refine⟨⟨by clear fz ha;omega,aj,fz.2.1.2⟩,Y.cs,⟨fz.2.1.1,rfl⟩,?_⟩;clear fz;simp only[go_sem,bT,Sd.cs];refine⟨ao,bD ((aD ha (fun V=>rfl)).mono ?_)⟩;clear ha;rintro r H' m2 aK ⟨bH,rfl,rfl⟩;simp only[go_sem];refine⟨fun hb=>⟨aa h1 bH,?_⟩,fun hb=>⟨by unfold az;simp only[ay] at hn;omega,(k+1,m2),⟨by simp,.inl rfl⟩,⟨aa h1 bH,by simp only;omega,?_⟩,by simp only;omega⟩⟩
     ·rw[Lt hk hb];simp
     ·simp only;rw[I1,h3,hb];rfl
    ·have:k=n:=by clear hy;omega
     rw[<- this,h3];simp
def Ty.eq (x y:Ty):Bool:=decide (x.dim=y.dim)&&(decide (x.base=y.base)&&decide (x.name=y.name))
def Pc.eq (x y:Pc):Bool:=decide (x.ty.dim=y.ty.dim)&&(decide (x.ty.base=y.ty.base)&&(decide (x.ty.name=y.ty.name)&&decide (x.name=y.name)))
def Fc.eq (x y:Fc):Bool:=decide (x.fl=y.fl)&&(decide (x.ty.dim=y.ty.dim)&&(decide (x.ty.base=y.ty.base)&&(decide (x.ty.name=y.ty.name)&&decide (x.name=y.name))))
structure Md where
 fl:Int
 res:Ty
 name:List UInt8
 params:List Pc
 hb:Bool
 body:List St
structure Cd where
 fl:Int
 name:List UInt8
 super:List UInt8
 ifs:List (List UInt8)
 fields:List Fc
 methods:List Md
 init:List St
def fD {α:Type} (e:α->α->Bool):List α->List α->Bool
 |[],[]=>true
 |a::r,b::t=>e a b&&fD e r t
 |_,_=>false
def pS {α:Type} (e:α->α->Bool) (l l2:List α) (i:Nat):Bool:=match l[i]?,l2[i]? with |some a,some b=>e a b |_,_=>false
theorem Rm {n:Nat} {B:Nat->Bool}:lY (n+1) B=(B 0&&lY n fun i=>B (i+1)):=by
 simp only[lY,List.range_succ_eq_map,List.all_cons,List.all_map];rfl
theorem A7 {α:Type} (e:α->α->Bool):∀(l l2:List α),fD e l l2=(decide (l.length=l2.length)&&lY l.length (pS e l l2))
 |[],[]=>rfl
 |[],b::t=>by simp [fD]
 |a::r,[]=>by simp [fD]
 |a::r,b::t=>by
  rw[fD,A7 e r t,dk,dk,Rm];have e1:decide (r.length+1=t.length+1)=decide (r.length=t.length):=by rw[decide_eq_decide];omega
  have e2:pS e (a::r) (b::t) 0=e a b:=rfl;have e3:(fun i=>pS e (a::r) (b::t) (i+1))=pS e r t:=by funext i;simp only[pS,List.getElem?_cons_succ]
  rw[e1,e2,e3];cases e a b<;>cases decide (r.length=t.length)<;>rfl
theorem L0 {α:Type} {e:α->α->Bool} {l l2:List α} {i:Nat} (h:i<l.length) (h2:i<l2.length):pS e l l2 i=e l[i] l2[i]:=by
 simp only[pS,List.getElem?_eq_getElem h,List.getElem?_eq_getElem h2]
mutual
def nG:Ex->Ex->Bool
 | .mk k n s c ty args,.mk k' n' s' c' ty' qD=>decide (k=k')&&decide (n=n')&&decide (s=s')&&decide (c=c')&&Ty.eq ty ty' &&uA args qD
def uA:List Ex->List Ex->Bool
 |[],[]=>true
 |a::r,b::t=>nG a b&&uA r t
 |[],_::_=>false
 |_::_,[]=>false
end
theorem IM:∀(l l2:List Ex),uA l l2=fD nG l l2
 |[],[]=>by simp only[uA,fD]
 |a::r,b::t=>by simp only[uA,fD,IM r t]
 |[],_::_=>by simp only[uA,fD]
 |_::_,[]=>by simp only[uA,fD]
mutual
def eB:St->St->Bool
 | .mk k nm ty tg ex body alt,.mk k' nm' ty' zJ As zd zD=>decide (k=k')&&decide (nm=nm')&&Ty.eq ty ty' &&nG tg zJ&&nG ex As&&mZ body zd&&mZ alt zD
def mZ:List St->List St->Bool
 |[],[]=>true
 |a::r,b::t=>eB a b&&mZ r t
 |[],_::_=>false
 |_::_,[]=>false
end
theorem DU:∀(l l2:List St),mZ l l2=fD eB l l2
 |[],[]=>by simp only[mZ,fD]
 |a::r,b::t=>by simp only[mZ,fD,DU r t]
 |[],_::_=>by simp only[mZ,fD]
 |_::_,[]=>by simp only[mZ,fD]
/-! In memory. -/
structure StOk (k:Int) (nm:List UInt8) (ty:Ty) (l l2:Nat):Prop where
 k:az k
 nm:nm.length<=ay
 ty:uE ty
 l:l<=ay
 l2:l2<=ay
mutual
def et (m:Mem):St->List Value->Prop
 | .mk k nm ty tg ex body alt,cs=>∃x:Sd,(cs=x.cs/\x.k=k/\x.name=nm/\x.ty=ty)/\a8 m tg x.tg.cs/\a8 m ex x.ex.cs/\(x.l=body.length/\x.l<=x.cp/\x.l2=alt.length/\x.l2<=x.cp2)/\StOk k nm ty body.length alt.length/\
   ∃xs ys,aw m x.a x.l 23 xs/\aw m x.b x.l2 23 ys/\bL m body xs/\bL m alt ys
def bL (m:Mem):List St->List Value->Prop
 |[],_=>True
 |e::r,xs=>et m e (xs.take 23)/\bL m r (xs.drop 23)
end
theorem rT {m:Mem}:∀{l:List St} {xs:List Value} {i:Nat} (_:bL m l xs) (hi:i<l.length),et m l[i] ((xs.drop (i * 23)).take 23)
 |[],_,_,_,hi=>absurd hi (Nat.not_lt_zero _)
 |e::r,xs,0,h,_=>by simp only[bL] at h;simpa using h.1
 |e::r,xs,i+1,h,hi=>by
  simp only[bL] at h;have:=rT (i:=i) h.2 (by simpa using hi);rw[List.drop_drop] at this;rw[show(i+1) * 23=23+i * 23 by omega];exact this
mutual
theorem Jf {m m' :Mem} (hle:m.le m'):∀(e:St) (cs:List Value),et m e cs->et m' e cs
 | .mk k nm ty tg ex body alt,cs,h=>by
  simp only[et] at h ⊢;obtain⟨x,h1,h2,h3,h4,h5,xs,ys,h6,h7,h8,h9⟩:=h;exact⟨x,h1,tJ hle _ _ h2,tJ hle _ _ h3,h4,h5,xs,ys,yN hle h6,yN hle h7,AQ hle body xs h8,AQ hle alt ys h9⟩
theorem AQ {m m' :Mem} (hle:m.le m'):∀(l:List St) (xs:List Value),bL m l xs->bL m' l xs
 |[],_,_=>by simp only[bL]
 |e::r,xs,h=>by
  simp only[bL] at h ⊢;exact⟨Jf hle e _ h.1,AQ hle r _ h.2⟩
end
theorem cL {m m' :Mem} {l:List St} {cs:List Value} (hle:af m m') (h:bL m l cs):bL m' l cs:=by
 rcases hle with rfl |hle
 ·exact h
 ·exact AQ hle l cs h
theorem xT {m m' :Mem} {l:St} {cs:List Value} (hle:af m m') (h:et m l cs):et m' l cs:=by
 rcases hle with rfl |hle
 ·exact h
 ·exact Jf hle l cs h
theorem D9 {m:Mem} {e:St} {cs:List Value} (h:et m e cs):∃x:Sd,cs=x.cs:=by
 cases e with
 |mk k nm ty tg ex body alt=>
  simp only[et] at h;obtain⟨x,h1,_⟩:=h;exact⟨x,h1.1⟩
def dZ {α:Type} (R:α->List Value->Prop) (sz:Nat):List α->List Value->Prop
 |[],_=>True
 |e::r,xs=>R e (xs.take sz)/\dZ R sz r (xs.drop sz)
theorem oY {α:Type} {R:α->List Value->Prop} {sz:Nat}:∀{l:List α} {xs:List Value} {i:Nat} (_:dZ R sz l xs) (hi:i<l.length),R l[i] ((xs.drop (i * sz)).take sz)
 |[],_,_,_,hi=>absurd hi (Nat.not_lt_zero _)
 |e::r,xs,0,h,_=>by simpa using h.1
 |e::r,xs,i+1,h,hi=>by
  have:=oY (i:=i) h.2 (by simpa using hi);rw[List.drop_drop] at this;rw[show(i+1) * sz=sz+i * sz by rw[Nat.succ_mul,Nat.add_comm]];exact this
theorem jf {α:Type} {R R' :α->List Value->Prop} {sz:Nat} (h:∀a cs,R a cs->R' a cs):∀{l:List α} {xs:List Value},dZ R sz l xs->dZ R' sz l xs
 |[],_,_=>trivial
 |_::_,_,hl=>⟨h _ _ hl.1,jf h hl.2⟩
def flat {α:Type} (f:α->List Value) (l:List α):List Value:=(l.map f).flatten
theorem mK {α:Type} {f:α->List Value} {sz:Nat} (hf:∀x,(f x).length=sz):∀{l:List α} {i:Nat} (hi:i<l.length),((flat f l).drop (i * sz)).take sz=f l[i]
 |[],_,hi=>absurd hi (Nat.not_lt_zero _)
 |x::r,0,_=>by
  simp only[flat,aG,List.flatten_cons,Nat.zero_mul,List.drop_zero,List.getElem_cons_zero];rw[<- hf x,List.take_left]
 |x::r,i+1,hi=>by
  have:=mK hf (l:=r) (i:=i) (by simpa using hi);simp only[List.getElem_cons_succ];rw[<- this,Nat.succ_mul,Nat.add_comm,<- List.drop_drop];congr 2
  simp only[flat,aG,List.flatten_cons];rw[<- hf x,List.drop_left]
structure PcOk (p:Pc):Prop where
 ty:uE p.ty
 name:p.name.length<=ay
structure FcOk (p:Fc):Prop where
 fl:az p.fl
 ty:uE p.ty
 name:p.name.length<=ay
structure MdOk (d:Md):Prop where
 fl:az d.fl
 res:uE d.res
 name:d.name.length<=ay
 pl:d.params.length<=ay
 ps:∀p∈d.params,PcOk p
 l:d.body.length<=ay
def ig (m:Mem) (d:Md) (cs:List Value):Prop:=∃x:Mc,(cs=x.cs/\x.fl=d.fl/\x.res=d.res/\x.name=d.name/\x.hb=d.hb)/\(x.pl=d.params.length/\x.pl<=x.pc/\x.l=d.body.length/\x.l<=x.cp)/\MdOk d/\
 aw m x.pa x.pl 4 (flat Pc.cs d.params)/\∃xs,aw m x.a x.l 23 xs/\bL m d.body xs
structure CdOk (d:Cd):Prop where
 fl:az d.fl
 name:d.name.length<=ay
 super:d.super.length<=ay
 il:d.ifs.length<=ay
 ifs:∀s∈d.ifs,s.length<=ay
 fn:d.fields.length<=ay
 fs:∀s∈d.fields,FcOk s
 ml:d.methods.length<=ay
 l:d.init.length<=ay
def gO (m:Mem) (d:Cd) (cs:List Value):Prop:=∃x:Cc,(cs=x.cs/\x.fl=d.fl/\x.name=d.name/\x.super=d.super)/\(x.il=d.ifs.length/\x.il<=x.ic/\x.fn=d.fields.length/\x.fn<=x.fc/\x.ml=d.methods.length/\x.ml<=x.mc/\x.sl=d.init.length/\x.sl<=x.sc)/\CdOk d/\
 aw m x.ia x.il 1 (strs d.ifs)/\aw m x.fa x.fn 5 (flat Fc.cs d.fields)/\∃xs ys,aw m x.ma x.ml 8 xs/\dZ (ig m) 8 d.methods xs/\aw m x.sa x.sl 23 ys/\bL m d.init ys
theorem lA {m m' :Mem} (hle:af m m') {d:Md} {cs:List Value} (h:ig m d cs):ig m' d cs:=by
 obtain⟨x,h1,h2,h3,h4,xs,h5,h6⟩:=h;exact⟨x,h1,h2,h3,aN hle h4,xs,aN hle h5,cL hle h6⟩
theorem vK {m m' :Mem} (hle:af m m') {d:Cd} {cs:List Value} (h:gO m d cs):gO m' d cs:=by
 obtain⟨x,h1,h2,h3,h4,h5,xs,ys,h6,h7,h8,h9⟩:=h;exact⟨x,h1,h2,h3,aN hle h4,aN hle h5,xs,ys,aN hle h6,jf (fun _ _=>lA hle) h7,aN hle h8,cL hle h9⟩
def fi (m:Mem) (l:List Cd) (a:Option Addr) (n c:Nat):Prop:=n=l.length/\n<=c/\n<=ay/\∃xs,aw m a n 7 xs/\dZ (gO m) 7 l xs
theorem jv {m m' :Mem} (hle:af m m') {l:List Cd} {a:Option Addr} {n c:Nat} (h:fi m l a n c):fi m' l a n c:=by
 obtain⟨h1,h2,h3,xs,h4,h5⟩:=h;exact⟨h1,h2,h3,xs,aN hle h4,jf (fun _ _=>vK hle) h5⟩
mutual
def fS:St->Nat
 | .mk _ _ _ _ _ body alt=>max (ct body) (ct alt)+1
def ct:List St->Nat
 |[]=>0
 |e::r=>max (fS e) (ct r)
end
theorem rH:∀{l:List St} {e:St},e∈l->fS e<=ct l
 |[],e,he=>by cases he
 |x::r,e,he=>by
  simp only[ct];rcases List.mem_cons.1 he with rfl |he
  ·omega
  ·have:=rH he;omega
theorem Ta {m:Mem} {l l2:List Ex} {xs ys:List Value} (h1:dI m l xs) (h2:dI m l2 ys) {f:FuncId} (hf:∀a∈l,∀b∈l2,∀ca cb m',af m m' ->a8 m' a ca->a8 m' b cb->aL f [.v (.agg ⟨ca⟩),.v (.agg ⟨cb⟩)] m' (.bool (nG a b))):
  ∀i,i<l.length->l.length=l2.length->∃X Y:Nd,(xs.drop (i * 8)).take 8=X.cs/\(ys.drop (i * 8)).take 8=Y.cs/\∀m',af m m' ->aL f [.v (.agg ⟨X.cs⟩),.v (.agg ⟨Y.cs⟩)] m' (.bool (pS nG l l2 i)):=fun i hi he=>by
 have r1:=tX h1 hi;have r2:=tX h2 (by omega:i<l2.length);obtain⟨X,hX⟩:=rN r1;obtain⟨Y,hY⟩:=rN r2;rw[hX] at r1;rw[hY] at r2;refine⟨X,Y,hX,hY,fun m' hle=> ?_⟩;rw[L0 hi (by omega)];exact hf _ (List.getElem_mem hi) _ (List.getElem_mem _) _ _ m' hle (bY hle r1) (bY hle r2)
theorem EX:∀(h:Nat) (a b:Ex) (ca cb:List Value) (m:Mem),eS a<=h->a8 m a ca->a8 m b cb->aL 218 [.v (.agg ⟨ca⟩),.v (.agg ⟨cb⟩)] m (.bool (nG a b))
 |0,.mk k n s c ty args,b,ca,cb,m,hd,_,_=>by simp [eS] at hd
 |h+1,.mk k n s c ty args,.mk k' n' s' c' ty' qD,ca,cb,m,hd,ha,hb=>by
  simp only[a8] at ha hb;obtain⟨a,cp,xs,rfl,bQ,hr,ao,cJ⟩:=ha;obtain⟨a',cp',xs',rfl,hcp',hr',hok',hes'⟩:=hb;simp only[eS] at hd;have hE:=fun m' (hle:af m m')=>Zs 218 (pS nG args qD) a args.length cp a' qD.length cp' xs xs' m' (aN hle hr) (aN hle hr') ao.2.2.2.2.2 (by kernel_rfl)
   (Ta (xP hle cJ) (xP hle hes') fun x hx y hy cx cy fP bH r1 r2=>EX h x y cx cy fP (by have:=DA hx;omega) r1 r2)
  simp only[<- A7] at hE;refine enter bb aq Tryz.func218 rfl rfl (by kernel_rfl) rfl ?_ ?_
  ·simp only[go_sem,en]
  ·simp only[go_sem,en,dD];refine⟨fun h=>ai ((hE m (.inl rfl)).mono ?_),fun h=> ?_⟩
   ·clear hE;rintro r H' m2 aK ⟨bH,rfl,rfl⟩;simp only[go_sem];refine⟨bH,?_⟩;simp only[nG,IM,Ty.eq,h,aW,Bool.true_and]
   ·clear hE;simp only[nG,Ty.eq];rcases h with (((h |h) |h) |h) |h |h |h<;>simp [h]
theorem Lg {α N:Type} {R:Mem->α->List Value->Prop} {vh:N->List Value} {sz:Nat} {e:α->α->Bool} (Nx:∀m m' a c,af m m' ->R m a c->R m' a c) (hN:∀m a c,R m a c->∃x:N,c=vh x) {m:Mem} {l l2:List α} {xs ys:List Value}
  (h1:∀i (hi:i<l.length),R m l[i] ((xs.drop (i * sz)).take sz)) (h2:∀i (hi:i<l2.length),R m l2[i] ((ys.drop (i * sz)).take sz)) {f:FuncId} (hf:∀a∈l,∀b∈l2,∀ca cb m',af m m' ->R m' a ca->R m' b cb->aL f [.v (.agg ⟨ca⟩),.v (.agg ⟨cb⟩)] m' (.bool (e a b))):
  ∀i,i<l.length->l.length=l2.length->∃X Y:N,(xs.drop (i * sz)).take sz=vh X/\(ys.drop (i * sz)).take sz=vh Y/\∀m',af m m' ->aL f [.v (.agg ⟨vh X⟩),.v (.agg ⟨vh Y⟩)] m' (.bool (pS e l l2 i)):=fun i hi he=>by
 have r1:=h1 i hi;have r2:=h2 i (by omega:i<l2.length);obtain⟨X,hX⟩:=hN _ _ _ r1;obtain⟨Y,hY⟩:=hN _ _ _ r2;rw[hX] at r1;rw[hY] at r2;refine⟨X,Y,hX,hY,fun m' hle=> ?_⟩;rw[L0 hi (by omega)];exact hf _ (List.getElem_mem hi) _ (List.getElem_mem _) _ _ m' (hle) (Nx _ _ _ _ hle r1) (Nx _ _ _ _ hle r2)
theorem lC:∀(h:Nat) (a b:St) (ca cb:List Value) (m:Mem),fS a<=h->et m a ca->et m b cb->aL 119 [.v (.agg ⟨ca⟩),.v (.agg ⟨cb⟩)] m (.bool (eB a b))
 |0,.mk k nm ty tg ex body alt,b,ca,cb,m,hd,_,_=>by simp [fS] at hd
 |h+1,.mk k nm ty tg ex body alt,.mk k' nm' ty' zJ As zd zD,ca,cb,m,hd,ha,hb=>by
  simp only[et] at ha hb;obtain⟨x,⟨rfl,rfl,rfl,rfl⟩,cT,hex,⟨hl,bQ,cd,dn⟩,ao,xs,ys,r1,r2,s1,s2⟩:=ha;obtain⟨x',⟨rfl,rfl,rfl,rfl⟩,htg',hex',⟨lq,hcp',hl2',hcp2'⟩,hok',xs',ys',r1',r2',s1',s2'⟩:=hb;simp only[fS] at hd;have hT:=fun m' (hle:af m m')=>EX _ tg zJ x.tg.cs x'.tg.cs m' (aC _) (bY hle cT) (bY hle htg')
  have hX:=fun m' (hle:af m m')=>EX _ ex As x.ex.cs x'.ex.cs m' (aC _) (bY hle hex) (bY hle hex')
  have hB:∀m',af m m' ->aL 219 [.v (.slice x.a x.l x.cp),.v (.slice x'.a x'.l x'.cp),.v (.func (.func 119) ⟨[]⟩ ⟨[]⟩)] m' (.bool (mZ body zd)):=fun m' hle=>by
   have hf:=Lg (R:=et) (vh:=Sd.cs) (e:=eB) (f:=119) (fun _ _ _ _=>xT) (fun _ _ _=>D9) (fun i hi=>rT (cL hle s1) hi) (fun i hi=>rT (cL hle s1') hi)
    (fun a ha b hb ca cb m2 bH=>lC h a b ca cb m2 (by have:=rH ha;omega))
   rw[DU,A7];rw[<- hl,<- lq] at hf ⊢;exact Ml _ _ x.a x.l x.cp x'.a x'.l x'.cp xs xs' m' (aN hle r1) (aN hle r1') (by rw[hl];exact ao.l) (by kernel_rfl) hf
  have hA:∀m',af m m' ->aL 219 [.v (.slice x.b x.l2 x.cp2),.v (.slice x'.b x'.l2 x'.cp2),.v (.func (.func 119) ⟨[]⟩ ⟨[]⟩)] m' (.bool (mZ alt zD)):=fun m' hle=>by
   have hf:=Lg (R:=et) (vh:=Sd.cs) (e:=eB) (f:=119) (fun _ _ _ _=>xT) (fun _ _ _=>D9) (fun i hi=>rT (cL hle s2) hi) (fun i hi=>rT (cL hle s2') hi)
    (fun a ha b hb ca cb m2 bH=>lC h a b ca cb m2 (by have:=rH ha;omega))
   rw[DU,A7];rw[<- cd,<- hl2'] at hf ⊢;exact Ml _ _ x.b x.l2 x.cp2 x'.b x'.l2 x'.cp2 ys ys' m' (aN hle r2) (aN hle r2') (by rw[cd];exact ao.l2) (by kernel_rfl) hf
  clear s1 s2 s1' s2';refine enter bb aq Tryz.func119 rfl rfl (by kernel_rfl) rfl ?_ ?_
  ·simp only[go_sem,Sd.cs,Nd.cs]
  ·simp only[go_sem,Sd.cs,Nd.cs,dD];refine⟨fun h=>ai ((aD (hT m (.inl rfl)) (fun V=>rfl)).mono ?_),fun h=> ?_⟩
   ·clear hT;rintro r H' m2 aK ⟨l2,rfl,rfl⟩;simp only[go_sem,Sd.cs,Nd.cs];have e0:eB (St.mk x.k x.name x.ty tg ex body alt) (St.mk x'.k x'.name x'.ty zJ As zd zD)=(nG tg zJ&&nG ex As&&mZ body zd&&mZ alt zD):=by simp only[eB,Ty.eq,h,aW,Bool.true_and]
    refine⟨fun h1=>ai ((aD (hX m2 l2) (fun V=>rfl)).mono ?_),fun h1=> ?_⟩
    ·clear hX;rintro r H' m3 cA ⟨l3,rfl,rfl⟩;simp only[go_sem,Sd.cs,Nd.cs];refine⟨fun h2=>ai ((hB m3 (aa l2 l3)).mono ?_),fun h2=> ?_⟩
     ·clear hB;rintro r H' m4 gW ⟨l4,rfl,rfl⟩;simp only[go_sem,Sd.cs,Nd.cs];refine⟨fun h3=>ai ((hA m4 (aa (aa l2 l3) l4)).mono ?_),fun h3=> ?_⟩
      ·clear hA;rintro r H' m5 mq ⟨l5,rfl,rfl⟩;simp only[go_sem,Sd.cs,Nd.cs];refine⟨aa (aa (aa l2 l3) l4) l5,?_⟩;rw[e0,h1,h2,h3];rfl
      ·refine⟨aa (aa l2 l3) l4,?_⟩;rw[e0,h3,Bool.and_false];rfl
     ·refine⟨aa l2 l3,?_⟩;rw[e0,h2,Bool.and_false];rfl
    ·refine⟨l2,?_⟩;rw[e0,h1];rfl
   ·clear hT hX hB hA;simp only[eB,Ty.eq];rcases h with (h |h) |h |h |h<;>simp [h]
theorem JM {m:Mem} {e:Md} {cs:List Value} (h:ig m e cs):∃x:Mc,cs=x.cs:=by
 obtain⟨x,h1,_⟩:=h;exact⟨x,h1.1⟩
def iu (n:Nat) (B:Nat->Bool):Bool:=(List.range n).any B
theorem A6 {n:Nat} {B:Nat->Bool}:iu (n+1) B=(iu n B||B n):=by simp [iu,List.range_succ,List.any_append]
theorem Bl {n k:Nat} {B:Nat->Bool} (hk:k<n) (h:B k=true):iu n B=true:=by
 simp only[iu,List.any_eq_true,List.mem_range];exact⟨k,hk,h⟩
theorem I0 {α:Type} (p:α->Bool):∀(l:List α) (B:Nat->Bool),(∀i (h:i<l.length),B i=p l[i])->iu l.length B=l.any p
 |[],_,_=>rfl
 |x::r,B,h=>by
  have h0:=h 0 (by simp);have hr:=I0 p r (fun i=>B (i+1)) fun i hi=>h (i+1) (by simpa using hi)
  rw[List.any_cons,<- hr,dk];simp only[iu,List.range_succ_eq_map,List.any_cons,List.any_map,h0,List.getElem_cons_zero];rfl
theorem Zd (f:FuncId) (B:Nat->Bool) (a:Option Addr) (n c:Nat) (xs:List Value) (m:Mem) (hr:aw m a n 4 xs) (hn:n<=ay) (ao:dp Tryz.prog f=true)
  (hx:∀i,i<n->∃X:Pc,(xs.drop (i * 4)).take 4=X.cs/\∀m',af m m' ->aL f [.v (.agg ⟨X.cs⟩)] m' (.bool (B i))):
  FnH Tryz.prog 275 [.v (.slice a n c),.v (.func (.func f) ⟨[]⟩ ⟨[]⟩)] ⟨[],[]⟩ m fun r H' m' =>af m m' /\H' =⟨[],[]⟩/\∃i:Int,r= .v (.int .i64 i)/\decide (0<=i)=iu n B:=by
 refine br aq Tryz.func275 ?_
 ·simp only[go_sem];refine gC aq (fun x:Nat×Mem=>⟨[⟨0,[],.v (.slice a n c)⟩,⟨1,[],.v (.func (.func f) ⟨[]⟩ ⟨[]⟩)⟩,⟨7,[],.v (.int .i64 n)⟩,⟨8,[],.v (.int .i64 x.1)⟩],[],[],[],0,x.2⟩)
   (fun x=>af m x.2/\x.1<=n/\iu x.1 B=false) (fun x=>n - x.1) (0,m) (fun _ _=>aC _) (fun x hx=>hx.1) ?_ ?_ ?_
  ·simp only[go_sem];rfl
  ·exact⟨.inl rfl,aF _,rfl⟩
  ·rintro⟨k,mm⟩ ⟨h1,h2,h3⟩;simp only at h1 h2 h3;have bT:bb.own f=false:=rfl;have hy:∀(hk:k<n),∃X:Pc,(Rd mm (bk a (k * 4)) X.cs/\a≠none)/\aL f [.v (.agg ⟨X.cs⟩)] mm (.bool (B k)):=fun hk=>by
     obtain⟨X,e1,e3⟩:=hx k hk;have r1:=dM (aN h1 hr) hk;rw[e1] at r1;exact⟨X,r1,e3 mm h1⟩
   clear hx;simp only[go_sem,bT];refine⟨fun aj=> ?_,fun gj=>⟨h1,?_⟩⟩
   ·have hk:k<n:=by clear hy;omega
    refine Exists.elim (hy hk) fun X bK=>⟨⟨by clear hy bK;omega,aj,bK.1.2⟩,X.cs,⟨bK.1.1,rfl⟩,?_⟩
    clear hy;have ha:=bK.2;clear bK;simp only[go_sem,bT,Pc.cs];refine⟨ao,bD ((aD ha (fun V=>rfl)).mono ?_)⟩;clear ha;rintro r H' m' hm ⟨hle,rfl,rfl⟩;simp only[go_sem];refine⟨fun hb=>⟨aa h1 hle,?_⟩,fun hb=>⟨by unfold az;simp only[ay] at hn;omega,(k+1,m'),⟨by simp,.inl rfl⟩,⟨aa h1 hle,by simp only;omega,?_⟩,by simp only;omega⟩⟩
    ·rw[Bl hk hb];simp
    ·simp only;rw[A6,h3,hb];rfl
   ·have:k=n:=by clear hy;omega
    rw[<- this,h3];rfl
theorem ZB (f:FuncId) (B:Nat->Bool) (a:Option Addr) (n c:Nat) (xs:List Value) (m:Mem) (hr:aw m a n 4 xs) (hn:n<=ay) (ao:dp Tryz.prog f=true)
  (hx:∀i,i<n->∃X:Pc,(xs.drop (i * 4)).take 4=X.cs/\∀m',af m m' ->aL f [.v (.agg ⟨X.cs⟩)] m' (.bool (B i))):
  aL 232 [.v (.slice a n c),.v (.func (.func f) ⟨[]⟩ ⟨[]⟩)] m (.bool (iu n B)):=by
 refine br aq Tryz.func232 ?_
 ·simp only[go_sem];refine ai ((Zd f B a n c xs m hr hn ao hx).mono ?_);clear hx;rintro r H' m' hm ⟨hle,rfl,i,rfl,hi⟩;simp only[go_sem];exact⟨hle,hi⟩
theorem Zf (f:FuncId) (B:Nat->Bool) (a:Option Addr) (n c:Nat) (xs:List Value) (m:Mem) (hr:aw m a n 5 xs) (hn:n<=ay) (ao:dp Tryz.prog f=true)
  (hx:∀i,i<n->∃X:Fc,(xs.drop (i * 5)).take 5=X.cs/\∀m',af m m' ->aL f [.v (.agg ⟨X.cs⟩)] m' (.bool (B i))):
  FnH Tryz.prog 234 [.v (.slice a n c),.v (.func (.func f) ⟨[]⟩ ⟨[]⟩)] ⟨[],[]⟩ m fun r H' m' =>af m m' /\H' =⟨[],[]⟩/\∃i:Int,r= .v (.int .i64 i)/\decide (0<=i)=iu n B:=by
 refine br aq Tryz.func234 ?_
 ·simp only[go_sem];refine gC aq (fun x:Nat×Mem=>⟨[⟨0,[],.v (.slice a n c)⟩,⟨1,[],.v (.func (.func f) ⟨[]⟩ ⟨[]⟩)⟩,⟨7,[],.v (.int .i64 n)⟩,⟨8,[],.v (.int .i64 x.1)⟩],[],[],[],0,x.2⟩)
   (fun x=>af m x.2/\x.1<=n/\iu x.1 B=false) (fun x=>n - x.1) (0,m) (fun _ _=>aC _) (fun x hx=>hx.1) ?_ ?_ ?_
  ·simp only[go_sem];rfl
  ·exact⟨.inl rfl,aF _,rfl⟩
  ·rintro⟨k,mm⟩ ⟨h1,h2,h3⟩;simp only at h1 h2 h3;have bT:bb.own f=false:=rfl;have hy:∀(hk:k<n),∃X:Fc,(Rd mm (bk a (k * 5)) X.cs/\a≠none)/\aL f [.v (.agg ⟨X.cs⟩)] mm (.bool (B k)):=fun hk=>by
     obtain⟨X,e1,e3⟩:=hx k hk;have r1:=dM (aN h1 hr) hk;rw[e1] at r1;exact⟨X,r1,e3 mm h1⟩
   clear hx;simp only[go_sem,bT];refine⟨fun aj=> ?_,fun gj=>⟨h1,?_⟩⟩
   ·have hk:k<n:=by clear hy;omega
    refine Exists.elim (hy hk) fun X bK=>⟨⟨by clear hy bK;omega,aj,bK.1.2⟩,X.cs,⟨bK.1.1,rfl⟩,?_⟩
    clear hy;have ha:=bK.2;clear bK;simp only[go_sem,bT,Fc.cs];refine⟨ao,bD ((aD ha (fun V=>rfl)).mono ?_)⟩;clear ha;rintro r H' m' hm ⟨hle,rfl,rfl⟩;simp only[go_sem];refine⟨fun hb=>⟨aa h1 hle,?_⟩,fun hb=>⟨by unfold az;simp only[ay] at hn;omega,(k+1,m'),⟨by simp,.inl rfl⟩,⟨aa h1 hle,by simp only;omega,?_⟩,by simp only;omega⟩⟩
    ·rw[Bl hk hb];simp
    ·simp only;rw[A6,h3,hb];rfl
   ·have:k=n:=by clear hy;omega
    rw[<- this,h3];rfl
theorem ZD (f:FuncId) (B:Nat->Bool) (a:Option Addr) (n c:Nat) (xs:List Value) (m:Mem) (hr:aw m a n 5 xs) (hn:n<=ay) (ao:dp Tryz.prog f=true)
  (hx:∀i,i<n->∃X:Fc,(xs.drop (i * 5)).take 5=X.cs/\∀m',af m m' ->aL f [.v (.agg ⟨X.cs⟩)] m' (.bool (B i))):
  aL 147 [.v (.slice a n c),.v (.func (.func f) ⟨[]⟩ ⟨[]⟩)] m (.bool (iu n B)):=by
 refine br aq Tryz.func147 ?_
 ·simp only[go_sem];refine ai ((Zf f B a n c xs m hr hn ao hx).mono ?_);clear hx;rintro r H' m' hm ⟨hle,rfl,i,rfl,hi⟩;simp only[go_sem];exact⟨hle,hi⟩
theorem Ze (f:FuncId) (B:Nat->Bool) (a:Option Addr) (n c:Nat) (xs:List Value) (m:Mem) (hr:aw m a n 8 xs) (hn:n<=ay) (ao:dp Tryz.prog f=true)
  (hx:∀i,i<n->∃X:Mc,(xs.drop (i * 8)).take 8=X.cs/\∀m',af m m' ->aL f [.v (.agg ⟨X.cs⟩)] m' (.bool (B i))):
  FnH Tryz.prog 235 [.v (.slice a n c),.v (.func (.func f) ⟨[]⟩ ⟨[]⟩)] ⟨[],[]⟩ m fun r H' m' =>af m m' /\H' =⟨[],[]⟩/\∃i:Int,r= .v (.int .i64 i)/\decide (0<=i)=iu n B:=by
 refine br aq Tryz.func235 ?_
 ·simp only[go_sem];refine gC aq (fun x:Nat×Mem=>⟨[⟨0,[],.v (.slice a n c)⟩,⟨1,[],.v (.func (.func f) ⟨[]⟩ ⟨[]⟩)⟩,⟨7,[],.v (.int .i64 n)⟩,⟨8,[],.v (.int .i64 x.1)⟩],[],[],[],0,x.2⟩)
   (fun x=>af m x.2/\x.1<=n/\iu x.1 B=false) (fun x=>n - x.1) (0,m) (fun _ _=>aC _) (fun x hx=>hx.1) ?_ ?_ ?_
  ·simp only[go_sem];rfl
  ·exact⟨.inl rfl,aF _,rfl⟩
  ·rintro⟨k,mm⟩ ⟨h1,h2,h3⟩;simp only at h1 h2 h3;have bT:bb.own f=false:=rfl;have hy:∀(hk:k<n),∃X:Mc,(Rd mm (bk a (k * 8)) X.cs/\a≠none)/\aL f [.v (.agg ⟨X.cs⟩)] mm (.bool (B k)):=fun hk=>by
     obtain⟨X,e1,e3⟩:=hx k hk;have r1:=dM (aN h1 hr) hk;rw[e1] at r1;exact⟨X,r1,e3 mm h1⟩
   clear hx;simp only[go_sem,bT];refine⟨fun aj=> ?_,fun gj=>⟨h1,?_⟩⟩
   ·have hk:k<n:=by clear hy;omega
    refine Exists.elim (hy hk) fun X bK=>⟨⟨by clear hy bK;omega,aj,bK.1.2⟩,X.cs,⟨bK.1.1,rfl⟩,?_⟩
    clear hy;have ha:=bK.2;clear bK;simp only[go_sem,bT,Mc.cs];refine⟨ao,bD ((aD ha (fun V=>rfl)).mono ?_)⟩;clear ha;rintro r H' m' hm ⟨hle,rfl,rfl⟩;simp only[go_sem];refine⟨fun hb=>⟨aa h1 hle,?_⟩,fun hb=>⟨by unfold az;simp only[ay] at hn;omega,(k+1,m'),⟨by simp,.inl rfl⟩,⟨aa h1 hle,by simp only;omega,?_⟩,by simp only;omega⟩⟩
    ·rw[Bl hk hb];simp
    ·simp only;rw[A6,h3,hb];rfl
   ·have:k=n:=by clear hy;omega
    rw[<- this,h3];rfl
theorem ZC (f:FuncId) (B:Nat->Bool) (a:Option Addr) (n c:Nat) (xs:List Value) (m:Mem) (hr:aw m a n 8 xs) (hn:n<=ay) (ao:dp Tryz.prog f=true)
  (hx:∀i,i<n->∃X:Mc,(xs.drop (i * 8)).take 8=X.cs/\∀m',af m m' ->aL f [.v (.agg ⟨X.cs⟩)] m' (.bool (B i))):
  aL 148 [.v (.slice a n c),.v (.func (.func f) ⟨[]⟩ ⟨[]⟩)] m (.bool (iu n B)):=by
 refine br aq Tryz.func148 ?_
 ·simp only[go_sem];refine ai ((Ze f B a n c xs m hr hn ao hx).mono ?_);clear hx;rintro r H' m' hm ⟨hle,rfl,i,rfl,hi⟩;simp only[go_sem];exact⟨hle,hi⟩
theorem aa1 (f:FuncId) (B:Nat->Bool) (a:Option Addr) (n c:Nat) (xs:List Value) (m:Mem) (hr:aw m a n 1 xs) (hn:n<=ay) (ao:dp Tryz.prog f=true)
  (hx:∀i,i<n->∃s:List UInt8,xs[i]? =some (.string (bs s))/\∀m',af m m' ->aL f [.v (.string (bs s))] m' (.bool (B i))):
  FnH Tryz.prog 233 [.v (.slice a n c),.v (.func (.func f) ⟨[]⟩ ⟨[]⟩)] ⟨[],[]⟩ m fun r H' m' =>af m m' /\H' =⟨[],[]⟩/\∃i:Int,r= .v (.int .i64 i)/\decide (0<=i)=iu n B:=by
 refine br aq Tryz.func233 ?_
 ·simp only[go_sem];refine gC aq (fun x:Nat×Mem=>⟨[⟨0,[],.v (.slice a n c)⟩,⟨1,[],.v (.func (.func f) ⟨[]⟩ ⟨[]⟩)⟩,⟨7,[],.v (.int .i64 n)⟩,⟨8,[],.v (.int .i64 x.1)⟩],[],[],[],0,x.2⟩)
   (fun x=>af m x.2/\x.1<=n/\iu x.1 B=false) (fun x=>n - x.1) (0,m) (fun _ _=>aC _) (fun x hx=>hx.1) ?_ ?_ ?_
  ·simp only[go_sem];rfl
  ·exact⟨.inl rfl,aF _,rfl⟩
  ·rintro⟨k,mm⟩ ⟨h1,h2,h3⟩;simp only at h1 h2 h3;have bT:bb.own f=false:=rfl;have hy:∀(hk:k<n),∃s:List UInt8,(Rd mm (bk a k) [.string (bs s)]/\a≠none)/\aL f [.v (.string (bs s))] mm (.bool (B k)):=fun hk=>by
     obtain⟨s,e1,e3⟩:=hx k hk;obtain⟨pN,r1,b9⟩:=E3 (aN h1 hr) hk;rw[List.getElem?_eq_getElem pN] at e1;rw[Option.some.inj e1] at r1;exact⟨s,⟨r1,b9⟩,e3 mm h1⟩
   clear hx;simp only[go_sem,bT];refine⟨fun aj=> ?_,fun gj=>⟨h1,?_⟩⟩
   ·have hk:k<n:=by clear hy;omega
    refine Exists.elim (hy hk) fun s bK=>⟨⟨by clear hy bK;omega,aj,bK.1.2⟩,_,bK.1.1,?_⟩
    clear hy;have ha:=bK.2;clear bK;refine⟨ao,bD ((ha).mono ?_)⟩;clear ha;rintro r H' m' hm ⟨hle,rfl,rfl⟩;simp only[go_sem];refine⟨fun hb=>⟨aa h1 hle,?_⟩,fun hb=>⟨by unfold az;simp only[ay] at hn;omega,(k+1,m'),⟨by simp,.inl rfl⟩,⟨aa h1 hle,by simp only;omega,?_⟩,by simp only;omega⟩⟩
    ·rw[Bl hk hb];simp
    ·simp only;rw[A6,h3,hb];rfl
   ·have:k=n:=by clear hy;omega
    rw[<- this,h3];rfl
theorem abx (f:FuncId) (B:Nat->Bool) (a:Option Addr) (n c:Nat) (xs:List Value) (m:Mem) (hr:aw m a n 1 xs) (hn:n<=ay) (ao:dp Tryz.prog f=true)
  (hx:∀i,i<n->∃s:List UInt8,xs[i]? =some (.string (bs s))/\∀m',af m m' ->aL f [.v (.string (bs s))] m' (.bool (B i))):
  aL 146 [.v (.slice a n c),.v (.func (.func f) ⟨[]⟩ ⟨[]⟩)] m (.bool (iu n B)):=by
 refine br aq Tryz.func146 ?_
 ·simp only[go_sem];refine ai ((aa1 f B a n c xs m hr hn ao hx).mono ?_);clear hx;rintro r H' m' hm ⟨hle,rfl,i,rfl,hi⟩;simp only[go_sem];exact⟨hle,hi⟩
def an:Ty:=⟨0,0,[]⟩
def zE:Ex:= .mk 0 0 [] [] an []
def yL (k n:Int) (s c:List UInt8) (ty:Ty) (l:Nat):Bool:=decide (l=0)&&decide (k=0)&&decide (n=0)&&decide (s=[])&&decide (c=[])&&Ty.eq ty an
def BI:Ex->Bool | .mk k n s c ty args=>yL k n s c ty args.length
def yA:Ex->Bool | .mk k n s c ty args=>yL k n s c ty 0&&decide (args.length<=16)&&kV args
def qg (e:Ex):Bool:=(decide (e.k=6)||decide (e.k=7)||decide (e.k=8)||decide (e.k=9))&&de e
def qB (e:Ex):Bool:=(decide (e.k=10)||decide (e.k=11)||decide (e.k=12)||decide (e.k=13))&&de e
def St.k:St->Int | .mk k _ _ _ _ _ _=>k
def mO (k:Int) (nm:List UInt8) (ty:Ty) (tg ex:Ex) (body alt:List St):St:=
 if k=1 then .mk k nm ty zE ex [] []
 else if k=2 then .mk k [] an tg ex [] []
 else if k=4 then .mk k [] an zE ex body alt
 else if k=5\/k=9 then .mk k [] an zE ex body []
 else if k=8 then .mk k nm ty zE zE body alt
 else if k=10 then .mk k [] an zE zE body []
 else .mk k [] an zE ex [] []
def j0 (k:Int) (nm:List UInt8) (ty:Ty) (tg ex:Ex) (B:Bool):Bool:=
 if k=1 then jW nm&&iS ty.dim ty.base ty.name&&de ex
 else if k=2 then qg tg&&de ex
 else if k=3 then qB ex
 else if k=4\/k=5\/k=9 then B&&de ex
 else if k=6 then BI ex||de ex
 else if k=7 then de ex
 else if k=8 then B&&jW nm&&iS ty.dim ty.base ty.name
 else if k=10 then B
 else if k=11 then yA ex
 else false
mutual
def fx:St->Bool
 | .mk k nm ty tg ex body alt=>j0 k nm ty tg ex (decide (body.length<=32)&&eH false body&&(decide (alt.length<=32)&&eH false alt))&&eB (.mk k nm ty tg ex body alt) (mO k nm ty tg ex body alt)
def eH:Bool->List St->Bool
 |_,[]=>true
 |sup,e::r=>(!decide (e.k=11)||sup)&&fx e&&eH false r
end
def tZ (sup:Bool) (l:List St):Bool:=decide (l.length<=32)&&eH sup l
def qS (sup:Bool) (i:Nat) (e:St):Bool:=(!decide (e.k=11)||(sup&&decide (i=0)))&&fx e
theorem C7:∀{l:List St} {sup:Bool} {i:Nat} (hi:i<l.length),eH sup (l.take (i+1))=(eH sup (l.take i)&&qS sup i l[i])
 |[],_,_,hi=>absurd hi (Nat.not_lt_zero _)
 |e::r,sup,0,_=>by simp [eH,qS]
 |e::r,sup,i+1,hi=>by
  have:=C7 (l:=r) (sup:=false) (i:=i) (by simpa using hi);simp only[List.take_succ_cons,eH,this,List.getElem_cons_succ];simp only[qS,Bool.false_and,Nat.add_one_ne_zero,aV,Bool.and_false,Bool.and_assoc]
theorem HC:∀{l:List St} {sup:Bool} {i:Nat} (hi:i<l.length),qS sup i l[i]=false->eH sup l=false:=fun{l sup i} hi h=>by
 have h1:=C7 (sup:=sup) hi;rw[h,Bool.and_false] at h1;have:∀(l:List St) (sup:Bool) (j:Nat),eH sup (l.take j)=false->eH sup l=false:=by
  intro l;induction l with
  |nil=>intro sup j h;simpa using h
  |cons e r ih=>
   intro sup j h;cases j with
   |zero=>simp [eH] at h
   |succ j=>
    simp only[List.take_succ_cons,eH] at h ⊢;cases h2:eH false (r.take j) with
    |false=>rw[ih false j h2,Bool.and_false]
    |true=>rw[h2,Bool.and_true] at h;rw[h,Bool.false_and]
 exact this l sup (i+1) h1
theorem HZ (x:Nd) (m:Mem):aL 117 [.v (.agg ⟨x.cs⟩)] m (.bool (yL x.k x.n x.s x.c x.ty x.l)):=by
 refine enter bb aq Tryz.func117 rfl rfl (by kernel_rfl) rfl ?_ ?_
 ·simp only[go_sem,Nd.cs]
 ·simp only[go_sem,Nd.cs,dD];have e0:decide ((x.l:Int)=0)=decide (x.l=0):=by rw[decide_eq_decide];omega
  rw[e0];rfl
theorem rM {m:Mem} {k n:Int} {s c:List UInt8} {ty:Ty} {args:List Ex} {cs:List Value} (h:a8 m (.mk k n s c ty args) cs):∃x:Nd,cs=x.cs/\x.k=k/\x.n=n/\x.s=s/\x.c=c/\x.ty=ty/\x.l=args.length/\x.l<=x.cp/\x.l<=ay/\∃xs,aw m x.a x.l 8 xs/\dI m args xs:=by
 simp only[a8] at h;obtain⟨a,cp,xs,rfl,h1,h2,h3,h4⟩:=h;exact⟨⟨k,n,s,c,ty,a,args.length,cp⟩,rfl,rfl,rfl,rfl,rfl,rfl,rfl,h1,h3.2.2.2.2.2,xs,h2,h4⟩
theorem Tz (e:Ex) (cs:List Value) (m:Mem) (hg:Glob m) (he:a8 m e cs):aL 217 [.v (.agg ⟨cs⟩)] m (.bool (!de e)):=by
 have hV:=mD _ e cs m (aC _) hg he;obtain⟨x,rfl⟩:=rN he;refine enter bb aq Tryz.func217 rfl rfl (by kernel_rfl) rfl ?_ ?_
 ·simp only[go_sem,Nd.cs]
 ·simp only[go_sem,Nd.cs];refine ai ((aD hV (fun V=>rfl)).mono ?_);rintro r H' m2 aK ⟨bH,rfl,rfl⟩;simp only[go_sem];exact bH
theorem OX (e:Ex) (cs:List Value) (m:Mem) (hg:Glob m) (he:a8 m e cs):aL 118 [.v (.agg ⟨cs⟩)] m (.bool (yA e)):=by
 cases e with
 |mk k n s c ty args=>
  obtain⟨x,rfl,rfl,rfl,rfl,rfl,rfl,hl,bQ,hn,xs,hr,cJ⟩:=rM he;have hE:=HZ ⟨x.k,x.n,x.s,x.c,x.ty,none,0,0⟩ m;have hv:=fun m' (hm:af m m')=>G3 217 (fun e=> !de e) args x.a x.l x.cp xs m' hl.symm (aN hm hr) (xP hm cJ) hn (by kernel_rfl) (fun i hi cs m2 hle bX=>Tz _ cs m2 (hg.upM (aa hm hle)) bX)
  refine enter bb aq Tryz.func118 rfl rfl (by kernel_rfl) rfl ?_ ?_
  ·simp only[go_sem,Nd.cs]
  ·simp only[go_sem,Nd.cs];refine ai ((aD hE (fun V=>rfl)).mono ?_);clear hE;rintro r H' m2 aK ⟨bH,rfl,rfl⟩;simp only[go_sem];have e0:yA (Ex.mk x.k x.n x.s x.c x.ty args)=(yL x.k x.n x.s x.c x.ty 0&&decide (args.length<=16)&&kV args):=rfl;refine⟨fun h=>ai ((hv m2 bH).mono ?_),fun h=>⟨bH,?_⟩⟩
   ·clear hv;rintro r H' m3 cA ⟨uy,rfl,rfl⟩;simp only[go_sem];refine⟨aa bH uy,?_⟩;rw[e0,h.1,aQ (by omega:args.length<=16),Dd];rfl
   ·clear hv;rw[e0];rcases h with h |h
    ·rw[h];rfl
    ·rw[ab (by omega:¬args.length<=16),Bool.and_false];rfl
theorem Ov (e:Ex) (cs:List Value) (m:Mem) (hg:Glob m) (he:a8 m e cs):aL 115 [.v (.agg ⟨cs⟩)] m (.bool (qg e)):=by
 have hV:=mD _ e cs m (aC _) hg he;cases e with
 |mk k n s c ty args=>
  obtain⟨x,rfl,rfl,rfl,rfl,rfl,rfl,hl,bQ,hn,xs,hr,cJ⟩:=rM he;refine enter bb aq Tryz.func115 rfl rfl (by kernel_rfl) rfl ?_ ?_
  ·simp only[go_sem,Nd.cs]
  ·simp only[go_sem,Nd.cs];refine⟨fun e0=>⟨fun _=>ai ((aD hV (fun V=>rfl)).mono ?_),fun n=>absurd e0 n⟩,fun n0=>⟨fun e1=>⟨fun _=>ai ((aD hV (fun V=>rfl)).mono ?_),fun n=>absurd e1 n⟩,fun n1=>⟨fun e2=>⟨fun _=>ai ((aD hV (fun V=>rfl)).mono ?_),fun n=>absurd e2 n⟩,fun n2=>⟨fun e3=>ai ((aD hV (fun V=>rfl)).mono ?_),fun n3=> ?_⟩⟩⟩⟩
   ·clear hV;rintro r H' m2 aK ⟨bH,rfl,rfl⟩;simp only[go_sem];refine⟨bH,?_⟩;simp [qg,Ex.k,e0]
   ·clear hV;rintro r H' m2 aK ⟨bH,rfl,rfl⟩;simp only[go_sem];refine⟨bH,?_⟩;simp [qg,Ex.k,e1]
   ·clear hV;rintro r H' m2 aK ⟨bH,rfl,rfl⟩;simp only[go_sem];refine⟨bH,?_⟩;simp [qg,Ex.k,e2]
   ·clear hV;rintro r H' m2 aK ⟨bH,rfl,rfl⟩;simp only[go_sem];refine⟨bH,?_⟩;simp [qg,Ex.k,e3]
   ·clear hV;simp [qg,Ex.k,n0,n1,n2,n3]
theorem Re (e:Ex) (cs:List Value) (m:Mem) (hg:Glob m) (he:a8 m e cs):aL 116 [.v (.agg ⟨cs⟩)] m (.bool (qB e)):=by
 have hV:=mD _ e cs m (aC _) hg he;cases e with
 |mk k n s c ty args=>
  obtain⟨x,rfl,rfl,rfl,rfl,rfl,rfl,hl,bQ,hn,xs,hr,cJ⟩:=rM he;refine enter bb aq Tryz.func116 rfl rfl (by kernel_rfl) rfl ?_ ?_
  ·simp only[go_sem,Nd.cs]
  ·simp only[go_sem,Nd.cs];refine⟨fun e0=>⟨fun _=>ai ((aD hV (fun V=>rfl)).mono ?_),fun n=>absurd e0 n⟩,fun n0=>⟨fun e1=>⟨fun _=>ai ((aD hV (fun V=>rfl)).mono ?_),fun n=>absurd e1 n⟩,fun n1=>⟨fun e2=>⟨fun _=>ai ((aD hV (fun V=>rfl)).mono ?_),fun n=>absurd e2 n⟩,fun n2=>⟨fun e3=>ai ((aD hV (fun V=>rfl)).mono ?_),fun n3=> ?_⟩⟩⟩⟩
   ·clear hV;rintro r H' m2 aK ⟨bH,rfl,rfl⟩;simp only[go_sem];refine⟨bH,?_⟩;simp [qB,Ex.k,e0]
   ·clear hV;rintro r H' m2 aK ⟨bH,rfl,rfl⟩;simp only[go_sem];refine⟨bH,?_⟩;simp [qB,Ex.k,e1]
   ·clear hV;rintro r H' m2 aK ⟨bH,rfl,rfl⟩;simp only[go_sem];refine⟨bH,?_⟩;simp [qB,Ex.k,e2]
   ·clear hV;rintro r H' m2 aK ⟨bH,rfl,rfl⟩;simp only[go_sem];refine⟨bH,?_⟩;simp [qB,Ex.k,e3]
   ·clear hV;simp [qB,Ex.k,n0,n1,n2,n3]
theorem vI {m:Mem} {k:Int} {nm:List UInt8} {ty:Ty} {tg ex:Ex} {body alt:List St} {cs:List Value} (h:et m (.mk k nm ty tg ex body alt) cs):
  ∃x:Sd,cs=x.cs/\x.k=k/\x.name=nm/\x.ty=ty/\a8 m tg x.tg.cs/\a8 m ex x.ex.cs/\x.l=body.length/\x.l<=x.cp/\x.l2=alt.length/\x.l2<=x.cp2/\StOk k nm ty body.length alt.length/\∃xs ys,aw m x.a x.l 23 xs/\aw m x.b x.l2 23 ys/\bL m body xs/\bL m alt ys:=by
 simp only[et] at h;obtain⟨x,⟨h1,h2,h3,h4⟩,h5,h6,⟨h7,h8,h9,h10⟩,h11,xs,ys,vg,h13,h14,h15⟩:=h;exact⟨x,h1,h2,h3,h4,h5,h6,h7,h8,h9,h10,h11,xs,ys,vg,h13,h14,h15⟩
theorem DC (sup:Bool) (l:List St) (a:Option Addr) (n c:Nat) (xs:List Value) (m:Mem) (hl:n=l.length) (hr:aw m a n 23 xs) (hs:bL m l xs) (hn:n<=ay)
  (hV:∀e∈l,∀cs m',af m m' ->et m' e cs->aL 56 [.v (.agg ⟨cs⟩)] m' (.bool (fx e))):
  aL 112 [.v (.slice a n c),.v (.bool sup)] m (.bool (decide (l.length<=32)&&eH sup l)):=by
 refine br aq Tryz.func112 ?_
 ·simp only[go_sem];refine⟨fun h=> ?_,fun h=> ?_⟩
  ·rw[ab (by clear hV;omega)];rfl
  ·have hE:(decide (l.length<=32)&&eH sup l)=eH sup l:=by rw[aQ (by clear hV;omega)];rfl
   rw[hE];clear hE;refine gC aq (fun x:Nat×Mem=>⟨[⟨1,[],.v (.bool sup)⟩,⟨10,[],.v (.slice a n c)⟩,⟨11,[],.v (.int .i64 n)⟩,⟨12,[],.v (.int .i64 x.1)⟩],[],[],[],0,x.2⟩)
    (fun x=>af m x.2/\x.1<=n/\eH sup (l.take x.1)=true) (fun x=>n - x.1) (0,m) (fun _ _=>aC _) (fun x hx=>hx.1) ?_ ?_ ?_
   ·simp only[go_sem];rfl
   ·exact⟨.inl rfl,aF _,by simp [eH]⟩
   ·rintro⟨k,mm⟩ ⟨h1,h2,h3⟩;simp only at h1 h2 h3;have hy:∀(hk:k<l.length),∃X:Sd,(Rd mm (bk a (k * 23)) X.cs/\a≠none)/\X.k=l[k].k/\aL 56 [.v (.agg ⟨X.cs⟩)] mm (.bool (fx l[k])):=fun hk=>by
     have bX:=xT h1 (rT hs hk);have Ai:∃X:Sd,(xs.drop (k * 23)).take 23=X.cs/\X.k=l[k].k:=by
      cases iO:l[k] with
      |mk k' nm ty tg ex body alt=>
       rw[iO] at bX;obtain⟨X,e1,e2,_⟩:=vI bX;exact⟨X,e1,e2⟩
     obtain⟨X,e1,e2⟩:=Ai;have r1:=dM (aN h1 hr) (by omega:k<n);rw[e1] at r1 bX;exact⟨X,r1,e2,hV _ (List.getElem_mem hk) _ _ h1 bX⟩
    clear hV;simp only[go_sem];refine⟨fun aj=> ?_,fun gj=>⟨h1,?_⟩⟩
    ·have hk:k<l.length:=by clear hy;omega
     refine Exists.elim (hy hk) fun X bK=>⟨⟨by clear hy bK;omega,aj,bK.1.2⟩,X.cs,⟨bK.1.1,rfl⟩,?_⟩
     clear hy;have uY:=bK.2.1;have ha:=bK.2.2;clear bK;simp only[go_sem,Sd.cs,Nd.cs];refine⟨fun hc=>ai ((aD ha (fun V=>rfl)).mono ?_),fun hc=>⟨h1,?_⟩⟩
     ·clear ha;have hb:qS sup k l[k]=fx l[k]:=by
       rw[uY] at hc;rcases hc with hc |hc
       ·simp [qS,hc]
       ·have:k=0:=by omega
        simp [qS,hc.1,this]
      rintro r H' m2 aK ⟨bH,rfl,rfl⟩;simp only[go_sem];refine⟨fun hv=>⟨aa h1 bH,?_⟩,fun hv=>⟨by unfold az;simp only[ay] at hn;omega,(k+1,m2),⟨by simp,.inl rfl⟩,⟨aa h1 bH,by simp only;omega,?_⟩,by simp only;omega⟩⟩
      ·rw[HC hk (by rw[hb];exact hv)]
      ·simp only;rw[C7 hk,h3,hb,hv];rfl
     ·clear ha;rw[uY] at hc;rw[HC hk];rcases hc.2 with h0 |h0
      ·simp [qS,hc.1,h0]
      ·have:¬k=0:=by omega
       simp [qS,hc.1,this]
    ·have:k=n:=by clear hy;omega
     rw[jS (by clear hy;omega)] at h3;rw[h3]
def aP:Nd:=⟨0,0,[],[],an,none,0,0⟩
theorem gK {m:Mem} {sz:Nat}:aw m none 0 sz []:=⟨by simp,fun h=>absurd h (Nat.lt_irrefl _)⟩
theorem lR:uE an:=⟨by unfold az;decide,by decide,by decide⟩
theorem lK {m:Mem}:a8 m zE aP.cs:=by
 simp only[zE,a8];exact⟨none,0,[],rfl,aC _,gK,⟨by unfold az;decide,by unfold az;decide,by decide,by decide,lR,by decide⟩,by simp only[dI]⟩
theorem fH {m:Mem} (U:Sd) {tg ex:Ex} {body alt:List St} {xs ys:List Value} (cT:a8 m tg U.tg.cs) (hex:a8 m ex U.ex.cs) (hl:U.l=body.length) (bQ:U.l<=U.cp) (cd:U.l2=alt.length) (dn:U.l2<=U.cp2) (ao:StOk U.k U.name U.ty body.length alt.length)
  (r1:aw m U.a U.l 23 xs) (r2:aw m U.b U.l2 23 ys) (s1:bL m body xs) (s2:bL m alt ys):et m (.mk U.k U.name U.ty tg ex body alt) U.cs:=by
 simp only[et];exact⟨U,⟨rfl,rfl,rfl,rfl⟩,cT,hex,⟨hl,bQ,cd,dn⟩,ao,xs,ys,r1,r2,s1,s2⟩
theorem BD {x y:Nd} (h:x.cs=y.cs):x=y:=by
 obtain⟨k,n,s,c,⟨d,b,nm⟩,a,l,cp⟩:=x;obtain⟨k',n',s',c',⟨d',b',nm'⟩,a',l',cp'⟩:=y;simp only[Nd.cs,List.cons.injEq,Value.int.injEq,Value.string.injEq,Value.slice.injEq,and_true,true_and] at h;obtain⟨h1,h2,h3,h4,h5,h6,h7,h8,h9,h10⟩:=h;rw[h1,h2,oS h3,oS h4,h5,h6,oS h7,h8,h9,h10]
theorem Tb {m:Mem} {e:Ex} {x:Nd} (h:a8 m e x.cs) (m' :Mem):aL 117 [.v (.agg ⟨x.cs⟩)] m' (.bool (BI e)):=by
 cases e with
 |mk k n s c ty args=>
  obtain⟨y,hy,h1,h2,h3,h4,h5,h6,_⟩:=rM h;have:=HZ x m';rw[BD hy] at this ⊢;rw[h1,h2,h3,h4,h5,h6] at this;exact this
theorem iU {m:Mem}:bL m [] []:=by simp only[bL]
theorem aav (nm:List UInt8) (ty:Ty) (tN eN:Nd) (a:Option Addr) (l cp:Nat) (b:Option Addr) (l2 cp2:Nat) (tg ex:Ex) (body alt:List St) (xs ys:List Value) (m:Mem) (hg:Glob m)
  (cT:a8 m tg tN.cs) (hex:a8 m ex eN.cs) (hl:l=body.length) (bQ:l<=cp) (cd:l2=alt.length) (dn:l2<=cp2) (ao:StOk 1 nm ty body.length alt.length) (r1:aw m a l 23 xs) (r2:aw m b l2 23 ys) (s1:bL m body xs) (s2:bL m alt ys) (B1 B2 B V:Bool)
  (hB:∀m',af m m' ->aL 112 [.v (.slice a l cp),.v (.bool false)] m' (.bool B1)) (hA:∀m',af m m' ->aL 112 [.v (.slice b l2 cp2),.v (.bool false)] m' (.bool B2)) (eW:B=(B1&&B2))
  (e0:V=((jW nm&&iS ty.dim ty.base ty.name&&de ex)&&eB (St.mk 1 nm ty tg ex body alt) (St.mk 1 nm ty zE ex [] []))):aL 56 [.v (.agg ⟨Sd.cs ⟨1,nm,ty,tN,eN,a,l,cp,b,l2,cp2⟩⟩)] m (.bool V):=by
 have hQ:∀m',af m m' ->aL 119 [.v (.agg ⟨Sd.cs ⟨1,nm,ty,tN,eN,a,l,cp,b,l2,cp2⟩⟩),.v (.agg ⟨Sd.cs ⟨1,nm,ty,aP,eN,none,0,0,none,0,0⟩⟩)] m' (.bool (eB (St.mk 1 nm ty tg ex body alt) (St.mk 1 nm ty zE ex [] []))):=fun m' hle=>
  lC _ _ _ _ _ m' (aC _) (fH (m:=m') (⟨1,nm,ty,tN,eN,a,l,cp,b,l2,cp2⟩:Sd) (bY hle cT) (bY hle hex) hl bQ cd dn ao (aN hle r1) (aN hle r2) (cL hle s1) (cL hle s2))
   (fH (m:=m') (⟨1,nm,ty,aP,eN,none,0,0,none,0,0⟩:Sd) lK (bY hle hex) rfl (aC _) rfl (aC _) ⟨ao.k,ao.nm,ao.ty,aF _,aF _⟩ gK gK iU iU)
 have Cp:BL nm:=cQ ao.nm (by decide);have Co:BL ty.name:=cQ ao.ty.2.2 (by decide);have hX:=fun m' (hle:af m m')=>mD _ ex eN.cs m' (aC _) (hg.upM hle) (bY hle hex)
 clear s1 s2 r1 r2;refine enter mz mb Tryz.func56 rfl rfl (by kernel_rfl) rfl ?_ ?_
 ·simp only[go_sem,Sd.cs,Nd.cs,aP,an,Int.reduceEq,aW,aV]
 ·simp only[go_sem,Sd.cs,Nd.cs,aP,an,Int.reduceEq,aW,aV];refine ai ((hB m (.inl rfl)).mono ?_);clear hB;rintro r H' m1 aR ⟨l1,rfl,rfl⟩;simp only[go_sem,Sd.cs,Nd.cs,aP,an,Int.reduceEq,aW,aV];refine⟨fun b1=>ai ((hA m1 l1).mono ?_),fun b1=> ?_⟩
  ·clear hA;rintro r H' m2 aK ⟨fY,rfl,rfl⟩;have bV:=aa l1 fY;simp only[go_sem,Sd.cs,Nd.cs,aP,an,Int.reduceEq,aW,aV];refine⟨Cp,fun _=>Co,fun c=> ?_,fun c=> ?_⟩
   ·refine ai ((aD (hX m2 bV) (fun V=>rfl)).mono ?_);clear hX;rintro r H' w1 pJ ⟨cS,rfl,rfl⟩;simp only[go_sem,Sd.cs,Nd.cs,aP,an,Int.reduceEq,aW,aV];refine⟨fun c1=> ?_,fun c1=> ?_⟩
    ·refine ai ((aD (hQ w1 (aa bV cS)) (fun V=>rfl)).mono ?_);clear hQ;rintro r H' w2 s9 ⟨gV,rfl,rfl⟩;simp only[go_sem,Sd.cs,Nd.cs,aP,an,Int.reduceEq,aW,aV];refine⟨aa (aa bV cS) gV,?_⟩;rw[e0,c.1,c.2,c1];rfl
    ·refine⟨(aa bV cS),?_⟩;rw[e0,c.1,c.2,c1];rfl
   ·refine⟨bV,?_⟩;rw[e0];rcases c with c |c<;>simp [c]
  ·clear hA;refine⟨Cp,fun _=>Co,fun c=> ?_,fun c=> ?_⟩
   ·refine ai ((aD (hX m1 l1) (fun V=>rfl)).mono ?_);clear hX;rintro r H' w3 xq ⟨iK,rfl,rfl⟩;simp only[go_sem,Sd.cs,Nd.cs,aP,an,Int.reduceEq,aW,aV];refine⟨fun c3=> ?_,fun c3=> ?_⟩
    ·refine ai ((aD (hQ w3 (aa l1 iK)) (fun V=>rfl)).mono ?_);clear hQ;rintro r H' w4 zZ ⟨kK,rfl,rfl⟩;simp only[go_sem,Sd.cs,Nd.cs,aP,an,Int.reduceEq,aW,aV];refine⟨aa (aa l1 iK) kK,?_⟩;rw[e0,c.1,c.2,c3];rfl
    ·refine⟨(aa l1 iK),?_⟩;rw[e0,c.1,c.2,c3];rfl
   ·refine⟨l1,?_⟩;rw[e0];rcases c with c |c<;>simp [c]
theorem aau (nm:List UInt8) (ty:Ty) (tN eN:Nd) (a:Option Addr) (l cp:Nat) (b:Option Addr) (l2 cp2:Nat) (tg ex:Ex) (body alt:List St) (xs ys:List Value) (m:Mem) (hg:Glob m)
  (cT:a8 m tg tN.cs) (hex:a8 m ex eN.cs) (hl:l=body.length) (bQ:l<=cp) (cd:l2=alt.length) (dn:l2<=cp2) (ao:StOk 2 nm ty body.length alt.length) (r1:aw m a l 23 xs) (r2:aw m b l2 23 ys) (s1:bL m body xs) (s2:bL m alt ys) (B1 B2 B V:Bool)
  (hB:∀m',af m m' ->aL 112 [.v (.slice a l cp),.v (.bool false)] m' (.bool B1)) (hA:∀m',af m m' ->aL 112 [.v (.slice b l2 cp2),.v (.bool false)] m' (.bool B2)) (eW:B=(B1&&B2))
  (e0:V=((qg tg&&de ex)&&eB (St.mk 2 nm ty tg ex body alt) (St.mk 2 [] an tg ex [] []))):aL 56 [.v (.agg ⟨Sd.cs ⟨2,nm,ty,tN,eN,a,l,cp,b,l2,cp2⟩⟩)] m (.bool V):=by
 have hQ:∀m',af m m' ->aL 119 [.v (.agg ⟨Sd.cs ⟨2,nm,ty,tN,eN,a,l,cp,b,l2,cp2⟩⟩),.v (.agg ⟨Sd.cs ⟨2,[],an,tN,eN,none,0,0,none,0,0⟩⟩)] m' (.bool (eB (St.mk 2 nm ty tg ex body alt) (St.mk 2 [] an tg ex [] []))):=fun m' hle=>
  lC _ _ _ _ _ m' (aC _) (fH (m:=m') (⟨2,nm,ty,tN,eN,a,l,cp,b,l2,cp2⟩:Sd) (bY hle cT) (bY hle hex) hl bQ cd dn ao (aN hle r1) (aN hle r2) (cL hle s1) (cL hle s2))
   (fH (m:=m') (⟨2,[],an,tN,eN,none,0,0,none,0,0⟩:Sd) (bY hle cT) (bY hle hex) rfl (aC _) rfl (aC _) ⟨ao.k,aF _,lR,aF _,aF _⟩ gK gK iU iU)
 have hX:=fun m' (hle:af m m')=>mD _ ex eN.cs m' (aC _) (hg.upM hle) (bY hle hex)
 have hT:=fun m' (hle:af m m')=>Ov tg tN.cs m' (hg.upM hle) (bY hle cT)
 clear s1 s2 r1 r2;refine enter mz mb Tryz.func56 rfl rfl (by kernel_rfl) rfl ?_ ?_
 ·simp only[go_sem,Sd.cs,Nd.cs,aP,an,Int.reduceEq,aW,aV]
 ·simp only[go_sem,Sd.cs,Nd.cs,aP,an,Int.reduceEq,aW,aV];refine ai ((hB m (.inl rfl)).mono ?_);clear hB;rintro r H' m1 aR ⟨l1,rfl,rfl⟩;simp only[go_sem,Sd.cs,Nd.cs,aP,an,Int.reduceEq,aW,aV];refine⟨fun b1=>ai ((hA m1 l1).mono ?_),fun b1=> ?_⟩
  ·clear hA;rintro r H' m2 aK ⟨fY,rfl,rfl⟩;have bV:=aa l1 fY;simp only[go_sem,Sd.cs,Nd.cs,aP,an,Int.reduceEq,aW,aV];refine ai ((aD (hT m2 bV) (fun V=>rfl)).mono ?_);clear hT;rintro r H' w1 pJ ⟨cS,rfl,rfl⟩;simp only[go_sem,Sd.cs,Nd.cs,aP,an,Int.reduceEq,aW,aV];refine⟨fun c=> ?_,fun c=> ?_⟩
   ·refine ai ((aD (hX w1 (aa bV cS)) (fun V=>rfl)).mono ?_);clear hX;rintro r H' w2 s9 ⟨gV,rfl,rfl⟩;simp only[go_sem,Sd.cs,Nd.cs,aP,an,Int.reduceEq,aW,aV];refine⟨fun c2=> ?_,fun c2=> ?_⟩
    ·refine ai ((aD (hQ w2 (aa (aa bV cS) gV)) (fun V=>rfl)).mono ?_);clear hQ;rintro r H' w3 xq ⟨iK,rfl,rfl⟩;simp only[go_sem,Sd.cs,Nd.cs,aP,an,Int.reduceEq,aW,aV];refine⟨aa (aa (aa bV cS) gV) iK,?_⟩;rw[e0,c,c2];rfl
    ·refine⟨(aa (aa bV cS) gV),?_⟩;rw[e0,c,c2];rfl
   ·refine⟨(aa bV cS),?_⟩;rw[e0,c];rfl
  ·clear hA;refine ai ((aD (hT m1 l1) (fun V=>rfl)).mono ?_);clear hT;rintro r H' w4 zZ ⟨kK,rfl,rfl⟩;simp only[go_sem,Sd.cs,Nd.cs,aP,an,Int.reduceEq,aW,aV];refine⟨fun c=> ?_,fun c=> ?_⟩
   ·refine ai ((aD (hX w4 (aa l1 kK)) (fun V=>rfl)).mono ?_);clear hX;rintro r H' w5 hw5 ⟨pF,rfl,rfl⟩;simp only[go_sem,Sd.cs,Nd.cs,aP,an,Int.reduceEq,aW,aV];refine⟨fun c5=> ?_,fun c5=> ?_⟩
    ·refine ai ((aD (hQ w5 (aa (aa l1 kK) pF)) (fun V=>rfl)).mono ?_);clear hQ;rintro r H' w6 hw6 ⟨zT,rfl,rfl⟩;simp only[go_sem,Sd.cs,Nd.cs,aP,an,Int.reduceEq,aW,aV];refine⟨aa (aa (aa l1 kK) pF) zT,?_⟩;rw[e0,c,c5];rfl
    ·refine⟨(aa (aa l1 kK) pF),?_⟩;rw[e0,c,c5];rfl
   ·refine⟨(aa l1 kK),?_⟩;rw[e0,c];rfl
theorem aat (nm:List UInt8) (ty:Ty) (tN eN:Nd) (a:Option Addr) (l cp:Nat) (b:Option Addr) (l2 cp2:Nat) (tg ex:Ex) (body alt:List St) (xs ys:List Value) (m:Mem) (hg:Glob m)
  (cT:a8 m tg tN.cs) (hex:a8 m ex eN.cs) (hl:l=body.length) (bQ:l<=cp) (cd:l2=alt.length) (dn:l2<=cp2) (ao:StOk 3 nm ty body.length alt.length) (r1:aw m a l 23 xs) (r2:aw m b l2 23 ys) (s1:bL m body xs) (s2:bL m alt ys) (B1 B2 B V:Bool)
  (hB:∀m',af m m' ->aL 112 [.v (.slice a l cp),.v (.bool false)] m' (.bool B1)) (hA:∀m',af m m' ->aL 112 [.v (.slice b l2 cp2),.v (.bool false)] m' (.bool B2)) (eW:B=(B1&&B2))
  (e0:V=(qB ex&&eB (St.mk 3 nm ty tg ex body alt) (St.mk 3 [] an zE ex [] []))):aL 56 [.v (.agg ⟨Sd.cs ⟨3,nm,ty,tN,eN,a,l,cp,b,l2,cp2⟩⟩)] m (.bool V):=by
 have hQ:∀m',af m m' ->aL 119 [.v (.agg ⟨Sd.cs ⟨3,nm,ty,tN,eN,a,l,cp,b,l2,cp2⟩⟩),.v (.agg ⟨Sd.cs ⟨3,[],an,aP,eN,none,0,0,none,0,0⟩⟩)] m' (.bool (eB (St.mk 3 nm ty tg ex body alt) (St.mk 3 [] an zE ex [] []))):=fun m' hle=>
  lC _ _ _ _ _ m' (aC _) (fH (m:=m') (⟨3,nm,ty,tN,eN,a,l,cp,b,l2,cp2⟩:Sd) (bY hle cT) (bY hle hex) hl bQ cd dn ao (aN hle r1) (aN hle r2) (cL hle s1) (cL hle s2))
   (fH (m:=m') (⟨3,[],an,aP,eN,none,0,0,none,0,0⟩:Sd) lK (bY hle hex) rfl (aC _) rfl (aC _) ⟨ao.k,aF _,lR,aF _,aF _⟩ gK gK iU iU)
 have hX:=fun m' (hle:af m m')=>Re ex eN.cs m' (hg.upM hle) (bY hle hex)
 clear s1 s2 r1 r2;refine enter mz mb Tryz.func56 rfl rfl (by kernel_rfl) rfl ?_ ?_
 ·simp only[go_sem,Sd.cs,Nd.cs,aP,an,Int.reduceEq,aW,aV]
 ·simp only[go_sem,Sd.cs,Nd.cs,aP,an,Int.reduceEq,aW,aV];refine ai ((hB m (.inl rfl)).mono ?_);clear hB;rintro r H' m1 aR ⟨l1,rfl,rfl⟩;simp only[go_sem,Sd.cs,Nd.cs,aP,an,Int.reduceEq,aW,aV];refine⟨fun b1=>ai ((hA m1 l1).mono ?_),fun b1=> ?_⟩
  ·clear hA;rintro r H' m2 aK ⟨fY,rfl,rfl⟩;have bV:=aa l1 fY;simp only[go_sem,Sd.cs,Nd.cs,aP,an,Int.reduceEq,aW,aV];refine ai ((aD (hX m2 bV) (fun V=>rfl)).mono ?_);clear hX;rintro r H' w1 pJ ⟨cS,rfl,rfl⟩;simp only[go_sem,Sd.cs,Nd.cs,aP,an,Int.reduceEq,aW,aV];refine⟨fun c1=> ?_,fun c1=> ?_⟩
   ·refine ai ((aD (hQ w1 (aa bV cS)) (fun V=>rfl)).mono ?_);clear hQ;rintro r H' w2 s9 ⟨gV,rfl,rfl⟩;simp only[go_sem,Sd.cs,Nd.cs,aP,an,Int.reduceEq,aW,aV];refine⟨aa (aa bV cS) gV,?_⟩;rw[e0,c1];rfl
   ·refine⟨(aa bV cS),?_⟩;rw[e0,c1];rfl
  ·clear hA;refine ai ((aD (hX m1 l1) (fun V=>rfl)).mono ?_);clear hX;rintro r H' w3 xq ⟨iK,rfl,rfl⟩;simp only[go_sem,Sd.cs,Nd.cs,aP,an,Int.reduceEq,aW,aV];refine⟨fun c3=> ?_,fun c3=> ?_⟩
   ·refine ai ((aD (hQ w3 (aa l1 iK)) (fun V=>rfl)).mono ?_);clear hQ;rintro r H' w4 zZ ⟨kK,rfl,rfl⟩;simp only[go_sem,Sd.cs,Nd.cs,aP,an,Int.reduceEq,aW,aV];refine⟨aa (aa l1 iK) kK,?_⟩;rw[e0,c3];rfl
   ·refine⟨(aa l1 iK),?_⟩;rw[e0,c3];rfl
theorem aas (nm:List UInt8) (ty:Ty) (tN eN:Nd) (a:Option Addr) (l cp:Nat) (b:Option Addr) (l2 cp2:Nat) (tg ex:Ex) (body alt:List St) (xs ys:List Value) (m:Mem) (hg:Glob m)
  (cT:a8 m tg tN.cs) (hex:a8 m ex eN.cs) (hl:l=body.length) (bQ:l<=cp) (cd:l2=alt.length) (dn:l2<=cp2) (ao:StOk 4 nm ty body.length alt.length) (r1:aw m a l 23 xs) (r2:aw m b l2 23 ys) (s1:bL m body xs) (s2:bL m alt ys) (B1 B2 B V:Bool)
  (hB:∀m',af m m' ->aL 112 [.v (.slice a l cp),.v (.bool false)] m' (.bool B1)) (hA:∀m',af m m' ->aL 112 [.v (.slice b l2 cp2),.v (.bool false)] m' (.bool B2)) (eW:B=(B1&&B2))
  (e0:V=((B&&de ex)&&eB (St.mk 4 nm ty tg ex body alt) (St.mk 4 [] an zE ex body alt))):aL 56 [.v (.agg ⟨Sd.cs ⟨4,nm,ty,tN,eN,a,l,cp,b,l2,cp2⟩⟩)] m (.bool V):=by
 have hQ:∀m',af m m' ->aL 119 [.v (.agg ⟨Sd.cs ⟨4,nm,ty,tN,eN,a,l,cp,b,l2,cp2⟩⟩),.v (.agg ⟨Sd.cs ⟨4,[],an,aP,eN,a,l,cp,b,l2,cp2⟩⟩)] m' (.bool (eB (St.mk 4 nm ty tg ex body alt) (St.mk 4 [] an zE ex body alt))):=fun m' hle=>
  lC _ _ _ _ _ m' (aC _) (fH (m:=m') (⟨4,nm,ty,tN,eN,a,l,cp,b,l2,cp2⟩:Sd) (bY hle cT) (bY hle hex) hl bQ cd dn ao (aN hle r1) (aN hle r2) (cL hle s1) (cL hle s2))
   (fH (m:=m') (⟨4,[],an,aP,eN,a,l,cp,b,l2,cp2⟩:Sd) lK (bY hle hex) hl bQ cd dn ⟨ao.k,aF _,lR,ao.l,ao.l2⟩ (aN hle r1) (aN hle r2) (cL hle s1) (cL hle s2))
 have hX:=fun m' (hle:af m m')=>mD _ ex eN.cs m' (aC _) (hg.upM hle) (bY hle hex)
 clear s1 s2 r1 r2;refine enter mz mb Tryz.func56 rfl rfl (by kernel_rfl) rfl ?_ ?_
 ·simp only[go_sem,Sd.cs,Nd.cs,aP,an,Int.reduceEq,aW,aV]
 ·simp only[go_sem,Sd.cs,Nd.cs,aP,an,Int.reduceEq,aW,aV];refine ai ((hB m (.inl rfl)).mono ?_);clear hB;rintro r H' m1 aR ⟨l1,rfl,rfl⟩;simp only[go_sem,Sd.cs,Nd.cs,aP,an,Int.reduceEq,aW,aV];refine⟨fun b1=>ai ((hA m1 l1).mono ?_),fun b1=> ?_⟩
  ·clear hA;rintro r H' m2 aK ⟨fY,rfl,rfl⟩;have bV:=aa l1 fY;simp only[go_sem,Sd.cs,Nd.cs,aP,an,Int.reduceEq,aW,aV];refine⟨fun b2=> ?_,fun b2=> ?_⟩
   ·refine ai ((aD (hX m2 bV) (fun V=>rfl)).mono ?_);clear hX;rintro r H' w1 pJ ⟨cS,rfl,rfl⟩;simp only[go_sem,Sd.cs,Nd.cs,aP,an,Int.reduceEq,aW,aV];refine⟨fun c1=> ?_,fun c1=> ?_⟩
    ·refine ai ((aD (hQ w1 (aa bV cS)) (fun V=>rfl)).mono ?_);clear hQ;rintro r H' w2 s9 ⟨gV,rfl,rfl⟩;simp only[go_sem,Sd.cs,Nd.cs,aP,an,Int.reduceEq,aW,aV];refine⟨aa (aa bV cS) gV,?_⟩;rw[e0,eW,b1,b2,c1];rfl
    ·refine⟨(aa bV cS),?_⟩;rw[e0,eW,b1,b2,c1];rfl
   ·refine⟨bV,?_⟩;rw[e0,eW,b1,b2];rfl
  ·clear hA;refine⟨l1,?_⟩;rw[e0,eW,b1];rfl
theorem aar (nm:List UInt8) (ty:Ty) (tN eN:Nd) (a:Option Addr) (l cp:Nat) (b:Option Addr) (l2 cp2:Nat) (tg ex:Ex) (body alt:List St) (xs ys:List Value) (m:Mem) (hg:Glob m)
  (cT:a8 m tg tN.cs) (hex:a8 m ex eN.cs) (hl:l=body.length) (bQ:l<=cp) (cd:l2=alt.length) (dn:l2<=cp2) (ao:StOk 5 nm ty body.length alt.length) (r1:aw m a l 23 xs) (r2:aw m b l2 23 ys) (s1:bL m body xs) (s2:bL m alt ys) (B1 B2 B V:Bool)
  (hB:∀m',af m m' ->aL 112 [.v (.slice a l cp),.v (.bool false)] m' (.bool B1)) (hA:∀m',af m m' ->aL 112 [.v (.slice b l2 cp2),.v (.bool false)] m' (.bool B2)) (eW:B=(B1&&B2))
  (e0:V=((B&&de ex)&&eB (St.mk 5 nm ty tg ex body alt) (St.mk 5 [] an zE ex body []))):aL 56 [.v (.agg ⟨Sd.cs ⟨5,nm,ty,tN,eN,a,l,cp,b,l2,cp2⟩⟩)] m (.bool V):=by
 have hQ:∀m',af m m' ->aL 119 [.v (.agg ⟨Sd.cs ⟨5,nm,ty,tN,eN,a,l,cp,b,l2,cp2⟩⟩),.v (.agg ⟨Sd.cs ⟨5,[],an,aP,eN,a,l,cp,none,0,0⟩⟩)] m' (.bool (eB (St.mk 5 nm ty tg ex body alt) (St.mk 5 [] an zE ex body []))):=fun m' hle=>
  lC _ _ _ _ _ m' (aC _) (fH (m:=m') (⟨5,nm,ty,tN,eN,a,l,cp,b,l2,cp2⟩:Sd) (bY hle cT) (bY hle hex) hl bQ cd dn ao (aN hle r1) (aN hle r2) (cL hle s1) (cL hle s2))
   (fH (m:=m') (⟨5,[],an,aP,eN,a,l,cp,none,0,0⟩:Sd) lK (bY hle hex) hl bQ rfl (aC _) ⟨ao.k,aF _,lR,ao.l,aF _⟩ (aN hle r1) gK (cL hle s1) iU)
 have hX:=fun m' (hle:af m m')=>mD _ ex eN.cs m' (aC _) (hg.upM hle) (bY hle hex)
 clear s1 s2 r1 r2;refine enter mz mb Tryz.func56 rfl rfl (by kernel_rfl) rfl ?_ ?_
 ·simp only[go_sem,Sd.cs,Nd.cs,aP,an,Int.reduceEq,aW,aV]
 ·simp only[go_sem,Sd.cs,Nd.cs,aP,an,Int.reduceEq,aW,aV];refine ai ((hB m (.inl rfl)).mono ?_);clear hB;rintro r H' m1 aR ⟨l1,rfl,rfl⟩;simp only[go_sem,Sd.cs,Nd.cs,aP,an,Int.reduceEq,aW,aV];refine⟨fun b1=>ai ((hA m1 l1).mono ?_),fun b1=> ?_⟩
  ·clear hA;rintro r H' m2 aK ⟨fY,rfl,rfl⟩;have bV:=aa l1 fY;simp only[go_sem,Sd.cs,Nd.cs,aP,an,Int.reduceEq,aW,aV];refine⟨fun b2=> ?_,fun b2=> ?_⟩
   ·refine ai ((aD (hX m2 bV) (fun V=>rfl)).mono ?_);clear hX;rintro r H' w1 pJ ⟨cS,rfl,rfl⟩;simp only[go_sem,Sd.cs,Nd.cs,aP,an,Int.reduceEq,aW,aV];refine⟨fun c1=> ?_,fun c1=> ?_⟩
    ·refine ai ((aD (hQ w1 (aa bV cS)) (fun V=>rfl)).mono ?_);clear hQ;rintro r H' w2 s9 ⟨gV,rfl,rfl⟩;simp only[go_sem,Sd.cs,Nd.cs,aP,an,Int.reduceEq,aW,aV];refine⟨aa (aa bV cS) gV,?_⟩;rw[e0,eW,b1,b2,c1];rfl
    ·refine⟨(aa bV cS),?_⟩;rw[e0,eW,b1,b2,c1];rfl
   ·refine⟨bV,?_⟩;rw[e0,eW,b1,b2];rfl
  ·clear hA;refine⟨l1,?_⟩;rw[e0,eW,b1];rfl
theorem aaq (nm:List UInt8) (ty:Ty) (tN eN:Nd) (a:Option Addr) (l cp:Nat) (b:Option Addr) (l2 cp2:Nat) (tg ex:Ex) (body alt:List St) (xs ys:List Value) (m:Mem) (hg:Glob m)
  (cT:a8 m tg tN.cs) (hex:a8 m ex eN.cs) (hl:l=body.length) (bQ:l<=cp) (cd:l2=alt.length) (dn:l2<=cp2) (ao:StOk 6 nm ty body.length alt.length) (r1:aw m a l 23 xs) (r2:aw m b l2 23 ys) (s1:bL m body xs) (s2:bL m alt ys) (B1 B2 B V:Bool)
  (hB:∀m',af m m' ->aL 112 [.v (.slice a l cp),.v (.bool false)] m' (.bool B1)) (hA:∀m',af m m' ->aL 112 [.v (.slice b l2 cp2),.v (.bool false)] m' (.bool B2)) (eW:B=(B1&&B2))
  (e0:V=((BI ex||de ex)&&eB (St.mk 6 nm ty tg ex body alt) (St.mk 6 [] an zE ex [] []))):aL 56 [.v (.agg ⟨Sd.cs ⟨6,nm,ty,tN,eN,a,l,cp,b,l2,cp2⟩⟩)] m (.bool V):=by
 have hQ:∀m',af m m' ->aL 119 [.v (.agg ⟨Sd.cs ⟨6,nm,ty,tN,eN,a,l,cp,b,l2,cp2⟩⟩),.v (.agg ⟨Sd.cs ⟨6,[],an,aP,eN,none,0,0,none,0,0⟩⟩)] m' (.bool (eB (St.mk 6 nm ty tg ex body alt) (St.mk 6 [] an zE ex [] []))):=fun m' hle=>
  lC _ _ _ _ _ m' (aC _) (fH (m:=m') (⟨6,nm,ty,tN,eN,a,l,cp,b,l2,cp2⟩:Sd) (bY hle cT) (bY hle hex) hl bQ cd dn ao (aN hle r1) (aN hle r2) (cL hle s1) (cL hle s2))
   (fH (m:=m') (⟨6,[],an,aP,eN,none,0,0,none,0,0⟩:Sd) lK (bY hle hex) rfl (aC _) rfl (aC _) ⟨ao.k,aF _,lR,aF _,aF _⟩ gK gK iU iU)
 have hX:=fun m' (hle:af m m')=>mD _ ex eN.cs m' (aC _) (hg.upM hle) (bY hle hex)
 have hZ:=fun m' (_:af m m')=>Tb hex m'
 clear s1 s2 r1 r2;refine enter mz mb Tryz.func56 rfl rfl (by kernel_rfl) rfl ?_ ?_
 ·simp only[go_sem,Sd.cs,Nd.cs,aP,an,Int.reduceEq,aW,aV]
 ·simp only[go_sem,Sd.cs,Nd.cs,aP,an,Int.reduceEq,aW,aV];refine ai ((hB m (.inl rfl)).mono ?_);clear hB;rintro r H' m1 aR ⟨l1,rfl,rfl⟩;simp only[go_sem,Sd.cs,Nd.cs,aP,an,Int.reduceEq,aW,aV];refine⟨fun b1=>ai ((hA m1 l1).mono ?_),fun b1=> ?_⟩
  ·clear hA;rintro r H' m2 aK ⟨fY,rfl,rfl⟩;have bV:=aa l1 fY;simp only[go_sem,Sd.cs,Nd.cs,aP,an,Int.reduceEq,aW,aV];refine ai ((aD (hZ m2 bV) (fun V=>rfl)).mono ?_);clear hZ;rintro r H' w1 pJ ⟨cS,rfl,rfl⟩;simp only[go_sem,Sd.cs,Nd.cs,aP,an,Int.reduceEq,aW,aV];refine⟨fun c=> ?_,fun c=> ?_⟩
   ·refine ai ((aD (hX w1 (aa bV cS)) (fun V=>rfl)).mono ?_);clear hX;rintro r H' w2 s9 ⟨gV,rfl,rfl⟩;simp only[go_sem,Sd.cs,Nd.cs,aP,an,Int.reduceEq,aW,aV];refine⟨fun c2=> ?_,fun c2=> ?_⟩
    ·refine ai ((aD (hQ w2 (aa (aa bV cS) gV)) (fun V=>rfl)).mono ?_);clear hQ;rintro r H' w3 xq ⟨iK,rfl,rfl⟩;simp only[go_sem,Sd.cs,Nd.cs,aP,an,Int.reduceEq,aW,aV];refine⟨aa (aa (aa bV cS) gV) iK,?_⟩;rw[e0,c,c2];rfl
    ·refine⟨(aa (aa bV cS) gV),?_⟩;rw[e0,c,c2];rfl
   ·refine ai ((aD (hQ w1 (aa bV cS)) (fun V=>rfl)).mono ?_);clear hQ;rintro r H' w4 zZ ⟨kK,rfl,rfl⟩;simp only[go_sem,Sd.cs,Nd.cs,aP,an,Int.reduceEq,aW,aV];refine⟨aa (aa bV cS) kK,?_⟩;rw[e0,c];rfl
  ·clear hA;refine ai ((aD (hZ m1 l1) (fun V=>rfl)).mono ?_);clear hZ;rintro r H' w5 hw5 ⟨pF,rfl,rfl⟩;simp only[go_sem,Sd.cs,Nd.cs,aP,an,Int.reduceEq,aW,aV];refine⟨fun c=> ?_,fun c=> ?_⟩
   ·refine ai ((aD (hX w5 (aa l1 pF)) (fun V=>rfl)).mono ?_);clear hX;rintro r H' w6 hw6 ⟨zT,rfl,rfl⟩;simp only[go_sem,Sd.cs,Nd.cs,aP,an,Int.reduceEq,aW,aV];refine⟨fun c6=> ?_,fun c6=> ?_⟩
    ·refine ai ((aD (hQ w6 (aa (aa l1 pF) zT)) (fun V=>rfl)).mono ?_);clear hQ;rintro r H' w7 hw7 ⟨lw7,rfl,rfl⟩;simp only[go_sem,Sd.cs,Nd.cs,aP,an,Int.reduceEq,aW,aV];refine⟨aa (aa (aa l1 pF) zT) lw7,?_⟩;rw[e0,c,c6];rfl
    ·refine⟨(aa (aa l1 pF) zT),?_⟩;rw[e0,c,c6];rfl
   ·refine ai ((aD (hQ w5 (aa l1 pF)) (fun V=>rfl)).mono ?_);clear hQ;rintro r H' w8 hw8 ⟨lw8,rfl,rfl⟩;simp only[go_sem,Sd.cs,Nd.cs,aP,an,Int.reduceEq,aW,aV];refine⟨aa (aa l1 pF) lw8,?_⟩;rw[e0,c];rfl
theorem aap (nm:List UInt8) (ty:Ty) (tN eN:Nd) (a:Option Addr) (l cp:Nat) (b:Option Addr) (l2 cp2:Nat) (tg ex:Ex) (body alt:List St) (xs ys:List Value) (m:Mem) (hg:Glob m)
  (cT:a8 m tg tN.cs) (hex:a8 m ex eN.cs) (hl:l=body.length) (bQ:l<=cp) (cd:l2=alt.length) (dn:l2<=cp2) (ao:StOk 7 nm ty body.length alt.length) (r1:aw m a l 23 xs) (r2:aw m b l2 23 ys) (s1:bL m body xs) (s2:bL m alt ys) (B1 B2 B V:Bool)
  (hB:∀m',af m m' ->aL 112 [.v (.slice a l cp),.v (.bool false)] m' (.bool B1)) (hA:∀m',af m m' ->aL 112 [.v (.slice b l2 cp2),.v (.bool false)] m' (.bool B2)) (eW:B=(B1&&B2))
  (e0:V=(de ex&&eB (St.mk 7 nm ty tg ex body alt) (St.mk 7 [] an zE ex [] []))):aL 56 [.v (.agg ⟨Sd.cs ⟨7,nm,ty,tN,eN,a,l,cp,b,l2,cp2⟩⟩)] m (.bool V):=by
 have hQ:∀m',af m m' ->aL 119 [.v (.agg ⟨Sd.cs ⟨7,nm,ty,tN,eN,a,l,cp,b,l2,cp2⟩⟩),.v (.agg ⟨Sd.cs ⟨7,[],an,aP,eN,none,0,0,none,0,0⟩⟩)] m' (.bool (eB (St.mk 7 nm ty tg ex body alt) (St.mk 7 [] an zE ex [] []))):=fun m' hle=>
  lC _ _ _ _ _ m' (aC _) (fH (m:=m') (⟨7,nm,ty,tN,eN,a,l,cp,b,l2,cp2⟩:Sd) (bY hle cT) (bY hle hex) hl bQ cd dn ao (aN hle r1) (aN hle r2) (cL hle s1) (cL hle s2))
   (fH (m:=m') (⟨7,[],an,aP,eN,none,0,0,none,0,0⟩:Sd) lK (bY hle hex) rfl (aC _) rfl (aC _) ⟨ao.k,aF _,lR,aF _,aF _⟩ gK gK iU iU)
 have hX:=fun m' (hle:af m m')=>mD _ ex eN.cs m' (aC _) (hg.upM hle) (bY hle hex)
 clear s1 s2 r1 r2;refine enter mz mb Tryz.func56 rfl rfl (by kernel_rfl) rfl ?_ ?_
 ·simp only[go_sem,Sd.cs,Nd.cs,aP,an,Int.reduceEq,aW,aV]
 ·simp only[go_sem,Sd.cs,Nd.cs,aP,an,Int.reduceEq,aW,aV];refine ai ((hB m (.inl rfl)).mono ?_);clear hB;rintro r H' m1 aR ⟨l1,rfl,rfl⟩;simp only[go_sem,Sd.cs,Nd.cs,aP,an,Int.reduceEq,aW,aV];refine⟨fun b1=>ai ((hA m1 l1).mono ?_),fun b1=> ?_⟩
  ·clear hA;rintro r H' m2 aK ⟨fY,rfl,rfl⟩;have bV:=aa l1 fY;simp only[go_sem,Sd.cs,Nd.cs,aP,an,Int.reduceEq,aW,aV];refine ai ((aD (hX m2 bV) (fun V=>rfl)).mono ?_);clear hX;rintro r H' w1 pJ ⟨cS,rfl,rfl⟩;simp only[go_sem,Sd.cs,Nd.cs,aP,an,Int.reduceEq,aW,aV];refine⟨fun c1=> ?_,fun c1=> ?_⟩
   ·refine ai ((aD (hQ w1 (aa bV cS)) (fun V=>rfl)).mono ?_);clear hQ;rintro r H' w2 s9 ⟨gV,rfl,rfl⟩;simp only[go_sem,Sd.cs,Nd.cs,aP,an,Int.reduceEq,aW,aV];refine⟨aa (aa bV cS) gV,?_⟩;rw[e0,c1];rfl
   ·refine⟨(aa bV cS),?_⟩;rw[e0,c1];rfl
  ·clear hA;refine ai ((aD (hX m1 l1) (fun V=>rfl)).mono ?_);clear hX;rintro r H' w3 xq ⟨iK,rfl,rfl⟩;simp only[go_sem,Sd.cs,Nd.cs,aP,an,Int.reduceEq,aW,aV];refine⟨fun c3=> ?_,fun c3=> ?_⟩
   ·refine ai ((aD (hQ w3 (aa l1 iK)) (fun V=>rfl)).mono ?_);clear hQ;rintro r H' w4 zZ ⟨kK,rfl,rfl⟩;simp only[go_sem,Sd.cs,Nd.cs,aP,an,Int.reduceEq,aW,aV];refine⟨aa (aa l1 iK) kK,?_⟩;rw[e0,c3];rfl
   ·refine⟨(aa l1 iK),?_⟩;rw[e0,c3];rfl
theorem aao (nm:List UInt8) (ty:Ty) (tN eN:Nd) (a:Option Addr) (l cp:Nat) (b:Option Addr) (l2 cp2:Nat) (tg ex:Ex) (body alt:List St) (xs ys:List Value) (m:Mem) (hg:Glob m)
  (cT:a8 m tg tN.cs) (hex:a8 m ex eN.cs) (hl:l=body.length) (bQ:l<=cp) (cd:l2=alt.length) (dn:l2<=cp2) (ao:StOk 8 nm ty body.length alt.length) (r1:aw m a l 23 xs) (r2:aw m b l2 23 ys) (s1:bL m body xs) (s2:bL m alt ys) (B1 B2 B V:Bool)
  (hB:∀m',af m m' ->aL 112 [.v (.slice a l cp),.v (.bool false)] m' (.bool B1)) (hA:∀m',af m m' ->aL 112 [.v (.slice b l2 cp2),.v (.bool false)] m' (.bool B2)) (eW:B=(B1&&B2))
  (e0:V=((B&&jW nm&&iS ty.dim ty.base ty.name)&&eB (St.mk 8 nm ty tg ex body alt) (St.mk 8 nm ty zE zE body alt))):aL 56 [.v (.agg ⟨Sd.cs ⟨8,nm,ty,tN,eN,a,l,cp,b,l2,cp2⟩⟩)] m (.bool V):=by
 have hQ:∀m',af m m' ->aL 119 [.v (.agg ⟨Sd.cs ⟨8,nm,ty,tN,eN,a,l,cp,b,l2,cp2⟩⟩),.v (.agg ⟨Sd.cs ⟨8,nm,ty,aP,aP,a,l,cp,b,l2,cp2⟩⟩)] m' (.bool (eB (St.mk 8 nm ty tg ex body alt) (St.mk 8 nm ty zE zE body alt))):=fun m' hle=>
  lC _ _ _ _ _ m' (aC _) (fH (m:=m') (⟨8,nm,ty,tN,eN,a,l,cp,b,l2,cp2⟩:Sd) (bY hle cT) (bY hle hex) hl bQ cd dn ao (aN hle r1) (aN hle r2) (cL hle s1) (cL hle s2))
   (fH (m:=m') (⟨8,nm,ty,aP,aP,a,l,cp,b,l2,cp2⟩:Sd) lK lK hl bQ cd dn ⟨ao.k,ao.nm,ao.ty,ao.l,ao.l2⟩ (aN hle r1) (aN hle r2) (cL hle s1) (cL hle s2))
 have Cp:BL nm:=cQ ao.nm (by decide);have Co:BL ty.name:=cQ ao.ty.2.2 (by decide);clear s1 s2 r1 r2;refine enter mz mb Tryz.func56 rfl rfl (by kernel_rfl) rfl ?_ ?_
 ·simp only[go_sem,Sd.cs,Nd.cs,aP,an,Int.reduceEq,aW,aV]
 ·simp only[go_sem,Sd.cs,Nd.cs,aP,an,Int.reduceEq,aW,aV];refine ai ((hB m (.inl rfl)).mono ?_);clear hB;rintro r H' m1 aR ⟨l1,rfl,rfl⟩;simp only[go_sem,Sd.cs,Nd.cs,aP,an,Int.reduceEq,aW,aV];refine⟨fun b1=>ai ((hA m1 l1).mono ?_),fun b1=> ?_⟩
  ·clear hA;rintro r H' m2 aK ⟨fY,rfl,rfl⟩;have bV:=aa l1 fY;simp only[go_sem,Sd.cs,Nd.cs,aP,an,Int.reduceEq,aW,aV];refine⟨fun _=>Cp,fun _=>Co,fun c=> ?_,fun c=> ?_⟩
   ·refine ai ((aD (hQ m2 bV) (fun V=>rfl)).mono ?_);clear hQ;rintro r H' w1 pJ ⟨cS,rfl,rfl⟩;simp only[go_sem,Sd.cs,Nd.cs,aP,an,Int.reduceEq,aW,aV];refine⟨aa bV cS,?_⟩;rw[e0,eW,b1,c.1.1,c.1.2,c.2];rfl
   ·refine⟨bV,?_⟩;rw[e0,eW,b1];rcases c with (c |c) |c<;>simp [c]
  ·clear hA;refine⟨l1,?_⟩;rw[e0,eW,b1];rfl
theorem aan (nm:List UInt8) (ty:Ty) (tN eN:Nd) (a:Option Addr) (l cp:Nat) (b:Option Addr) (l2 cp2:Nat) (tg ex:Ex) (body alt:List St) (xs ys:List Value) (m:Mem) (hg:Glob m)
  (cT:a8 m tg tN.cs) (hex:a8 m ex eN.cs) (hl:l=body.length) (bQ:l<=cp) (cd:l2=alt.length) (dn:l2<=cp2) (ao:StOk 9 nm ty body.length alt.length) (r1:aw m a l 23 xs) (r2:aw m b l2 23 ys) (s1:bL m body xs) (s2:bL m alt ys) (B1 B2 B V:Bool)
  (hB:∀m',af m m' ->aL 112 [.v (.slice a l cp),.v (.bool false)] m' (.bool B1)) (hA:∀m',af m m' ->aL 112 [.v (.slice b l2 cp2),.v (.bool false)] m' (.bool B2)) (eW:B=(B1&&B2))
  (e0:V=((B&&de ex)&&eB (St.mk 9 nm ty tg ex body alt) (St.mk 9 [] an zE ex body []))):aL 56 [.v (.agg ⟨Sd.cs ⟨9,nm,ty,tN,eN,a,l,cp,b,l2,cp2⟩⟩)] m (.bool V):=by
 have hQ:∀m',af m m' ->aL 119 [.v (.agg ⟨Sd.cs ⟨9,nm,ty,tN,eN,a,l,cp,b,l2,cp2⟩⟩),.v (.agg ⟨Sd.cs ⟨9,[],an,aP,eN,a,l,cp,none,0,0⟩⟩)] m' (.bool (eB (St.mk 9 nm ty tg ex body alt) (St.mk 9 [] an zE ex body []))):=fun m' hle=>
  lC _ _ _ _ _ m' (aC _) (fH (m:=m') (⟨9,nm,ty,tN,eN,a,l,cp,b,l2,cp2⟩:Sd) (bY hle cT) (bY hle hex) hl bQ cd dn ao (aN hle r1) (aN hle r2) (cL hle s1) (cL hle s2))
   (fH (m:=m') (⟨9,[],an,aP,eN,a,l,cp,none,0,0⟩:Sd) lK (bY hle hex) hl bQ rfl (aC _) ⟨ao.k,aF _,lR,ao.l,aF _⟩ (aN hle r1) gK (cL hle s1) iU)
 have hX:=fun m' (hle:af m m')=>mD _ ex eN.cs m' (aC _) (hg.upM hle) (bY hle hex)
 clear s1 s2 r1 r2;refine enter mz mb Tryz.func56 rfl rfl (by kernel_rfl) rfl ?_ ?_
 ·simp only[go_sem,Sd.cs,Nd.cs,aP,an,Int.reduceEq,aW,aV]
 ·simp only[go_sem,Sd.cs,Nd.cs,aP,an,Int.reduceEq,aW,aV];refine ai ((hB m (.inl rfl)).mono ?_);clear hB;rintro r H' m1 aR ⟨l1,rfl,rfl⟩;simp only[go_sem,Sd.cs,Nd.cs,aP,an,Int.reduceEq,aW,aV];refine⟨fun b1=>ai ((hA m1 l1).mono ?_),fun b1=> ?_⟩
  ·clear hA;rintro r H' m2 aK ⟨fY,rfl,rfl⟩;have bV:=aa l1 fY;simp only[go_sem,Sd.cs,Nd.cs,aP,an,Int.reduceEq,aW,aV];refine⟨fun b2=> ?_,fun b2=> ?_⟩
   ·refine ai ((aD (hX m2 bV) (fun V=>rfl)).mono ?_);clear hX;rintro r H' w1 pJ ⟨cS,rfl,rfl⟩;simp only[go_sem,Sd.cs,Nd.cs,aP,an,Int.reduceEq,aW,aV];refine⟨fun c1=> ?_,fun c1=> ?_⟩
    ·refine ai ((aD (hQ w1 (aa bV cS)) (fun V=>rfl)).mono ?_);clear hQ;rintro r H' w2 s9 ⟨gV,rfl,rfl⟩;simp only[go_sem,Sd.cs,Nd.cs,aP,an,Int.reduceEq,aW,aV];refine⟨aa (aa bV cS) gV,?_⟩;rw[e0,eW,b1,b2,c1];rfl
    ·refine⟨(aa bV cS),?_⟩;rw[e0,eW,b1,b2,c1];rfl
   ·refine⟨bV,?_⟩;rw[e0,eW,b1,b2];rfl
  ·clear hA;refine⟨l1,?_⟩;rw[e0,eW,b1];rfl
theorem Yy (nm:List UInt8) (ty:Ty) (tN eN:Nd) (a:Option Addr) (l cp:Nat) (b:Option Addr) (l2 cp2:Nat) (tg ex:Ex) (body alt:List St) (xs ys:List Value) (m:Mem) (hg:Glob m)
  (cT:a8 m tg tN.cs) (hex:a8 m ex eN.cs) (hl:l=body.length) (bQ:l<=cp) (cd:l2=alt.length) (dn:l2<=cp2) (ao:StOk 10 nm ty body.length alt.length) (r1:aw m a l 23 xs) (r2:aw m b l2 23 ys) (s1:bL m body xs) (s2:bL m alt ys) (B1 B2 B V:Bool)
  (hB:∀m',af m m' ->aL 112 [.v (.slice a l cp),.v (.bool false)] m' (.bool B1)) (hA:∀m',af m m' ->aL 112 [.v (.slice b l2 cp2),.v (.bool false)] m' (.bool B2)) (eW:B=(B1&&B2))
  (e0:V=(B&&eB (St.mk 10 nm ty tg ex body alt) (St.mk 10 [] an zE zE body []))):aL 56 [.v (.agg ⟨Sd.cs ⟨10,nm,ty,tN,eN,a,l,cp,b,l2,cp2⟩⟩)] m (.bool V):=by
 have hQ:∀m',af m m' ->aL 119 [.v (.agg ⟨Sd.cs ⟨10,nm,ty,tN,eN,a,l,cp,b,l2,cp2⟩⟩),.v (.agg ⟨Sd.cs ⟨10,[],an,aP,aP,a,l,cp,none,0,0⟩⟩)] m' (.bool (eB (St.mk 10 nm ty tg ex body alt) (St.mk 10 [] an zE zE body []))):=fun m' hle=>
  lC _ _ _ _ _ m' (aC _) (fH (m:=m') (⟨10,nm,ty,tN,eN,a,l,cp,b,l2,cp2⟩:Sd) (bY hle cT) (bY hle hex) hl bQ cd dn ao (aN hle r1) (aN hle r2) (cL hle s1) (cL hle s2))
   (fH (m:=m') (⟨10,[],an,aP,aP,a,l,cp,none,0,0⟩:Sd) lK lK hl bQ rfl (aC _) ⟨ao.k,aF _,lR,ao.l,aF _⟩ (aN hle r1) gK (cL hle s1) iU)
 clear s1 s2 r1 r2;refine enter mz mb Tryz.func56 rfl rfl (by kernel_rfl) rfl ?_ ?_
 ·simp only[go_sem,Sd.cs,Nd.cs,aP,an,Int.reduceEq,aW,aV]
 ·simp only[go_sem,Sd.cs,Nd.cs,aP,an,Int.reduceEq,aW,aV];refine ai ((hB m (.inl rfl)).mono ?_);clear hB;rintro r H' m1 aR ⟨l1,rfl,rfl⟩;simp only[go_sem,Sd.cs,Nd.cs,aP,an,Int.reduceEq,aW,aV];refine⟨fun b1=>ai ((hA m1 l1).mono ?_),fun b1=> ?_⟩
  ·clear hA;rintro r H' m2 aK ⟨fY,rfl,rfl⟩;have bV:=aa l1 fY;simp only[go_sem,Sd.cs,Nd.cs,aP,an,Int.reduceEq,aW,aV];refine⟨fun b2=> ?_,fun b2=> ?_⟩
   ·refine ai ((aD (hQ m2 bV) (fun V=>rfl)).mono ?_);clear hQ;rintro r H' w1 pJ ⟨cS,rfl,rfl⟩;simp only[go_sem,Sd.cs,Nd.cs,aP,an,Int.reduceEq,aW,aV];refine⟨aa bV cS,?_⟩;rw[e0,eW,b1,b2];rfl
   ·refine⟨bV,?_⟩;rw[e0,eW,b1,b2];rfl
  ·clear hA;refine⟨l1,?_⟩;rw[e0,eW,b1];rfl
theorem Yx (nm:List UInt8) (ty:Ty) (tN eN:Nd) (a:Option Addr) (l cp:Nat) (b:Option Addr) (l2 cp2:Nat) (tg ex:Ex) (body alt:List St) (xs ys:List Value) (m:Mem) (hg:Glob m)
  (cT:a8 m tg tN.cs) (hex:a8 m ex eN.cs) (hl:l=body.length) (bQ:l<=cp) (cd:l2=alt.length) (dn:l2<=cp2) (ao:StOk 11 nm ty body.length alt.length) (r1:aw m a l 23 xs) (r2:aw m b l2 23 ys) (s1:bL m body xs) (s2:bL m alt ys) (B1 B2 B V:Bool)
  (hB:∀m',af m m' ->aL 112 [.v (.slice a l cp),.v (.bool false)] m' (.bool B1)) (hA:∀m',af m m' ->aL 112 [.v (.slice b l2 cp2),.v (.bool false)] m' (.bool B2)) (eW:B=(B1&&B2))
  (e0:V=(yA ex&&eB (St.mk 11 nm ty tg ex body alt) (St.mk 11 [] an zE ex [] []))):aL 56 [.v (.agg ⟨Sd.cs ⟨11,nm,ty,tN,eN,a,l,cp,b,l2,cp2⟩⟩)] m (.bool V):=by
 have hQ:∀m',af m m' ->aL 119 [.v (.agg ⟨Sd.cs ⟨11,nm,ty,tN,eN,a,l,cp,b,l2,cp2⟩⟩),.v (.agg ⟨Sd.cs ⟨11,[],an,aP,eN,none,0,0,none,0,0⟩⟩)] m' (.bool (eB (St.mk 11 nm ty tg ex body alt) (St.mk 11 [] an zE ex [] []))):=fun m' hle=>
  lC _ _ _ _ _ m' (aC _) (fH (m:=m') (⟨11,nm,ty,tN,eN,a,l,cp,b,l2,cp2⟩:Sd) (bY hle cT) (bY hle hex) hl bQ cd dn ao (aN hle r1) (aN hle r2) (cL hle s1) (cL hle s2))
   (fH (m:=m') (⟨11,[],an,aP,eN,none,0,0,none,0,0⟩:Sd) lK (bY hle hex) rfl (aC _) rfl (aC _) ⟨ao.k,aF _,lR,aF _,aF _⟩ gK gK iU iU)
 have hX:=fun m' (hle:af m m')=>OX ex eN.cs m' (hg.upM hle) (bY hle hex)
 clear s1 s2 r1 r2;refine enter mz mb Tryz.func56 rfl rfl (by kernel_rfl) rfl ?_ ?_
 ·simp only[go_sem,Sd.cs,Nd.cs,aP,an,Int.reduceEq,aW,aV]
 ·simp only[go_sem,Sd.cs,Nd.cs,aP,an,Int.reduceEq,aW,aV];refine ai ((hB m (.inl rfl)).mono ?_);clear hB;rintro r H' m1 aR ⟨l1,rfl,rfl⟩;simp only[go_sem,Sd.cs,Nd.cs,aP,an,Int.reduceEq,aW,aV];refine⟨fun b1=>ai ((hA m1 l1).mono ?_),fun b1=> ?_⟩
  ·clear hA;rintro r H' m2 aK ⟨fY,rfl,rfl⟩;have bV:=aa l1 fY;simp only[go_sem,Sd.cs,Nd.cs,aP,an,Int.reduceEq,aW,aV];refine ai ((aD (hX m2 bV) (fun V=>rfl)).mono ?_);clear hX;rintro r H' w1 pJ ⟨cS,rfl,rfl⟩;simp only[go_sem,Sd.cs,Nd.cs,aP,an,Int.reduceEq,aW,aV];refine⟨fun c1=> ?_,fun c1=> ?_⟩
   ·refine ai ((aD (hQ w1 (aa bV cS)) (fun V=>rfl)).mono ?_);clear hQ;rintro r H' w2 s9 ⟨gV,rfl,rfl⟩;simp only[go_sem,Sd.cs,Nd.cs,aP,an,Int.reduceEq,aW,aV];refine⟨aa (aa bV cS) gV,?_⟩;rw[e0,c1];rfl
   ·refine⟨(aa bV cS),?_⟩;rw[e0,c1];rfl
  ·clear hA;refine ai ((aD (hX m1 l1) (fun V=>rfl)).mono ?_);clear hX;rintro r H' w3 xq ⟨iK,rfl,rfl⟩;simp only[go_sem,Sd.cs,Nd.cs,aP,an,Int.reduceEq,aW,aV];refine⟨fun c3=> ?_,fun c3=> ?_⟩
   ·refine ai ((aD (hQ w3 (aa l1 iK)) (fun V=>rfl)).mono ?_);clear hQ;rintro r H' w4 zZ ⟨kK,rfl,rfl⟩;simp only[go_sem,Sd.cs,Nd.cs,aP,an,Int.reduceEq,aW,aV];refine⟨aa (aa l1 iK) kK,?_⟩;rw[e0,c3];rfl
   ·refine⟨(aa l1 iK),?_⟩;rw[e0,c3];rfl
theorem aaw (k:Int) (nm:List UInt8) (ty:Ty) (tN eN:Nd) (a:Option Addr) (l cp:Nat) (b:Option Addr) (l2 cp2:Nat) (m:Mem) (B1 B2:Bool) (e:∀j:Int,1<=j->j<=11->(k=j)=False)
  (hB:∀m',af m m' ->aL 112 [.v (.slice a l cp),.v (.bool false)] m' (.bool B1)) (hA:∀m',af m m' ->aL 112 [.v (.slice b l2 cp2),.v (.bool false)] m' (.bool B2)):
  aL 56 [.v (.agg ⟨Sd.cs ⟨k,nm,ty,tN,eN,a,l,cp,b,l2,cp2⟩⟩)] m (.bool false):=by
 have e1:=e 1 (by decide) (by decide);have e2:=e 2 (by decide) (by decide);have e3:=e 3 (by decide) (by decide);have e4:=e 4 (by decide) (by decide);have e5:=e 5 (by decide) (by decide);have e6:=e 6 (by decide) (by decide);have e7:=e 7 (by decide) (by decide);have e8:=e 8 (by decide) (by decide);have e9:=e 9 (by decide) (by decide);have cn:=e 10 (by decide) (by decide);have cu:=e 11 (by decide) (by decide);refine enter mz mb Tryz.func56 rfl rfl (by kernel_rfl) rfl ?_ ?_
 ·simp only[go_sem,Sd.cs,Nd.cs]
 ·simp only[go_sem,Sd.cs,Nd.cs];refine ai ((hB m (.inl rfl)).mono ?_);clear hB;rintro r H' m1 aR ⟨l1,rfl,rfl⟩;simp only[go_sem,Sd.cs,Nd.cs,e1,e2,e3,e4,e5,e6,e7,e8,e9,cn,cu,aV];refine⟨fun b1=>ai ((hA m1 l1).mono ?_),fun b1=>l1⟩;clear hA;rintro r H' m2 aK ⟨fY,rfl,rfl⟩;simp only[go_sem,Sd.cs,Nd.cs,e1,e2,e3,e4,e5,e6,e7,e8,e9,cn,cu,aV];exact aa l1 fY
theorem SG {k:Int}:(k=1\/k=2\/k=3\/k=4\/k=5\/k=6\/k=7\/k=8\/k=9\/k=10\/k=11)\/∀j:Int,1<=j->j<=11->(k=j)=False:=by
 by_cases h:1<=k/\k<=11
 ·left;omega
 ·right;intro j h1 h2;exact eq_false fun e=>h (by omega)
theorem Ds:∀(h:Nat) (e:St) (cs:List Value) (m:Mem),fS e<=h->Glob m->et m e cs->aL 56 [.v (.agg ⟨cs⟩)] m (.bool (fx e))
 |0,.mk k nm ty tg ex body alt,cs,m,hd,_,_=>by simp [fS] at hd
 |h+1,.mk k nm ty tg ex body alt,cs,m,hd,hg,he=>by
  obtain⟨⟨k,nm,ty,tN,eN,a,l,cp,b,l2,cp2⟩,rfl,rfl,rfl,rfl,cT,hex,hl,bQ,cd,dn,ao,xs,ys,r1,r2,s1,s2⟩:=vI he;simp only[fS] at hd;simp only at cT hex hl bQ cd dn ao r1 r2;have hB:=fun m' (hle:af m m')=>DC false body a l cp xs m' hl (aN hle r1) (cL hle s1) (by rw[hl];exact ao.l) fun e he cs m2 bH bX=>Ds h e cs m2 (by have:=rH he;omega) (hg.upM (aa hle bH)) bX
  have hA:=fun m' (hle:af m m')=>DC false alt b l2 cp2 ys m' cd (aN hle r2) (cL hle s2) (by rw[cd];exact ao.l2) fun e he cs m2 bH bX=>Ds h e cs m2 (by have:=rH he;omega) (hg.upM (aa hle bH)) bX
  simp only;rcases SG (k:=k) with hk |hk
  ·rcases hk with rfl |rfl |rfl |rfl |rfl |rfl |rfl |rfl |rfl |rfl |rfl
   ·exact aav nm ty tN eN a l cp b l2 cp2 tg ex body alt xs ys m hg cT hex hl bQ cd dn ao r1 r2 s1 s2 _ _ _ _ hB hA rfl (by simp only[fx,j0,mO,Int.reduceEq,or_false,or_true,false_or,true_or,if_true,if_false])
   ·exact aau nm ty tN eN a l cp b l2 cp2 tg ex body alt xs ys m hg cT hex hl bQ cd dn ao r1 r2 s1 s2 _ _ _ _ hB hA rfl (by simp only[fx,j0,mO,Int.reduceEq,or_false,or_true,false_or,true_or,if_true,if_false])
   ·exact aat nm ty tN eN a l cp b l2 cp2 tg ex body alt xs ys m hg cT hex hl bQ cd dn ao r1 r2 s1 s2 _ _ _ _ hB hA rfl (by simp only[fx,j0,mO,Int.reduceEq,or_false,or_true,false_or,true_or,if_true,if_false])
   ·exact aas nm ty tN eN a l cp b l2 cp2 tg ex body alt xs ys m hg cT hex hl bQ cd dn ao r1 r2 s1 s2 _ _ _ _ hB hA rfl (by simp only[fx,j0,mO,Int.reduceEq,or_false,or_true,false_or,true_or,if_true,if_false])
   ·exact aar nm ty tN eN a l cp b l2 cp2 tg ex body alt xs ys m hg cT hex hl bQ cd dn ao r1 r2 s1 s2 _ _ _ _ hB hA rfl (by simp only[fx,j0,mO,Int.reduceEq,or_false,or_true,false_or,true_or,if_true,if_false])
   ·exact aaq nm ty tN eN a l cp b l2 cp2 tg ex body alt xs ys m hg cT hex hl bQ cd dn ao r1 r2 s1 s2 _ _ _ _ hB hA rfl (by simp only[fx,j0,mO,Int.reduceEq,or_false,or_true,false_or,true_or,if_true,if_false])
   ·exact aap nm ty tN eN a l cp b l2 cp2 tg ex body alt xs ys m hg cT hex hl bQ cd dn ao r1 r2 s1 s2 _ _ _ _ hB hA rfl (by simp only[fx,j0,mO,Int.reduceEq,or_false,or_true,false_or,true_or,if_true,if_false])
   ·exact aao nm ty tN eN a l cp b l2 cp2 tg ex body alt xs ys m hg cT hex hl bQ cd dn ao r1 r2 s1 s2 _ _ _ _ hB hA rfl (by simp only[fx,j0,mO,Int.reduceEq,or_false,or_true,false_or,true_or,if_true,if_false])
   ·exact aan nm ty tN eN a l cp b l2 cp2 tg ex body alt xs ys m hg cT hex hl bQ cd dn ao r1 r2 s1 s2 _ _ _ _ hB hA rfl (by simp only[fx,j0,mO,Int.reduceEq,or_false,or_true,false_or,true_or,if_true,if_false])
   ·exact Yy nm ty tN eN a l cp b l2 cp2 tg ex body alt xs ys m hg cT hex hl bQ cd dn ao r1 r2 s1 s2 _ _ _ _ hB hA rfl (by simp only[fx,j0,mO,Int.reduceEq,or_false,or_true,false_or,true_or,if_true,if_false])
   ·exact Yx nm ty tN eN a l cp b l2 cp2 tg ex body alt xs ys m hg cT hex hl bQ cd dn ao r1 r2 s1 s2 _ _ _ _ hB hA rfl (by simp only[fx,j0,mO,Int.reduceEq,or_false,or_true,false_or,true_or,if_true,if_false])
  ·have hv:=aaw k nm ty tN eN a l cp b l2 cp2 m _ _ hk hB hA;have:fx (.mk k nm ty tg ex body alt)=false:=by
    have e:∀j:Int,1<=j->j<=11->¬k=j:=fun j h1 h2 h3=>by have:=hk j h1 h2;rw[this] at h3;exact h3
    simp only[fx,j0,hk 1 (by decide) (by decide),hk 2 (by decide) (by decide),hk 3 (by decide) (by decide),hk 4 (by decide) (by decide),hk 5 (by decide) (by decide),hk 6 (by decide) (by decide),hk 7 (by decide) (by decide),hk 8 (by decide) (by decide),hk 9 (by decide) (by decide),hk 10 (by decide) (by decide),hk 11 (by decide) (by decide),or_false,if_false,Bool.false_and]
   rw[this];exact hv
theorem IY (sup:Bool) (l:List St) (a:Option Addr) (n c:Nat) (xs:List Value) (m:Mem) (hg:Glob m) (hl:n=l.length) (hr:aw m a n 23 xs) (hs:bL m l xs) (hn:n<=ay):
  aL 112 [.v (.slice a n c),.v (.bool sup)] m (.bool (tZ sup l)):=
 DC sup l a n c xs m hl hr hs hn fun e _ cs m' hle bX=>Ds _ e cs m' (aC _) (hg.upM hle) bX
def hasB (fl m:Int):Bool:= !decide (bits .and .i64 fl m=0)
def qG (fl:Int):Bool:=decide (bits .and .i64 fl 7=0)||decide (bits .and .i64 fl 7=1)||decide (bits .and .i64 fl 7=2)||decide (bits .and .i64 fl 7=4)
def qw (fl al:Int):Bool:=decide (bits .andNot .i64 fl al=0)
def rP (fl:Int):Bool:=qG fl&&qw fl 1087&& !(hasB fl 1024&&hasB fl 58)&&(!hasB fl 32|| !hasB fl 8)
def wb (f:Fc):Bool:=iS f.ty.dim f.ty.base f.ty.name&&jW f.name&&qG f.fl&&qw f.fl 31
def rU (p:Pc):Bool:=iS p.ty.dim p.ty.base p.ty.name&&jW p.name
def rS (t:Ty):Bool:=decide (t.dim=0)&&(decide (t.base=86)&&decide (t.name=[]))
def nY (m:Md):Bool:=if m.name=bJ then rS m.res&&m.hb&&qw m.fl 7 else jW m.name&&(rS m.res||iS m.res.dim m.res.base m.res.name)
def pv (m:Md):Bool:=rP m.fl&& !(m.hb==hasB m.fl 1024)&&(m.hb||decide (m.body.length=0))&&decide (m.params.length<=16)
def kA (m:Md):Bool:=nY m&&pv m&& !(m.params.any fun p=> !rU p)&&tZ (decide (m.name=bJ)) m.body
def aY:List UInt8:=[108,97,110,103,47,79,98,106,101,99,116]
def Cs (m:Md):Bool:= !decide (m.fl=1)&& !decide (m.fl=1025)||decide (m.name=bJ)
def BE (d:Cd):Bool:=qw d.fl 1537&&hasB d.fl 1024&&decide (d.super=aY)&&decide (d.fields.length+d.init.length=0)&& !(d.methods.any Cs)
def pb (d:Cd):Bool:=if hasB d.fl 512=true then BE d else qw d.fl 1041&& !(hasB d.fl 16&&hasB d.fl 1024)
def lJ (d:Cd):Bool:=iD d.name&&iD d.super&&decide (d.ifs.length<=8)
def o9 (d:Cd):Bool:=decide (d.fields.length<=64)&&decide (d.methods.length<=64)
def iB (d:Cd):Bool:=pb d&&(lJ d&& !(d.ifs.any fun s=> !iD s)&&o9 d&& !(d.fields.any fun f=> !wb f)&& !(d.methods.any fun f=> !kA f)&&tZ false d.init)
def zO (F:Int->Bool):List Value->Option (Prop×Value)
 |[.int .i64 c]=>some (True,.bool (F c))
 |_=>none
theorem LG {P:Program} {f:FuncId} {F:Int->Bool} (h:∀c m,FnH P f [.v (.int .i64 c)] ⟨[],[]⟩ m fun r H' _=>r= .v (.bool (F c))/\H' =⟨[],[]⟩):wG P f (zO F):=fun aO y hy _ m=>by
 unfold zO at hy;split at hy
 ·cases hy;exact h _ m
 ·cases hy
def zN (F:Int->Int->Bool):List Value->Option (Prop×Value)
 |[.int .i64 c,.int .i64 d]=>some (True,.bool (F c d))
 |_=>none
theorem LF {P:Program} {f:FuncId} {F:Int->Int->Bool} (h:∀c d m,FnH P f [.v (.int .i64 c),.v (.int .i64 d)] ⟨[],[]⟩ m fun r H' _=>r= .v (.bool (F c d))/\H' =⟨[],[]⟩):wG P f (zN F):=fun aO y hy _ m=>by
 unfold zN at hy;split at hy
 ·cases hy;exact h _ _ m
 ·cases hy
attribute [go_sem] zO zN
theorem Rr (fl:Int) (m:Mem):FnH Tryz.prog 229 [.v (.int .i64 fl)] ⟨[],[]⟩ m fun r H' _=>r= .v (.bool (qG fl))/\H' =⟨[],[]⟩:=by
 refine br aq Tryz.func229 ?_
 ·simp only[go_sem];refine⟨fun a=>⟨fun _=>by simp [qG,a],fun n=>absurd a n⟩,fun a=>⟨fun b=>⟨fun _=>by simp [qG,b],fun n=>absurd b n⟩,fun b=>⟨fun c=>⟨fun _=>by simp [qG,c],fun n=>absurd c n⟩,fun c=>⟨fun d=>by simp [qG,d],fun d=>by simp [qG,a,b,c,d]⟩⟩⟩⟩
theorem Ip (fl al:Int) (m:Mem):FnH Tryz.prog 139 [.v (.int .i64 fl),.v (.int .i64 al)] ⟨[],[]⟩ m fun r H' _=>r= .v (.bool (qw fl al))/\H' =⟨[],[]⟩:=by
 refine br aq Tryz.func139 ?_
 ·simp only[go_sem];rfl
abbrev vi:Cfg:=eZ (fun _=>false) [(229,zO qG),(139,zN qw),(113,iJ BL fun s=> .bool (jW s)),(114,pC iS),(141,iJ BL fun s=> .bool (iD s))]
theorem sX:cw vi Tryz.prog:=pure_cons (by kernel_rfl) (LG Rr) (pure_cons (by kernel_rfl) (LF Ip) (pure_cons (by kernel_rfl) (jZ Dw) (pure_cons (by kernel_rfl) (tT Dr) (pure_cons (by kernel_rfl) (jZ AM) pure_nil))))
theorem OH (fl:Int) (m:Mem):FnH Tryz.prog 230 [.v (.int .i64 fl)] ⟨[],[]⟩ m fun r H' _=>r= .v (.bool (rP fl))/\H' =⟨[],[]⟩:=by
 refine br sX Tryz.func230 ?_
 ·simp only[go_sem];refine⟨fun h=> ?_,fun h=>⟨fun g=> ?_,fun g=> ?_⟩⟩
  ·rcases h with h |h<;>simp [rP,h]
  ·simp [rP,hasB,g.1,g.2]
  ·rcases g with g |g<;>simp [rP,hasB,h.1,h.2,g]
theorem PA (f:Fc) (m:Mem) (h:FcOk f):aL 143 [.v (.agg ⟨f.cs⟩)] m (.bool (wb f)):=by
 have h1:BL f.name:=cQ h.name (by decide);have h2:BL f.ty.name:=cQ h.ty.2.2 (by decide);refine enter vi sX Tryz.func143 rfl rfl (by kernel_rfl) rfl ?_ ?_
 ·simp only[go_sem,Fc.cs]
 ·simp only[go_sem,Fc.cs];exact⟨h2,fun _=>h1,rfl⟩
theorem Rk (f:Fc) (m:Mem) (h:FcOk f):aL 142 [.v (.agg ⟨f.cs⟩)] m (.bool (!wb f)):=by
 have hF:=PA f m h;refine enter vi sX Tryz.func142 rfl rfl (by kernel_rfl) rfl ?_ ?_
 ·simp only[go_sem,Fc.cs]
 ·simp only[go_sem,Fc.cs];refine ai ((aD hF (fun V=>rfl)).mono ?_);rintro r H' m2 aK ⟨bH,rfl,rfl⟩;simp only[go_sem];exact bH
theorem Rg (s:List UInt8) (m:Mem) (h:BL s):aL 140 [.v (.string (bs s))] m (.bool (!iD s)):=by
 refine br sX Tryz.func140 ?_
 ·simp only[go_sem];exact h
theorem Rh (f:Pc) (m:Mem) (h:PcOk f):aL 231 [.v (.agg ⟨f.cs⟩)] m (.bool (!rU f)):=by
 have h1:BL f.name:=cQ h.name (by decide);have h2:BL f.ty.name:=cQ h.ty.2.2 (by decide);refine enter vi sX Tryz.func231 rfl rfl (by kernel_rfl) rfl ?_ ?_
 ·simp only[go_sem,Pc.cs]
 ·simp only[go_sem,Pc.cs];exact⟨h2,fun _=>h1,by rw[rU,Bool.not_and]⟩
theorem Rj (x:Mc) (m:Mem):aL 226 [.v (.agg ⟨x.cs⟩)] m (.bool (!decide (x.fl=1)&& !decide (x.fl=1025)||decide (x.name=bJ))):=by
 refine enter vi sX Tryz.func226 rfl rfl (by kernel_rfl) rfl ?_ ?_
 ·simp only[go_sem,Mc.cs]
 ·simp only[go_sem,Mc.cs];rfl
theorem BK {α:Type} {p:α->Bool} {l:List α} {n:Nat} (hn:n=l.length) {B:Nat->Bool} (h:∀i (hi:i<l.length),B i=p l[i]):iu n B=l.any p:=by
 subst hn;exact I0 p l B h
def xG {α:Type} (p:α->Bool) (l:List α) (i:Nat):Bool:=match l[i]? with |some a=>p a |none=>false
theorem r8 {α:Type} {p:α->Bool} {l:List α} {i:Nat} (h:i<l.length):xG p l i=p l[i]:=by simp only[xG,List.getElem?_eq_getElem h]
theorem Su {m:Mem} {d:Md} {cs:List Value} (h:ig m d cs):∃x:Mc,(cs=x.cs/\x.fl=d.fl/\x.res=d.res/\x.name=d.name/\x.hb=d.hb)/\(x.pl=d.params.length/\x.pl<=x.pc/\x.l=d.body.length/\x.l<=x.cp)/\MdOk d/\aw m x.pa x.pl 4 (flat Pc.cs d.params)/\∃xs,aw m x.a x.l 23 xs/\bL m d.body xs:=h
theorem OI (d:Md) (cs:List Value) (m:Mem) (hg:Glob m) (h:ig m d cs):aL 145 [.v (.agg ⟨cs⟩)] m (.bool (kA d)):=by
 obtain⟨fl,res,name,params,hb,body⟩:=d;obtain⟨x,⟨rfl,rfl,rfl,rfl,rfl⟩,⟨gG,hpc,hl,bQ⟩,ao,r1,xs,r2,s2⟩:=h;simp only at gG hl r1 s2;have h1:BL x.name:=cQ ao.name (by decide);have h2:BL x.res.name:=cQ ao.res.2.2 (by decide);have hP:∀m',af m m' ->aL 232 [.v (.slice x.pa x.pl x.pc),.v (.func (.func 231) ⟨[]⟩ ⟨[]⟩)] m' (.bool (params.any fun p=> !rU p)):=fun m' hle=>by
  have:=ZB 231 (xG (fun p=> !rU p) params) x.pa x.pl x.pc _ m' (aN hle r1) (by rw[gG];exact ao.pl) (by kernel_rfl) fun i hi=>⟨params[i]'(by omega),mK (f:=Pc.cs) (sz:=4) (fun _=>rfl) (by omega),fun m2 _=>by
   rw[r8 (by omega)];exact Rh _ m2 (ao.ps _ (List.getElem_mem _))⟩
  rw[BK gG (p:=fun p=> !rU p) fun i hi=>r8 hi] at this;exact this
 have hB:=fun m' (hle:af m m')=>IY (decide (x.name=bJ)) body x.a x.l x.cp xs m' (hg.upM hle) hl (aN hle r2) (cL hle s2) (by rw[hl];exact ao.l)
 clear s2;refine enter (eZ (fun _=>false) [(230,zO rP),(139,zN qw),(113,iJ BL fun s=> .bool (jW s)),(114,pC iS)])
  (pure_cons (by kernel_rfl) (LG OH) (pure_cons (by kernel_rfl) (LF Ip) (pure_cons (by kernel_rfl) (jZ Dw) (pure_cons (by kernel_rfl) (tT Dr) pure_nil)))) Tryz.func145 rfl rfl (by kernel_rfl) rfl ?_ ?_
 ·simp only[go_sem,Mc.cs]
 ·simp only[go_sem,Mc.cs,dD];have e1:∀(d:Md),nY d=true->pv d=true->kA d=(!(d.params.any fun p=> !rU p)&&tZ (decide (d.name=bJ)) d.body):=fun d a b=>by rw[kA,a,b];rfl
  have g0:∀(d:Md),((rP d.fl=false\/(d.hb== !decide (bits .and .i64 d.fl 1024=0))=true)\/d.hb=false/\0<d.body.length)\/16<d.params.length->false=kA d:=fun d g=>by
   have:pv d=false:=by
    rcases g with ((g |g) |g) |g
    ·simp [pv,g]
    ·simp only[pv,hasB,g,Bool.not_true,Bool.and_false,Bool.false_and]
    ·simp only[pv,g.1,Bool.false_or,ab (by omega:¬d.body.length=0),Bool.and_false,Bool.false_and]
    ·simp only[pv,ab (by omega:¬d.params.length<=16),Bool.and_false]
   rw[kA,this,Bool.and_false];rfl
  have g1:∀(d:Md),((rP d.fl=true/\(d.hb== !decide (bits .and .i64 d.fl 1024=0))=false)/\(d.hb=true\/¬0<d.body.length))/\¬16<d.params.length->pv d=true:=fun d g=>by
   simp only[pv,hasB,g.1.1.1,g.1.1.2,aQ (by omega:d.params.length<=16),Bool.not_false,Bool.and_true,Bool.true_and];rcases g.1.2 with h |h
   ·rw[h];rfl
   ·rw[aQ (by omega:d.body.length=0),Bool.or_true]
  have GR:=g0 ⟨x.fl,x.res,x.name,params,x.hb,body⟩;have GQ:=g1 ⟨x.fl,x.res,x.name,params,x.hb,body⟩;have GW:=e1 ⟨x.fl,x.res,x.name,params,x.hb,body⟩;clear g0 g1 e1;simp only at GR GQ GW;have gx:∀{A B:Prop},(A\/B/\0<(x.l:Int))\/16<(x.pl:Int)->(A\/B/\0<body.length)\/16<params.length:=fun g=>by
   clear hP hB;rcases g with (g |g) |g
   ·exact .inl (.inl g)
   ·exact .inl (.inr ⟨g.1,by omega⟩)
   ·exact .inr (by omega)
  have gy:∀{A B:Prop},(A/\(B\/¬0<(x.l:Int)))/\¬16<(x.pl:Int)->(A/\(B\/¬0<body.length))/\¬16<params.length:=fun g=>by
   clear hP hB;refine⟨⟨g.1.1,?_⟩,by omega⟩;rcases g.1.2 with h |h
   ·exact .inl h
   ·exact .inr (by omega)
  refine⟨fun hn=>⟨fun c=> ?_,fun c=>⟨by kernel_rfl,fun g=>GR (gx g),fun g=>ai ((hP m (.inl rfl)).mono ?_)⟩⟩,
   fun hn=>⟨h1,fun _=>h2,fun c=> ?_,fun c=>⟨by kernel_rfl,fun g=>GR (gx g),fun g=>ai ((hP m (.inl rfl)).mono ?_)⟩⟩⟩
  ·clear hP hB;have:nY ⟨x.fl,x.res,x.name,params,x.hb,body⟩=false:=by
    simp only[nY,rS];rw[ak (show x.name=bJ from hn)];rcases c with ((c |c |c) |c) |c<;>simp [c]
   rw[kA,this];rfl
  ·have g2:=GQ (gy g);have hh:nY ⟨x.fl,x.res,x.name,params,x.hb,body⟩=true:=by
    clear hP hB;simp only[nY,rS];rw[ak (show x.name=bJ from hn)];simp [c.1.1.1,c.1.1.2.1,c.1.1.2.2,c.1.2,c.2]
   have e2:=GW hh g2;clear hP;rintro r H' m2 aK ⟨bH,rfl,rfl⟩;simp only[go_sem,Mc.cs];refine⟨fun b1=>ai ((hB m2 bH).mono ?_),fun b1=> ?_⟩
   ·clear hB;rintro r H' m3 cA ⟨uy,rfl,rfl⟩;simp only[go_sem,Mc.cs];refine⟨aa bH uy,?_⟩;rw[e2,b1];rfl
   ·refine⟨bH,?_⟩;rw[e2,b1];rfl
  ·clear hP hB;have:nY ⟨x.fl,x.res,x.name,params,x.hb,body⟩=false:=by
    simp only[nY,rS];rw[ae (show ¬x.name=bJ from hn)];rcases c with c |c
    ·simp [c]
    ·rw[c.2];rcases c.1 with c |c |c<;>simp [c]
   rw[kA,this];rfl
  ·have g2:=GQ (gy g);have hh:nY ⟨x.fl,x.res,x.name,params,x.hb,body⟩=true:=by
    clear hP hB;simp only[nY,rS];rw[ae (show ¬x.name=bJ from hn),c.1];rcases c.2 with c |c<;>simp [c]
   have e2:=GW hh g2;clear hP;rintro r H' m2 aK ⟨bH,rfl,rfl⟩;simp only[go_sem,Mc.cs];refine⟨fun b1=>ai ((hB m2 bH).mono ?_),fun b1=> ?_⟩
   ·clear hB;rintro r H' m3 cA ⟨uy,rfl,rfl⟩;simp only[go_sem,Mc.cs];refine⟨aa bH uy,?_⟩;rw[e2,b1];rfl
   ·refine⟨bH,?_⟩;rw[e2,b1];rfl
theorem Ri (d:Md) (cs:List Value) (m:Mem) (hg:Glob m) (h:ig m d cs):aL 144 [.v (.agg ⟨cs⟩)] m (.bool (!kA d)):=by
 have hM:=OI d cs m hg h;obtain⟨x,rfl⟩:=JM h;refine enter bb aq Tryz.func144 rfl rfl (by kernel_rfl) rfl ?_ ?_
 ·simp only[go_sem,Mc.cs]
 ·simp only[go_sem,Mc.cs];refine ai ((aD hM (fun V=>rfl)).mono ?_);rintro r H' m2 aK ⟨bH,rfl,rfl⟩;simp only[go_sem];exact bH
theorem VS (d:Md) (cs:List Value) (m m' :Mem) (h:ig m d cs):aL 226 [.v (.agg ⟨cs⟩)] m' (.bool (Cs d)):=by
 obtain⟨x,⟨rfl,h1,h2,h3,h4⟩,_⟩:=h;have:=Rj x m';rw[h1,h3] at this;exact this
theorem NZ (f:FuncId) (p:Md->Bool) (l:List Md) (a:Option Addr) (n c:Nat) (xs:List Value) (m:Mem) (hl:n=l.length) (hr:aw m a n 8 xs) (hs:dZ (ig m) 8 l xs) (hn:n<=ay) (ao:dp Tryz.prog f=true)
  (hf:∀d∈l,∀cs m',af m m' ->ig m' d cs->aL f [.v (.agg ⟨cs⟩)] m' (.bool (p d))):
  aL 148 [.v (.slice a n c),.v (.func (.func f) ⟨[]⟩ ⟨[]⟩)] m (.bool (l.any p)):=by
 have:=ZC f (xG p l) a n c xs m hr hn ao fun i hi=>by
  have dF:i<l.length:=by omega
  have bX:=oY hs dF;obtain⟨X,hX⟩:=JM bX;rw[hX] at bX;refine⟨X,hX,fun m' hle=> ?_⟩;rw[r8 dF];exact hf _ (List.getElem_mem dF) _ m' hle (lA hle bX)
 rw[BK hl (p:=p) fun i hi=>r8 hi] at this;exact this
theorem ctF (f:FuncId) (p:Fc->Bool) (l:List Fc) (a:Option Addr) (n c:Nat) (m:Mem) (hl:n=l.length) (hr:aw m a n 5 (flat Fc.cs l)) (hn:n<=ay) (ao:dp Tryz.prog f=true)
  (hf:∀d∈l,∀m',af m m' ->aL f [.v (.agg ⟨d.cs⟩)] m' (.bool (p d))):
  aL 147 [.v (.slice a n c),.v (.func (.func f) ⟨[]⟩ ⟨[]⟩)] m (.bool (l.any p)):=by
 have:=ZD f (xG p l) a n c _ m hr hn ao fun i hi=>by
  have dF:i<l.length:=by omega
  refine⟨l[i],mK (f:=Fc.cs) (sz:=5) (fun _=>rfl) dF,fun m' hle=> ?_⟩;rw[r8 dF];exact hf _ (List.getElem_mem dF) m' hle
 rw[BK hl (p:=p) fun i hi=>r8 hi] at this;exact this
theorem ctS (f:FuncId) (p:List UInt8->Bool) (l:List (List UInt8)) (a:Option Addr) (n c:Nat) (m:Mem) (hl:n=l.length) (hr:aw m a n 1 (strs l)) (hn:n<=ay) (ao:dp Tryz.prog f=true)
  (hf:∀d∈l,∀m',af m m' ->aL f [.v (.string (bs d))] m' (.bool (p d))):
  aL 146 [.v (.slice a n c),.v (.func (.func f) ⟨[]⟩ ⟨[]⟩)] m (.bool (l.any p)):=by
 have:=abx f (xG p l) a n c _ m hr hn ao fun i hi=>by
  have dF:i<l.length:=by omega
  refine⟨l[i],?_,fun m' hle=> ?_⟩
  ·rw[strs,List.getElem?_map,List.getElem?_eq_getElem dF];rfl
  ·rw[r8 dF];exact hf _ (List.getElem_mem dF) m' hle
 rw[BK hl (p:=p) fun i hi=>r8 hi] at this;exact this
theorem Px (d:Cd) (cs:List Value) (m:Mem) (h:gO m d cs):aL 138 [.v (.agg ⟨cs⟩)] m (.bool (BE d)):=by
 obtain⟨fl,name,super,ifs,fields,methods,init⟩:=d;obtain⟨x,⟨rfl,rfl,rfl,rfl⟩,⟨dF,u3,dK,hfc,dY,hmc,eE,hsc⟩,ao,r1,r2,xs,ys,r3,s3,r4,s4⟩:=h;simp only at dF dK dY eE r1 r2 s3 s4;have hM:=NZ 226 Cs methods x.ma x.ml x.mc xs m dY r3 s3 (by rw[dY];exact ao.ml) (by kernel_rfl) fun d _ cs m' hle bX=>VS d cs m' m' bX
 have b1:=ao.fn;have b2:=ao.l;clear s3 s4;refine enter vi sX Tryz.func138 rfl rfl (by kernel_rfl) rfl ?_ ?_
 ·simp only[go_sem,Cc.cs]
 ·simp only[go_sem,Cc.cs];have e0:BE ⟨x.fl,x.name,x.super,ifs,fields,methods,init⟩=(qw x.fl 1537&&hasB x.fl 1024&&decide (x.super=aY)&&decide (fields.length+init.length=0)&& !(methods.any Cs)):=rfl;simp only at b1 b2;refine⟨fun _=>by clear hM;unfold az;simp only[ay] at b1 b2;omega,fun c=>ai (hM.mono ?_),fun c=> ?_⟩
  ·have g:fields.length+init.length=0:=by clear hM;omega
   clear hM;rintro r H' m2 aK ⟨bH,rfl,rfl⟩;simp only[go_sem,Cc.cs];refine⟨bH,?_⟩;rw[e0,c.1.1.1,hasB,ab c.1.1.2,aQ (show x.super=aY from c.1.2),aQ g];rfl
  ·clear hM;rw[e0];rcases c with ((c |c) |c) |c
   ·simp [c]
   ·simp [hasB,c]
   ·rw[ab (show ¬x.super=aY from c)];simp
   ·rw[ab (by omega:¬fields.length+init.length=0)];simp
theorem OQ (d:Cd) (cs:List Value) (m:Mem) (hg:Glob m) (h:gO m d cs):aL 61 [.v (.agg ⟨cs⟩)] m (.bool (iB d)):=by
 have hI:=Px d cs m h;obtain⟨fl,name,super,ifs,fields,methods,init⟩:=d;obtain⟨x,⟨rfl,rfl,rfl,rfl⟩,⟨dF,u3,dK,hfc,dY,hmc,eE,hsc⟩,ao,r1,r2,xs,ys,r3,s3,r4,s4⟩:=h;simp only at dF dK dY eE r1 r2 s3 s4;have hM:=fun m' (hle:af m m')=>NZ 144 (fun d=> !kA d) methods x.ma x.ml x.mc xs m' dY (aN hle r3) (jf (fun _ _=>lA hle) s3) (by rw[dY];exact ao.ml) (by kernel_rfl) fun d _ cs m2 bH bX=>Ri d cs m2 (hg.upM (aa hle bH)) bX
 have hF:=fun m' (hle:af m m')=>ctF 142 (fun d=> !wb d) fields x.fa x.fn x.fc m' dK (aN hle r2) (by rw[dK];exact ao.fn) (by kernel_rfl) fun d hd m2 bH=>Rk d m2 (ao.fs d hd)
 have hS:=fun m' (hle:af m m')=>ctS 140 (fun d=> !iD d) ifs x.ia x.il x.ic m' dF (aN hle r1) (by rw[dF];exact ao.il) (by kernel_rfl) fun d hd m2 bH=>Rg d m2 (cQ (ao.ifs d hd) (by decide))
 have hB:=fun m' (hle:af m m')=>IY false init x.sa x.sl x.sc ys m' (hg.upM hle) eE (aN hle r4) (cL hle s4) (by rw[eE];exact ao.l)
 have h1:BL x.name:=cQ ao.name (by decide);have h2:BL x.super:=cQ ao.super (by decide);clear s3 s4;refine enter vi sX Tryz.func61 rfl rfl (by kernel_rfl) rfl ?_ ?_
 ·simp only[go_sem,Cc.cs]
 ·simp only[go_sem,Cc.cs];have e0:pb ⟨x.fl,x.name,x.super,ifs,fields,methods,init⟩=true->iB ⟨x.fl,x.name,x.super,ifs,fields,methods,init⟩=(lJ ⟨x.fl,x.name,x.super,ifs,fields,methods,init⟩&& !(ifs.any fun s=> !iD s)&&o9 ⟨x.fl,x.name,x.super,ifs,fields,methods,init⟩&& !(fields.any fun f=> !wb f)&& !(methods.any fun f=> !kA f)&&tZ false init):=fun h=>by rw[iB,h];rfl
  refine⟨fun b=>ai ((aD hI (fun V=>rfl)).mono ?_),fun b=>⟨fun c=> ?_,fun c=> ?_⟩⟩
  ·clear hI;rintro r H' m1 aR ⟨l1,rfl,rfl⟩;simp only[go_sem,Cc.cs];have g:hasB x.fl 512=true:=by rw[hasB,ab b];rfl
   refine⟨fun c=> ?_,fun c=> ?_⟩
   ·refine⟨l1,?_⟩;rw[iB,pb,ak g,c];rfl
   ·have hH:pb ⟨x.fl,x.name,x.super,ifs,fields,methods,init⟩=true:=by rw[pb,ak g,c]
    refine⟨h1,fun _=>h2,fun c=>ai ((hS m1 l1).mono ?_),fun c=> ?_⟩
    ·clear hS;rintro r H' n1 fE ⟨k1,rfl,rfl⟩;simp only[go_sem,Cc.cs];have hN:lJ ⟨x.fl,x.name,x.super,ifs,fields,methods,init⟩=true:=by clear hF hM hB;simp only[lJ,c.1.1,c.1.2,aQ (by omega:ifs.length<=8)];rfl
     refine⟨fun d=>ai ((hF n1 (aa l1 k1)).mono ?_),fun d=> ?_⟩
     ·clear hF;rintro r H' n2 CO ⟨k2,rfl,rfl⟩;simp only[go_sem,Cc.cs];have hL:o9 ⟨x.fl,x.name,x.super,ifs,fields,methods,init⟩=true:=by clear hM hB;simp only[o9,aQ (by omega:fields.length<=64),aQ (by omega:methods.length<=64)];rfl
      refine⟨fun e=>ai ((hM n2 (aa (aa l1 k1) k2)).mono ?_),fun e=> ?_⟩
      ·clear hM;rintro r H' n3 NI ⟨k3,rfl,rfl⟩;simp only[go_sem,Cc.cs];refine⟨fun f=>ai ((hB n3 (aa (aa (aa l1 k1) k2) k3)).mono ?_),fun f=> ?_⟩
       ·clear hB;rintro r H' n4 NH ⟨k4,rfl,rfl⟩;simp only[go_sem,Cc.cs];refine⟨aa (aa (aa (aa l1 k1) k2) k3) k4,?_⟩;rw[e0 hH,hN,d.1.1,hL,e,f];rfl
       ·refine⟨aa (aa (aa l1 k1) k2) k3,?_⟩;rw[e0 hH,f];simp
      ·refine⟨aa (aa l1 k1) k2,?_⟩;rw[e0 hH,e];simp
     ·refine⟨aa l1 k1,?_⟩;clear hF hM hB;rw[e0 hH];rcases d with (d |d) |d
      ·rw[d];simp
      ·simp only[o9,ab (by omega:¬fields.length<=64),Bool.false_and,Bool.and_false]
      ·simp only[o9,ab (by omega:¬methods.length<=64),Bool.false_and,Bool.and_false]
    ·clear hS hF hM hB;refine⟨l1,?_⟩;rw[e0 hH];rcases c with (c |c) |c
     ·simp only[lJ,c,Bool.false_and]
     ·simp only[lJ,c,Bool.false_and,Bool.and_false]
     ·simp only[lJ,ab (by omega:¬ifs.length<=8),Bool.false_and,Bool.and_false]
  ·clear hI hM hF hS hB;have g:¬hasB x.fl 512=true:=by rw[hasB,aQ b];decide
   have:pb ⟨x.fl,x.name,x.super,ifs,fields,methods,init⟩=false:=by
    rw[pb,ae g];rcases c with c |c
    ·simp [c]
    ·simp [hasB,c]
   rw[iB,this];rfl
  ·clear hI;have g:¬hasB x.fl 512=true:=by rw[hasB,aQ b];decide
   have hH:pb ⟨x.fl,x.name,x.super,ifs,fields,methods,init⟩=true:=by
    clear hM hF hS hB;rw[pb,ae g];rcases c with ⟨c1,c |c⟩<;>simp [hasB,c1,c]
   clear c;refine⟨h1,fun _=>h2,fun c=>ai ((hS m (.inl rfl:af m m)).mono ?_),fun c=> ?_⟩
   ·clear hS;rintro r H' n1 fE ⟨k1,rfl,rfl⟩;simp only[go_sem,Cc.cs];have hN:lJ ⟨x.fl,x.name,x.super,ifs,fields,methods,init⟩=true:=by clear hF hM hB;simp only[lJ,c.1.1,c.1.2,aQ (by omega:ifs.length<=8)];rfl
    refine⟨fun d=>ai ((hF n1 (aa (.inl rfl:af m m) k1)).mono ?_),fun d=> ?_⟩
    ·clear hF;rintro r H' n2 CO ⟨k2,rfl,rfl⟩;simp only[go_sem,Cc.cs];have hL:o9 ⟨x.fl,x.name,x.super,ifs,fields,methods,init⟩=true:=by clear hM hB;simp only[o9,aQ (by omega:fields.length<=64),aQ (by omega:methods.length<=64)];rfl
     refine⟨fun e=>ai ((hM n2 (aa (aa (.inl rfl:af m m) k1) k2)).mono ?_),fun e=> ?_⟩
     ·clear hM;rintro r H' n3 NI ⟨k3,rfl,rfl⟩;simp only[go_sem,Cc.cs];refine⟨fun f=>ai ((hB n3 (aa (aa (aa (.inl rfl:af m m) k1) k2) k3)).mono ?_),fun f=> ?_⟩
      ·clear hB;rintro r H' n4 NH ⟨k4,rfl,rfl⟩;simp only[go_sem,Cc.cs];refine⟨aa (aa (aa (aa (.inl rfl:af m m) k1) k2) k3) k4,?_⟩;rw[e0 hH,hN,d.1.1,hL,e,f];rfl
      ·refine⟨aa (aa (aa (.inl rfl:af m m) k1) k2) k3,?_⟩;rw[e0 hH,f];simp
     ·refine⟨aa (aa (.inl rfl:af m m) k1) k2,?_⟩;rw[e0 hH,e];simp
    ·refine⟨aa (.inl rfl:af m m) k1,?_⟩;clear hF hM hB;rw[e0 hH];rcases d with (d |d) |d
     ·rw[d];simp
     ·simp only[o9,ab (by omega:¬fields.length<=64),Bool.false_and,Bool.and_false]
     ·simp only[o9,ab (by omega:¬methods.length<=64),Bool.false_and,Bool.and_false]
   ·clear hS hF hM hB;rw[e0 hH];rcases c with (c |c) |c
    ·simp only[lJ,c,Bool.false_and]
    ·simp only[lJ,c,Bool.false_and,Bool.and_false]
    ·simp only[lJ,ab (by omega:¬ifs.length<=8),Bool.false_and,Bool.and_false]
def ze:Ex->Nat | .mk _ _ _ _ _ args=>iX args
mutual
def n8:St->Nat
 | .mk k _ _ tg ex body alt=>max (max (cX body) (cX alt)) (max (eS tg) (if k=11 then ze ex else eS ex))
def cX:List St->Nat
 |[]=>0
 |e::r=>max (n8 e) (cX r)
end
theorem Ha:∀{l:List St} {k:Nat} (hk:k<l.length),ct (l.take (k+1))=max (ct (l.take k)) (fS l[k])
 |[],_,hk=>absurd hk (Nat.not_lt_zero _)
 |e::r,0,_=>by simp [ct]
 |e::r,k+1,hk=>by
  have:=Ha (l:=r) (k:=k) (by simpa using hk);simp only[List.take_succ_cons,ct,this,List.getElem_cons_succ,Nat.max_assoc]
theorem Hr:∀{l:List St} {k:Nat} (hk:k<l.length),cX (l.take (k+1))=max (cX (l.take k)) (n8 l[k])
 |[],_,hk=>absurd hk (Nat.not_lt_zero _)
 |e::r,0,_=>by simp [cX]
 |e::r,k+1,hk=>by
  have:=Hr (l:=r) (k:=k) (by simpa using hk);simp only[List.take_succ_cons,cX,this,List.getElem_cons_succ,Nat.max_assoc]
theorem Dz:∀(l:List St) (k:Nat),ct (l.take k)<=ct l
 |[],k=>by simp
 |e::r,0=>by simp [ct]
 |e::r,k+1=>by
  have:=Dz r k;simp only[List.take_succ_cons,ct];omega
theorem DT:∀(l:List St) (k:Nat),cX (l.take k)<=cX l
 |[],k=>by simp
 |e::r,0=>by simp [cX]
 |e::r,k+1=>by
  have:=DT r k;simp only[List.take_succ_cons,cX];omega
theorem HY:∀{l:List St} {e:St},e∈l->n8 e<=cX l
 |[],e,he=>by cases he
 |x::r,e,he=>by
  simp only[cX];rcases List.mem_cons.1 he with rfl |he
  ·omega
  ·have:=HY he;omega
def zG (args:List SV) (m:Mem) (v1 v2:Nat):Prop:=FnH Tryz.prog 149 args ⟨[],[]⟩ m fun r H' m' =>af m m' /\H' =⟨[],[]⟩/\r= .tup [.v (.int .i64 v1),.v (.int .i64 v2)]
structure DepN where
 b1:Nat
 b2:Nat
 a1:Nat
 a2:Nat
 t:Nat
 x:Nat
 dl:Nat->Nat
structure DepIt (X:Sd) (N:DepN) (mm:Mem):Prop where
 body:∀m',af mm m' ->zG [.v (.slice X.a X.l X.cp)] m' N.b1 N.b2
 alt:∀m',af mm m' ->zG [.v (.slice X.b X.l2 X.cp2)] m' N.a1 N.a2
 tg:∀m',af mm m' ->aL 236 [.v (.agg ⟨X.tg.cs⟩)] m' (.int .i64 N.t)
 ex:¬X.k=11->∀m',af mm m' ->aL 236 [.v (.agg ⟨X.ex.cs⟩)] m' (.int .i64 N.x)
 arg:X.k=11->∀m',af mm m' ->∀j,j<X.ex.l->∃(Y:Nd) (d:Nat),(Rd m' (bk X.ex.a (j * 8)) Y.cs/\X.ex.a≠none)/\aL 236 [.v (.agg ⟨Y.cs⟩)] m' (.int .i64 d)/\N.dl (j+1)=max (N.dl j) d
 dl0:N.dl 0=0
 ln:X.ex.l<=ay
theorem XZ {h:Nat} (ih:∀h',h' <h->∀(l:List St) (a:Option Addr) (n c:Nat) (xs:List Value) (m:Mem),ct l<=h' ->h' <=ay->cX l<=ay->n=l.length->n<=ay->aw m a n 23 xs->bL m l xs->zG [.v (.slice a n c)] m (ct l) (cX l))
  {e:St} {cs:List Value} {mm:Mem} (hd:fS e<=h) (hb:h<=ay) (hx:n8 e<=ay) (bX:et mm e cs):
  ∃(X:Sd) (N:DepN),cs=X.cs/\DepIt X N mm/\fS e=max N.b1 N.a1+1/\n8 e=max (max N.b2 N.a2) (max N.t (if X.k=11 then N.dl X.ex.l else N.x)):=by
 cases e with
 |mk k nm ty tg ex body alt=>
  obtain⟨X,rfl,rfl,rfl,rfl,cT,hex,hl,bQ,cd,dn,ao,xs,ys,r1,r2,s1,s2⟩:=vI bX;simp only[fS] at hd;simp only[n8] at hx;cases ex with
  |mk xk xn xss xc xty args=>
   obtain⟨y,hy,h1,h2,h3,h4,h5,h6,h7,h8,zs,r3,s3⟩:=rM hex;have hy:=BD hy;subst hy;refine⟨X,⟨ct body,cX body,ct alt,cX alt,eS tg,eS (.mk xk xn xss xc xty args),fun j=>iX (args.take j)⟩,rfl,⟨fun m' hle=> ?_,fun m' hle=> ?_,fun m' hle=> ?_,fun hk m' hle=> ?_,fun hk m' hle j hj=> ?_,by simp [iX],h8⟩,by simp only[fS],?_⟩
   ·exact ih (ct body) (by omega) body X.a X.l X.cp xs m' (aC _) (by omega) (by omega) hl (by rw[hl];exact ao.l) (aN hle r1) (cL hle s1)
   ·exact ih (ct alt) (by omega) alt X.b X.l2 X.cp2 ys m' (aC _) (by omega) (by omega) cd (by rw[cd];exact ao.l2) (aN hle r2) (cL hle s2)
   ·exact AY _ tg _ m' (aC _) (by omega) (bY hle cT)
   ·rw[ae hk] at hx;exact AY _ _ _ m' (aC _) (by omega) (bY hle hex)
   ·rw[ak hk] at hx;simp only[ze] at hx;have Gy:j<args.length:=by omega
    have Fu:=bY hle (tX s3 Gy);obtain⟨Y,hY⟩:=rN Fu;have cW:=dM (aN hle r3) hj;rw[hY] at cW Fu;exact⟨Y,eS args[j],cW,AY _ _ _ m' (aC _) (by have:=AX Gy;omega) Fu,Dx Gy⟩
   ·simp only[n8,ze];rw[jS (by omega:args.length<=X.ex.l)]
theorem H3:∀(h:Nat) (l:List St) (a:Option Addr) (n c:Nat) (xs:List Value) (m:Mem),ct l<=h->h<=ay->cX l<=ay->n=l.length->n<=ay->aw m a n 23 xs->bL m l xs->zG [.v (.slice a n c)] m (ct l) (cX l):=by
 intro h;induction h using Nat.strongRecOn with
 |ind h ih=>
  intro l a n c xs m hd hb hx hl hn hr hs;refine br aq Tryz.func149 ?_
  ·simp only[go_sem];refine gC aq (fun x:Nat×Int×Int×Mem=>⟨[⟨4,[],.v (.int .i64 x.2.1)⟩,⟨5,[],.v (.int .i64 x.2.2.1)⟩,⟨14,[],.v (.slice a n c)⟩,⟨15,[],.v (.int .i64 n)⟩,⟨16,[],.v (.int .i64 x.1)⟩],[],[],[],0,x.2.2.2⟩)
    (fun x=>af m x.2.2.2/\x.1<=n/\x.2.1=ct (l.take x.1)/\x.2.2.1=cX (l.take x.1)) (fun x=>n - x.1) (0,0,0,m) (fun _ _=>aC _) (fun x hx=>hx.1) ?_ ?_ ?_
   ·simp only[go_sem];rfl
   ·exact⟨.inl rfl,aF _,by simp [ct],by simp [cX]⟩
   ·rintro⟨k,s,e,mm⟩ ⟨h1,h2,h3,h4⟩;simp only at h1 h2 h3 h4;have hy:∀(hk:k<l.length),∃(X:Sd) (N:DepN),(Rd mm (bk a (k * 23)) X.cs/\a≠none)/\DepIt X N mm/\fS l[k]=max N.b1 N.a1+1/\n8 l[k]=max (max N.b2 N.a2) (max N.t (if X.k=11 then N.dl X.ex.l else N.x)):=fun hk=>by
     have bX:=xT h1 (rT hs hk);have q1:=rH (List.getElem_mem hk);have q2:=HY (List.getElem_mem hk);obtain⟨X,N,hX,hD,e1,e2⟩:=XZ ih (by omega) hb (by omega) bX;have cW:=dM (aN h1 hr) (by omega:k<n);rw[hX] at cW;exact⟨X,N,cW,hD,e1,e2⟩
    have hq1:=Dz l k;have NC:=DT l k;have uU:∀(hk:k<l.length),ct (l.take (k+1))=max (ct (l.take k)) (fS l[k])/\ct (l.take (k+1))<=ct l:=fun hk=>⟨Ha hk,Dz l _⟩
    have uT:∀(hk:k<l.length),cX (l.take (k+1))=max (cX (l.take k)) (n8 l[k])/\cX (l.take (k+1))<=cX l:=fun hk=>⟨Hr hk,DT l _⟩
    clear ih;simp only[go_sem];refine⟨fun aj=> ?_,fun gj=> ?_⟩
    ·have hk:k<l.length:=by clear hy;omega
     have g3:=uU hk;have g4:=uT hk;refine Exists.elim (hy hk) fun X bK=>Exists.elim bK fun N fz=>⟨⟨by clear hy bK fz;omega,aj,fz.1.2⟩,X.cs,⟨fz.1.1,rfl⟩,?_⟩
     clear hy bK;have hD:=fz.2.1;have e1:=fz.2.2.1;have e2:=fz.2.2.2;rw[e1] at g3;rw[e2] at g4;clear fz e1 e2;simp only[go_sem,Sd.cs,Nd.cs];refine ai ((hD.body mm (.inl rfl)).mono ?_);rintro r H' n1 fE ⟨k1,rfl,rfl⟩;simp only[go_sem,Sd.cs,Nd.cs];refine ai ((hD.alt n1 k1).mono ?_);rintro r H' n2 CO ⟨k2,rfl,rfl⟩;have No:=aa k1 k2;simp only[go_sem,Sd.cs,Nd.cs];refine⟨by clear hD;unfold az;simp only[ay] at hb;split<;>omega,by kernel_rfl,bD ((aD (hD.tg n2 No) (fun V=>rfl)).mono ?_)⟩;rintro r H' n3 NI ⟨k3,rfl,rfl⟩;have CF:=aa No k3;simp only[go_sem,Sd.cs,Nd.cs];have hS:(if s<1+(if(N.b1:Int)<N.a1 then(N.a1:Int) else N.b1) then 1+(if(N.b1:Int)<N.a1 then(N.a1:Int) else N.b1) else s)=((ct (l.take (k+1)):Nat):Int):=by
      clear hD uU uT;rw[g3.1,h3];split<;>split<;>omega
     have xC:mx (mx (mx e N.b2) N.a2) N.t=((max (max (max (cX (l.take k)) N.b2) N.a2) N.t:Nat):Int):=by
      clear hD uU uT hS;simp only[mx,h4]
      (repeat' split)<;>omega
     refine Exists.elim (Exists.intro (max (max (max (cX (l.take k)) N.b2) N.a2) N.t) rfl:∃B0:Nat,max (max (max (cX (l.take k)) N.b2) N.a2) N.t=B0) fun B0 hB=> ?_
     rw[hB] at xC;refine⟨fun zy=> ?_,fun zy=> ?_⟩
     ·refine ai ((aD (hD.ex zy n3 CF) (fun V=>rfl)).mono ?_);clear hD;rintro r H' n4 NH ⟨k4,rfl,rfl⟩;simp only[go_sem,Sd.cs,Nd.cs];rw[ae zy] at g4;refine⟨by unfold az;simp only[ay] at hn;omega,(k+1,((ct (l.take (k+1)):Nat):Int),((cX (l.take (k+1)):Nat):Int),n4),⟨⟨hS,?_,by simp⟩,.inl rfl⟩,⟨aa h1 (aa CF k4),by simp only;omega,rfl,rfl⟩,by simp only;omega⟩;simp only;rw[xC,g4.1];clear hS xC uU uT g3 h3 h4;split<;>omega
     ·rw[ak zy] at g4;refine gC aq (fun x' :Nat×Int×Mem=>⟨[⟨4,[],.v (.int .i64 (ct (l.take (k+1)):Nat))⟩,⟨5,[],.v (.int .i64 x'.2.1)⟩,⟨14,[],.v (.slice a n c)⟩,⟨15,[],.v (.int .i64 n)⟩,⟨16,[],.v (.int .i64 k)⟩,⟨55,[],.v (.slice X.ex.a X.ex.l X.ex.cp)⟩,⟨56,[],.v (.int .i64 X.ex.l)⟩,⟨57,[],.v (.int .i64 x'.1)⟩],[],[],[],1,x'.2.2⟩)
       (fun x' =>af n3 x'.2.2/\x'.1<=X.ex.l/\x'.2.1=((max B0 (N.dl x'.1):Nat):Int)) (fun x' =>X.ex.l - x'.1) (0,(B0:Int),n3) (fun _ _=>aC _) (fun x hx=>hx.1) ?_ ?_ ?_
      ·simp only[go_sem];exact⟨hS,xC,rfl⟩
      ·exact⟨.inl rfl,aF _,by rw[hD.dl0,Nat.max_zero]⟩
      ·rintro⟨j,e',mj⟩ ⟨q1,q2,q3⟩;simp only at q1 q2 q3;have hz:=hD.arg zy mj (aa CF q1) j;have CQ:=hD.ln;clear hD;simp only[go_sem];refine⟨fun FR=> ?_,fun adT=> ?_⟩
       ·refine Exists.elim (hz (by clear hz;omega)) fun Y kN=>Exists.elim kN fun dj xo=>⟨⟨by clear hz kN xo;omega,FR,xo.1.2⟩,Y.cs,⟨xo.1.1,rfl⟩,?_⟩
        clear hz kN;have C0:=xo.2.1;have hdj:=xo.2.2;clear xo;simp only[go_sem,Nd.cs];refine ai ((aD C0 (fun V=>rfl)).mono ?_);clear C0;rintro r H' n5 hn5 ⟨k5,rfl,rfl⟩;simp only[go_sem];refine⟨by unfold az;simp only[ay] at CQ;omega,(j+1,((max B0 (N.dl (j+1)):Nat):Int),n5),⟨⟨?_,by simp⟩,.inl rfl⟩,⟨aa q1 k5,by simp only;omega,by simp only[Nat.max_def]⟩,by simp only;omega⟩;simp only;rw[hdj,q3];clear hS xC uU uT g3 g4 h3 h4 hB
        (repeat' split)<;>omega
       ·clear hz;have hj:j=X.ex.l:=by omega
        refine⟨by unfold az;simp only[ay] at hn;omega,(k+1,((ct (l.take (k+1)):Nat):Int),((cX (l.take (k+1)):Nat):Int),mj),⟨⟨rfl,?_,by simp⟩,.inl rfl⟩,⟨aa h1 (aa CF q1),by simp only;omega,rfl,rfl⟩,by simp only;omega⟩;simp only;rw[q3,g4.1,hj];clear hS xC uU uT g3 h3 h4
        (repeat' split)<;>omega
    ·clear hy uU uT;have:l.take k=l:=jS (by omega);rw[this] at h3 h4;rw[h3,h4];exact⟨h1,rfl⟩
def iq:List Md->Nat
 |[]=>0
 |e::r=>max (ct e.body) (iq r)
def jl:List Md->Nat
 |[]=>0
 |e::r=>max (cX e.body) (jl r)
def o7 (d:Cd):Bool:=decide (24<max (ct d.init) (iq d.methods))||decide (24<max (cX d.init) (jl d.methods))
structure CdB (d:Cd):Prop where
 s:ct d.init<=ay
 e:cX d.init<=ay
 ms:iq d.methods<=ay
 me:jl d.methods<=ay
theorem Iw:∀{l:List Md} {k:Nat} (hk:k<l.length),iq (l.take (k+1))=max (iq (l.take k)) (ct l[k].body)
 |[],_,hk=>absurd hk (Nat.not_lt_zero _)
 |e::r,0,_=>by simp [iq]
 |e::r,k+1,hk=>by
  have:=Iw (l:=r) (k:=k) (by simpa using hk);simp only[List.take_succ_cons,iq,this,List.getElem_cons_succ,Nat.max_assoc]
theorem Ix:∀{l:List Md} {k:Nat} (hk:k<l.length),jl (l.take (k+1))=max (jl (l.take k)) (cX l[k].body)
 |[],_,hk=>absurd hk (Nat.not_lt_zero _)
 |e::r,0,_=>by simp [jl]
 |e::r,k+1,hk=>by
  have:=Ix (l:=r) (k:=k) (by simpa using hk);simp only[List.take_succ_cons,jl,this,List.getElem_cons_succ,Nat.max_assoc]
theorem JK:∀{l:List Md} {e:Md},e∈l->ct e.body<=iq l
 |[],e,he=>by cases he
 |x::r,e,he=>by
  simp only[iq];rcases List.mem_cons.1 he with rfl |he
  ·omega
  ·have:=JK he;omega
theorem JL:∀{l:List Md} {e:Md},e∈l->cX e.body<=jl l
 |[],e,he=>by cases he
 |x::r,e,he=>by
  simp only[jl];rcases List.mem_cons.1 he with rfl |he
  ·omega
  ·have:=JL he;omega
theorem Q3 (d:Cd) (cs:List Value) (m:Mem) (hB:CdB d) (h:gO m d cs):aL 62 [.v (.agg ⟨cs⟩)] m (.bool (o7 d)):=by
 obtain⟨fl,name,super,ifs,fields,methods,init⟩:=d;obtain⟨x,⟨rfl,rfl,rfl,rfl⟩,⟨dF,u3,dK,hfc,dY,hmc,eE,hsc⟩,ao,r1,r2,xs,ys,r3,s3,r4,s4⟩:=h;simp only at dF dK dY eE r1 r2 s3 s4;obtain⟨b1,b2,b3,b4⟩:=hB;simp only at b1 b2 b3 b4;have hI:=H3 (ct init) init x.sa x.sl x.sc ys m (aC _) b1 b2 eE (by rw[eE];exact ao.l) r4 s4;have gi:x.ml<=ay:=by rw[dY];exact ao.ml
 refine enter bb aq Tryz.func62 rfl rfl (by kernel_rfl) rfl ?_ ?_
 ·simp only[go_sem,Cc.cs]
 ·simp only[go_sem,Cc.cs];refine ai (hI.mono ?_);clear hI;rintro r H' m1 aR ⟨l1,rfl,rfl⟩;simp only[go_sem,Cc.cs];refine gC aq (fun x' :Nat×Int×Int×Mem=>⟨[⟨3,[],.v (.int .i64 x'.2.1)⟩,⟨4,[],.v (.int .i64 x'.2.2.1)⟩,⟨16,[],.v (.slice x.ma x.ml x.mc)⟩,⟨17,[],.v (.int .i64 x.ml)⟩,⟨18,[],.v (.int .i64 x'.1)⟩],[],[],[],1,x'.2.2.2⟩)
   (fun x' =>af m1 x'.2.2.2/\x'.1<=x.ml/\x'.2.1=max (ct init) (iq (methods.take x'.1))/\x'.2.2.1=max (cX init) (jl (methods.take x'.1))) (fun x' =>x.ml - x'.1) (0,ct init,cX init,m1) (fun _ _=>aC _) (fun x hx=>hx.1) ?_ ?_ ?_
  ·simp only[go_sem];rfl
  ·exact⟨.inl rfl,aF _,by simp [iq],by simp [jl]⟩
  ·rintro⟨k,s,e,mm⟩ ⟨h1,h2,h3,h4⟩;simp only at h1 h2 h3 h4;have hy:∀(hk:k<methods.length),∃(X:Mc) (v1 v2:Nat),(Rd mm (bk x.ma (k * 8)) X.cs/\x.ma≠none)/\zG [.v (.slice X.a X.l X.cp)] mm v1 v2/\(iq (methods.take (k+1))=max (iq (methods.take k)) v1/\jl (methods.take (k+1))=max (jl (methods.take k)) v2)/\v1<=ay/\v2<=ay:=fun hk=>by
    have bX:=lA (aa l1 h1) (oY s3 hk);have q1:=JK (List.getElem_mem hk);have q2:=JL (List.getElem_mem hk);have cW:=dM (aN (aa l1 h1) r3) (by omega:k<x.ml);have t1:=Iw hk;have t2:=Ix hk;obtain⟨X,⟨e1,_⟩,⟨e2,e3,e4,e5⟩,hk2,_,zs,r5,s5⟩:=Su bX;rw[e1] at cW;exact⟨X,_,_,cW,H3 _ _ X.a X.l X.cp zs mm (aC _) (by omega) (by omega) e4 (by rw[e4];exact hk2.l) r5 s5,⟨t1,t2⟩,by omega,by omega⟩
   simp only[go_sem];refine⟨fun aj=> ?_,fun gj=> ?_⟩
   ·have hk:k<methods.length:=by clear hy;omega
    refine Exists.elim (hy hk) fun X zW=>Exists.elim zW fun v1 xp=>Exists.elim xp fun v2 uO=>⟨⟨by clear hy zW xp uO;omega,aj,uO.1.2⟩,X.cs,⟨uO.1.1,rfl⟩,?_⟩
    clear hy zW xp;have hD:=uO.2.1;have e1:=uO.2.2.1.1;have e2:=uO.2.2.1.2;clear uO;simp only[go_sem,Mc.cs];refine ai (hD.mono ?_);clear hD;rintro r H' m2 aK ⟨l2,rfl,rfl⟩;simp only[go_sem];refine⟨by unfold az;simp only[ay] at gi;omega,(k+1,((max (ct init) (iq (methods.take (k+1))):Nat):Int),((max (cX init) (jl (methods.take (k+1))):Nat):Int),m2),⟨⟨?_,?_,by simp⟩,.inl rfl⟩,⟨aa h1 l2,by simp only;omega,by simp only[Nat.max_def],by simp only[Nat.max_def]⟩,by simp only;omega⟩
    ·simp only;rw[e1,h3];clear h3 h4 e1 e2
     (repeat' split)<;>omega
    ·simp only;rw[e2,h4];clear h3 h4 e1 e2
     (repeat' split)<;>omega
   ·clear hy;have:methods.take k=methods:=jS (by omega);rw[this] at h3 h4;have e0:o7 ⟨x.fl,x.name,x.super,ifs,fields,methods,init⟩=(decide (24<max (ct init) (iq methods))||decide (24<max (cX init) (jl methods))):=rfl;refine⟨aa l1 h1,?_⟩;rw[e0];congr 1
    ·rw[decide_eq_decide];omega
    ·rw[decide_eq_decide];omega
def kf {α:Type} [BEq α]:List α->List α->Bool
 |_,[]=>false
 |seen,a::r=>seen.contains a||kf (seen++[a]) r
def om (d:Cd):Bool:=kf [] d.ifs||kf [] (d.fields.map (·.name))||kf [] (d.methods.map fun m=>(m.name,m.params.length))
def qR (l:List (List UInt8)):List Value:=(l.map fun s=>[.string (bs s),.bool true]).flatten
theorem nK:∀(l:List Value),jU (l.map .v)=some l
 |[]=>rfl
 |x::r=>by simp [jU,plain,nK r]
theorem mH {n:Nat} {vc:List Vc}:∀(l:List Value),cP n vc (l.map .v)=True
 |[]=>rfl
 |x::r=>by simp [cP,gU,mH r]
theorem Lv {a b:List UInt8}:(Value.string (bs a)=Value.string (bs b))=(a=b):=propext ⟨fun h=>oS (Value.string.inj h),fun h=>by rw[h]⟩
theorem AN (s:List UInt8):∀(l:List (List UInt8)),zU (gN (qR l) (.string (bs s)))=l.contains s
 |[]=>rfl
 |a::r=>by
  have e:qR (a::r)= .string (bs a):: .bool true::qR r:=rfl;rw[e,gN,Lv,List.contains_cons];by_cases h:a=s
  ·rw[ak h];subst h;simp [zU]
  ·rw[ae h,AN s r,(beq_eq_false_iff_ne.2 fun e=>h e.symm:(s==a)=false),Bool.false_or]
theorem Ee (s:List UInt8):∀(l:List (List UInt8)),l.contains s=false->pj (qR l) (.string (bs s)) (.bool true)=qR (l++[s])
 |[],_=>rfl
 |a::r,h=>by
  have e:qR (a::r)= .string (bs a):: .bool true::qR r:=rfl;rw[List.contains_cons,Bool.or_eq_false_iff] at h;have hn:¬a=s:=fun e=>(beq_eq_false_iff_ne.1 h.1) e.symm
  rw[e,pj,Lv,ae hn,Ee s r h.2];rfl
abbrev sT:=List UInt8×Nat
def pw (k:sT):Value:= .agg ⟨[.string (bs k.1),.int .i64 k.2]⟩
theorem W6 (k:sT):dN 1000001 (pw k)=True:=LQ _ _
def sQ (l:List sT):List Value:=(l.map fun k=>[pw k,.bool true]).flatten
theorem KY {a b:sT}:(pw a=pw b)=(a=b):=propext ⟨fun h=>by
 obtain⟨a1,a2⟩:=a;obtain⟨b1,b2⟩:=b;simp only[pw,Value.agg.injEq,Array.mk.injEq,List.cons.injEq,Value.string.injEq,Value.int.injEq,true_and,and_true] at h
 rw[oS h.1,show a2=b2 by omega],fun h=>by rw[h]⟩
theorem HW (k:sT):∀(l:List sT),zU (gN (sQ l) (pw k))=l.contains k
 |[]=>rfl
 |a::r=>by
  have e:sQ (a::r)=pw a:: .bool true::sQ r:=rfl;rw[e,gN,KY,List.contains_cons];by_cases h:a=k
  ·rw[ak h];subst h;simp [zU]
  ·rw[ae h,HW k r,(beq_eq_false_iff_ne.2 fun e=>h e.symm:(k==a)=false),Bool.false_or]
theorem Il (k:sT):∀(l:List sT),l.contains k=false->pj (sQ l) (pw k) (.bool true)=sQ (l++[k])
 |[],_=>rfl
 |a::r,h=>by
  have e:sQ (a::r)=pw a:: .bool true::sQ r:=rfl;rw[List.contains_cons,Bool.or_eq_false_iff] at h;have hn:¬a=k:=fun e=>(beq_eq_false_iff_ne.1 h.1) e.symm
  rw[e,pj,KY,ae hn,Il k r h.2];rfl
theorem TG {m:Mem} {a:Option Addr} {n k c:Nat} {l:List (List UInt8)} (h:aw m a n 1 (strs l)) (hk:k<=n):aw m (if c=0 then a else a.map (·.add (0 * 1))) (k - 0) 1 (strs (l.take k)):=by
 have hl:=h.1;simp only[strs,List.length_map,Nat.mul_one] at hl;refine⟨by simp [strs];omega,fun h0=> ?_⟩;obtain⟨ad,rfl,hs,b8⟩:=h.2 (by omega);have e:(if c=0 then some ad else(some ad).map (·.add (0 * 1)))=some ad:=by
  by_cases hc:c=0
  ·rw[ak hc]
  ·rw[ae hc];rfl
 refine⟨ad,e,hs,fun j hj=> ?_⟩;obtain⟨h1,h2⟩:=b8 j (by omega);refine⟨?_,h2⟩;rw[h1];simp only[strs,List.getElem?_map,List.getElem?_take];rw[ak (by omega)]
theorem Ew {α:Type} [BEq α] {l:List α} {k:Nat} (hk:k<l.length):kf (l.take k) (l.drop k)=((l.take k).contains l[k]||kf (l.take (k+1)) (l.drop (k+1))):=by
 rw[List.drop_eq_getElem_cons hk,kf,List.take_succ_eq_append_getElem hk]
/-! The types of the maps. -/
theorem Fb:dU Tryz.prog 96=(1000000,none):=by kernel_rfl
theorem yJ:dU Tryz.prog 153=(1000001,none):=by kernel_rfl
theorem UC:pd Tryz.prog 96:=
 Iz (k:=9) (e:=4) (by kernel_rfl) (by kernel_rfl) (by rw[Fb];decide) fun w=>by
  rw[Fb];exact DF (i:=(Tryz.prog.info? 4).getD default) (by kernel_rfl) (by kernel_rfl) w
theorem E4:cY Tryz.prog 155=some [.v (.string (bs [])),.v (.int .i64 0)]:=by kernel_rfl
theorem Z5:cH Tryz.prog 155=some (some 2):=by kernel_rfl
theorem aaA:aM Tryz.prog 155=2:=by kernel_rfl
theorem UU:bf Tryz.prog 155 0=some (0,none,1):=by kernel_rfl
theorem UT:bf Tryz.prog 155 1=some (1,none,1):=by kernel_rfl
theorem ZO:fV Tryz.prog 155=true:=by kernel_rfl
theorem XY:wZ Tryz.prog 155:=Lh E4 (by kernel_rfl) (by kernel_rfl) (by kernel_rfl) rfl (by kernel_rfl)
attribute [go_sem] Fb yJ E4 Z5 aaA UU UT ZO
theorem Wt {a b:ByteArray}:tl a=tl b↔a=b:=⟨fun h=>by have:=congrArg bs h;rwa [eY,eY] at this,fun h=>by rw[h]⟩
theorem Ld {s:ByteArray} {n:Int} (w:World):∀(es:List MapEntry) (i:Nat),(∀x∈es,∃a k,x.key= .agg ⟨[.string a,.int .i64 k]⟩)->
  (Instr.findAsking 155 (.agg ⟨[.string s,.int .i64 n]⟩) es i).run Tryz.prog w= .ok (s6 es (.agg ⟨[.string s,.int .i64 n]⟩) i) w
 |[],_,_=>rfl
 |e::es,i,h=>by
  obtain⟨a,k,ha⟩:=h e (bN ..);have ih:=Ld (s:=s) (n:=n) w es (i+1) fun x hx=>h x (bw _ hx)
  have he:=(XY [.string s,.int .i64 n] [.string a,.int .i64 k] (decide (tl s=tl a)&&(decide (n=k)&&true)) w (.const undef) (.const undef) .eql rfl (by rw[E4];rfl)).2;simp only[Instr.findAsking,Sem.run_bind,ha,s6];rw[show(Array.mk [Value.string s,Value.int .i64 n])=[Value.string s,Value.int .i64 n].toArray from rfl,show(Array.mk [Value.string a,Value.int .i64 k])=[Value.string a,Value.int .i64 k].toArray from rfl,he];simp only[Result.andThen_ok];by_cases hk:(Value.agg [Value.string a,Value.int .i64 k].toArray=Value.agg [Value.string s,Value.int .i64 n].toArray)
  ·rw[ak (ha.trans hk)];simp only[Value.agg.injEq,Array.mk.injEq,List.cons.injEq,Value.string.injEq,Value.int.injEq,true_and,and_true] at hk;obtain⟨rfl,rfl⟩:=hk;simp
  ·rw[ae fun e=>hk (ha.symm.trans e)];have:(decide (tl s=tl a)&&(decide (n=k)&&true))=false:=by
    simp only[Value.agg.injEq,Array.mk.injEq,List.cons.injEq,Value.string.injEq,Value.int.injEq,true_and,and_true] at hk;simp only[Bool.and_true,Bool.and_eq_false_iff,decide_eq_false_iff_not,Wt];by_cases h1:s=a
    ·exact .inr fun h2=>hk ⟨h1.symm,h2.symm⟩
    ·exact .inl h1
   rw[this];exact ih
theorem UB:pd Tryz.prog 153:=by
 refine⟨by rw[yJ];decide,155,4,by kernel_rfl,fun w key em n hk=> ?_,fun w key es hk cJ=> ?_,fun w=> ?_⟩
 ·rw[yJ] at hk;unfold dN at hk;rw[ak rfl] at hk;obtain⟨s,k,rfl⟩:=hk;have hu:Tryz.prog.underlying 155=some (.struct (Tryz.prog.fieldsOf 155)):=by kernel_rfl
  have GC:Tryz.prog.fieldsOf 155= #[(Tryz.prog.fieldsOf 155).getD 0 default,(Tryz.prog.fieldsOf 155).getD 1 default]:=by kernel_rfl
  rw[GC] at hu;have n0:((Tryz.prog.fieldsOf 155).getD 0 default).name= "name" :=by kernel_rfl
  have n1:((Tryz.prog.fieldsOf 155).getD 1 default).name= "params" :=by kernel_rfl
  have t0:((Tryz.prog.fieldsOf 155).getD 0 default).type=9:=by kernel_rfl
  have t1:((Tryz.prog.fieldsOf 155).getD 1 default).type=3:=by kernel_rfl
  have o0:((Tryz.prog.fieldsOf 155).getD 0 default).offset=0:=by kernel_rfl
  have o1:((Tryz.prog.fieldsOf 155).getD 1 default).offset=1:=by kernel_rfl
  have p0:=run_part_plain (P:=Tryz.prog) (w:=w) (e:=9) (by kernel_rfl) (xs:= #[.string s,.int .i64 k]) (off:=0) (v:= .string s) rfl;have p1:=run_part_plain (P:=Tryz.prog) (w:=w) (e:=3) (by kernel_rfl) (xs:= #[.string s,.int .i64 k]) (off:=1) (v:= .int .i64 k) rfl;have c0:=MapKept.run_checkKey (P:=Tryz.prog) (w:=w) (kt:=9) (d:= .string) (k:= .string s) (by kernel_rfl) (by simp [MapKept.IsKey]) em n;have c1:=MapKept.run_checkKey (P:=Tryz.prog) (w:=w) (kt:=3) (d:= .int .i64) (k:= .int .i64 k) (by kernel_rfl) (by simp [MapKept.IsKey]) em n;generalize (Tryz.prog.fieldsOf 155).getD 0 default=f0 at *
  generalize (Tryz.prog.fieldsOf 155).getD 1 default=f1 at *
  rw[Instr.checkKey];simp [run_underlying hu,Result.andThen,n0,n1,t0,t1,o0,o1,p0,p1,c0,c1]
 ·rw[yJ] at hk cJ;unfold dN at hk cJ;simp only[if_true] at hk cJ;obtain⟨s,k,rfl⟩:=hk;rw[run_findKey_eq w (by kernel_rfl)];exact Ld w es 0 cJ
 ·rw[yJ];exact DF (i:=(Tryz.prog.info? 4).getD default) (by kernel_rfl) (by kernel_rfl) w
attribute [go_sem] UC UB
theorem Td (d:Cd) (cs:List Value) (m:Mem) (h:gO m d cs):aL 63 [.v (.agg ⟨cs⟩)] m (.bool (om d)):=by
 obtain⟨fl,name,super,ifs,fields,methods,init⟩:=d;obtain⟨x,⟨rfl,rfl,rfl,rfl⟩,⟨dF,u3,dK,hfc,dY,hmc,eE,hsc⟩,ao,r1,r2,xs,ys,r3,s3,r4,s4⟩:=h;simp only at dF dK dY eE r1 r2 r3 s3 r4 s4;have kp:x.il<=ay:=by rw[dF];exact ao.il
 have CU:x.fn<=ay:=by rw[dK];exact ao.fn
 have gi:x.ml<=ay:=by rw[dY];exact ao.ml
 clear r4 s4;refine enter bb aq Tryz.func63 rfl rfl (by kernel_rfl) rfl ?_ ?_
 ·simp only[go_sem,Cc.cs]
 ·simp only[go_sem,Cc.cs];refine cq aq (fun x' :Nat×Mem=>⟨[⟨1,[],.box 0 0⟩,⟨13,[],.v (.slice x.ia x.il x.ic)⟩,⟨14,[],.v (.int .i64 x.il)⟩,⟨15,[],.v (.int .i64 x'.1)⟩],[],[⟨0,33,x.cs.map .v⟩],[],1,x'.2⟩)
   (fun x' =>af m x'.2/\x'.1<=x.il/\kf [] ifs=kf (ifs.take x'.1) (ifs.drop x'.1)) (fun x' =>x.il - x'.1) (0,m) (by kernel_rfl) (fun _ _=>aC _) (fun x hx=>hx.1) (fun _=> ?_) ?_ ?_ ?_
  ·simp only[go_sem,Cc.cs]
  ·simp only[go_sem,Cc.cs];rfl
  ·exact⟨.inl rfl,aF _,rfl⟩
  ·rintro⟨k,mm⟩ ⟨h1,h2,h3⟩;simp only at h1 h2 h3;have hy:∀(hk:k<ifs.length),(Rd mm (bk x.ia k) [.string (bs ifs[k])]/\x.ia≠none)/\FnH Tryz.prog 98 [.v (gE x.ia x.ic 0 k 1),.v (.string (bs ifs[k]))] ⟨[],[]⟩ mm fun r H' _=>r= .v (.bool ((ifs.take k).contains ifs[k]))/\H' =⟨[],[]⟩:=fun hk=>
    ⟨TW (aN h1 r1) hk,vn (ifs.take k) ifs[k] _ (k - 0) (x.ic - 0) mm (TG (aN h1 r1) (by omega)) (by simp only[ay] at kp;omega)⟩
   simp only[go_sem,Cc.cs];refine⟨fun aj=> ?_,fun gj=> ?_⟩
   ·have hk:k<ifs.length:=by clear hy;omega
    have bK:=hy hk;clear hy;refine⟨⟨by clear bK;omega,aj,bK.1.2⟩,_,bK.1.1,?_⟩;simp only[go_sem,Cc.cs];have pP:=Ew hk;refine⟨⟨Int.le_refl _,by clear bK;omega,by clear bK;omega⟩,by kernel_rfl,bD (bK.2.mono ?_)⟩;clear bK;rintro r H' m2 aK ⟨rfl,rfl⟩;simp only[go_sem,Cc.cs];refine⟨fun hc=>⟨aa h1 (.inr aK),?_⟩,fun hc=>⟨by unfold az;simp only[ay] at kp;omega,(k+1,m2),⟨by simp,.inl rfl⟩,⟨aa h1 (.inr aK),by simp only;omega,?_⟩,by simp only;omega⟩⟩
    ·simp only[om,h3,pP,hc,Bool.true_or]
    ·simp only;rw[h3,pP,hc,Bool.false_or]
   ·clear hy;have hI:kf [] ifs=false:=by
     rw[h3,List.drop_of_length_le (by omega)];rfl
    refine cq aq (fun x' :Nat×Mem=>⟨[⟨1,[],.box 0 0⟩,⟨5,[],.mp 1⟩,⟨29,[],.v (.slice x.fa x.fn x.fc)⟩,⟨30,[],.v (.int .i64 x.fn)⟩,⟨31,[],.v (.int .i64 x'.1)⟩],[],[⟨1,1000000,(qR ((fields.map (·.name)).take x'.1)).map .v⟩,⟨0,33,x.cs.map .v⟩],[],2,x'.2⟩)
     (fun x' =>af mm x'.2/\x'.1<=x.fn/\kf [] (fields.map (·.name))=kf ((fields.map (·.name)).take x'.1) ((fields.map (·.name)).drop x'.1)) (fun x' =>x.fn - x'.1) (0,mm) (by kernel_rfl) (fun _ _=>aC _) (fun x hx=> ?_) (fun _=> ?_) ?_ ?_ ?_
    ·exact hx.1
    ·simp only[go_sem,Cc.cs,mH]
    ·simp only[go_sem,Cc.cs];exact⟨rfl,rfl⟩
    ·exact⟨.inl rfl,aF _,rfl⟩
    ·rintro⟨j,mj⟩ ⟨q1,q2,q3⟩;simp only at q1 q2 q3;have hy:∀(hj:j<fields.length),Rd mj (bk x.fa (j * 5)) (fields[j]).cs/\x.fa≠none:=fun hj=>by
      have:=dM (aN (aa h1 q1) r2) (by omega:j<x.fn);rw[mK (f:=Fc.cs) (sz:=5) (fun _=>rfl) hj] at this;exact this
     simp only[go_sem,Cc.cs];refine⟨fun aj=> ?_,fun gj=> ?_⟩
     ·have hj:j<fields.length:=by omega
      refine⟨⟨by omega,aj,(hy hj).2⟩,(fields[j]).cs,⟨(hy hj).1,rfl⟩,?_⟩;simp only[go_sem,Cc.cs,Fc.cs,nK,AN];have iz:j<(fields.map (·.name)).length:=by simpa using hj
      have pP:=Ew iz;have zz:(fields.map (·.name))[j]=fields[j].name:=by simp
      rw[zz] at pP;refine⟨fun hc=>⟨aa h1 q1,?_⟩,fun hc=>⟨by unfold az;simp only[ay] at CU;omega,(j+1,mj),⟨by simp,?_,.inl rfl⟩,⟨q1,by simp only;omega,?_⟩,by simp only;omega⟩⟩
      ·simp only[om,q3,pP,hc,Bool.true_or,Bool.or_true]
      ·simp only;rw[Ee _ _ hc,List.take_succ_eq_append_getElem iz,zz]
      ·simp only;rw[q3,pP,hc,Bool.false_or]
     ·have hF:kf [] (fields.map (·.name))=false:=by
       rw[q3,List.drop_of_length_le (by simp;omega)];rfl
      refine cq aq (fun x' :Nat×Mem=>⟨[⟨1,[],.box 0 0⟩,⟨8,[],.mp 2⟩,⟨45,[],.v (.slice x.ma x.ml x.mc)⟩,⟨46,[],.v (.int .i64 x.ml)⟩,⟨47,[],.v (.int .i64 x'.1)⟩],[],[⟨2,1000001,(sQ ((methods.map fun m=>(m.name,m.params.length)).take x'.1)).map .v⟩,⟨0,33,x.cs.map .v⟩],[],3,x'.2⟩)
       (fun x' =>af mj x'.2/\x'.1<=x.ml/\kf [] (methods.map fun m=>(m.name,m.params.length))=kf ((methods.map fun m=>(m.name,m.params.length)).take x'.1) ((methods.map fun m=>(m.name,m.params.length)).drop x'.1)) (fun x' =>x.ml - x'.1) (0,mj) (by kernel_rfl) (fun _ _=>aC _) (fun x hx=>hx.1) (fun _=> ?_) ?_ ?_ ?_
      ·simp only[go_sem,Cc.cs,mH]
      ·simp only[go_sem,Cc.cs];exact⟨rfl,rfl⟩
      ·exact⟨.inl rfl,aF _,rfl⟩
      ·rintro⟨k,mk⟩ ⟨p1,p2,p3⟩;simp only at p1 p2 p3;have hy:∀(hj:k<methods.length),∃X:Mc,(Rd mk (bk x.ma (k * 8)) X.cs/\x.ma≠none)/\X.name=methods[k].name/\X.pl=methods[k].params.length:=fun hj=>by
        have bX:=lA (aa h1 (aa q1 p1)) (oY s3 hj);have cW:=dM (aN (aa h1 (aa q1 p1)) r3) (by omega:k<x.ml);obtain⟨X,e1,e2,_⟩:=bX;rw[e1.1] at cW;exact⟨X,cW,e1.2.2.2.1,e2.1⟩
       simp only[go_sem,Cc.cs];refine⟨fun aj=> ?_,fun gj=> ?_⟩
       ·have hj:k<methods.length:=by omega
        refine Exists.elim (hy hj) fun X hX=>⟨⟨by clear hX hy;omega,aj,hX.1.2⟩,X.cs,⟨hX.1.1,rfl⟩,?_⟩
        clear hy;have uW:=hX.2.1;have gG:=hX.2.2;clear hX;have hkv:Value.agg ⟨[.string (bs X.name),.int .i64 X.pl]⟩=pw (X.name,X.pl):=rfl;simp only[go_sem,Cc.cs,Mc.cs,nK,hkv,W6,HW];have iz:k<(methods.map fun m=>(m.name,m.params.length)).length:=by simpa using hj
        have pP:=Ew iz;have zz:(methods.map fun m=>(m.name,m.params.length))[k]=(X.name,X.pl):=by simp [uW,gG]
        rw[zz] at pP;refine⟨fun hc=>⟨aa h1 (aa q1 p1),?_⟩,fun hc=>⟨by unfold az;simp only[ay] at gi;omega,(k+1,mk),⟨by simp,?_,.inl rfl⟩,⟨p1,by simp only;omega,?_⟩,by simp only;omega⟩⟩
        ·simp only[om,p3,pP,hc,Bool.true_or,Bool.or_true]
        ·simp only;rw[Il _ _ hc,List.take_succ_eq_append_getElem iz,zz]
        ·simp only;rw[p3,pP,hc,Bool.false_or]
       ·have hM:kf [] (methods.map fun m=>(m.name,m.params.length))=false:=by
         rw[p3,List.drop_of_length_le (by simp;omega)];rfl
        exact⟨aa h1 (aa q1 p1),by simp only[om,hI,hF,hM,Bool.or_false]⟩
def dT:List (List UInt8)->List Cd->List UInt8×Int
 |_,[]=>([],0)
 |seen,d::r=>if iB d=true then(if o7 d=true then(d.name,9) else if(seen.contains d.name||om d)=true then(d.name,6) else dT (seen++[d.name]) r) else(d.name,4)
theorem PF (l:List Cd) (p:Option Addr) (n c:Nat) (m:Mem) (hg:Glob m) (hC:∀d∈l,CdB d) (h:fi m l p n c):
  FnH Tryz.prog 35 [.v (.slice p n c)] ⟨[],[]⟩ m fun r H' m' =>af m m' /\H' =⟨[],[]⟩/\r= .tup [.v (.string (bs (dT [] l).1)),.v (.int .i64 (dT [] l).2)]:=by
 obtain⟨hl,bQ,hn,xs,r1,s1⟩:=h;refine br aq Tryz.func35 ?_
 ·simp only[go_sem];refine cq aq (fun x:Nat×Mem=>⟨[⟨4,[],.mp 0⟩,⟨8,[],.v (.slice p n c)⟩,⟨9,[],.v (.int .i64 n)⟩,⟨10,[],.v (.int .i64 x.1)⟩],[],[⟨0,1000000,(qR ((l.map (·.name)).take x.1)).map .v⟩],[],1,x.2⟩)
   (fun x=>af m x.2/\x.1<=n/\dT [] l=dT ((l.map (·.name)).take x.1) (l.drop x.1)) (fun x=>n - x.1) (0,m) (by kernel_rfl) (fun _ _=>aC _) (fun x hx=>hx.1) (fun _=> ?_) ?_ ?_ ?_
  ·simp only[go_sem,mH]
  ·simp only[go_sem];exact⟨rfl,rfl⟩
  ·exact⟨.inl rfl,aF _,rfl⟩
  ·rintro⟨k,mm⟩ ⟨h1,h2,h3⟩;simp only at h1 h2 h3;have hy:∀(hk:k<l.length),∃X:Cc,(Rd mm (bk p (k * 7)) X.cs/\p≠none)/\X.name=l[k].name/\
     (aL 61 [.v (.agg ⟨X.cs⟩)] mm (.bool (iB l[k])))/\(∀m',af mm m' ->aL 62 [.v (.agg ⟨X.cs⟩)] m' (.bool (o7 l[k])))/\(∀m',af mm m' ->aL 63 [.v (.agg ⟨X.cs⟩)] m' (.bool (om l[k]))):=fun hk=>by
    have bX:=vK h1 (oY s1 hk);have cW:=dM (aN h1 r1) (by omega:k<n);have hX:∃X:Cc,(xs.drop (k * 7)).take 7=X.cs/\X.name=l[k].name:=by
     obtain⟨X,e1,_⟩:=bX;exact⟨X,e1.1,e1.2.2.1⟩
    obtain⟨X,e1,e2⟩:=hX;rw[e1] at cW bX;have ao:=hC _ (List.getElem_mem hk);exact⟨X,cW,e2,OQ _ _ mm (hg.upM h1) bX,fun m' hle=>Q3 _ _ m' ao (vK hle bX),fun m' hle=>Td _ _ m' (vK hle bX)⟩
   have eM:∀(hk:k<l.length),dT [] l=(if iB l[k]=true then(if o7 l[k]=true then(l[k].name,9) else if(((l.map (·.name)).take k).contains l[k].name||om l[k])=true then(l[k].name,6) else dT ((l.map (·.name)).take (k+1)) (l.drop (k+1))) else(l[k].name,4)):=fun hk=>by
    rw[h3,List.drop_eq_getElem_cons hk,dT];have:(l.map (·.name)).take (k+1)=(l.map (·.name)).take k++[l[k].name]:=by
     rw[List.take_succ_eq_append_getElem (by simpa using hk)];simp
    rw[this]
   clear hC;simp only[go_sem];refine⟨fun aj=> ?_,fun gj=> ?_⟩
   ·have hk:k<l.length:=by clear hy;omega
    have sJ:=eM hk;clear eM;refine Exists.elim (hy hk) fun X bK=>⟨⟨by clear hy bK;omega,aj,bK.1.2⟩,X.cs,⟨bK.1.1,rfl⟩,?_⟩
    clear hy;have uW:=bK.2.1;have hV:=bK.2.2.1;have GM:=bK.2.2.2.1;have An:=bK.2.2.2.2;clear bK;simp only[go_sem,Cc.cs];refine ai ((aD hV (fun V=>rfl)).mono ?_);clear hV;rintro r H' m2 aK ⟨l2,rfl,rfl⟩;simp only[go_sem,Cc.cs];refine⟨fun b1=>⟨aa h1 l2,?_⟩,fun b1=>ai ((aD (GM m2 l2) (fun V=>rfl)).mono ?_)⟩
    ·clear GM An;rw[sJ,ae (by rw[b1];decide),uW]
    ·clear GM;rw[ak b1] at sJ;rintro r H' m3 cA ⟨l3,rfl,rfl⟩;have uN:=aa l2 l3;simp only[go_sem,Cc.cs,nK,AN];refine⟨fun b2=>⟨aa h1 uN,?_⟩,fun b2=> ?_⟩
     ·clear An;rw[sJ,ak b2,uW]
     ·rw[ae (by rw[b2];decide)] at sJ;refine⟨fun b3=>ai ((aD (An m3 uN) (fun V=>rfl)).mono ?_),fun b3=>⟨aa h1 uN,?_⟩⟩
      ·clear An;rw[<- uW,b3,Bool.false_or] at sJ;rintro r H' m4 gW ⟨l4,rfl,rfl⟩;have Nn:=aa uN l4;simp only[go_sem,Cc.cs,nK,AN];refine⟨fun b4=>⟨aa h1 Nn,?_⟩,fun b4=>⟨by unfold az;simp only[ay] at hn;omega,(k+1,m4),⟨by simp,?_,.inl rfl⟩,⟨aa h1 Nn,by simp only;omega,?_⟩,by simp only;omega⟩⟩
       ·rw[sJ,ak b4]
       ·have eO:k<(l.map (·.name)).length:=by simpa using hk
        simp only;rw[Ee _ _ b3,List.take_succ_eq_append_getElem eO,uW];simp
       ·simp only;rw[sJ,ae (by rw[b4];decide)]
      ·clear An;rw[sJ,<- uW,b3,ak (by simp)]
   ·clear hy;rw[h3,List.drop_of_length_le (by omega),dT];exact⟨h1,rfl⟩
abbrev Nm:=List UInt8
def nb:Md:=⟨0,an,[],[],false,[]⟩
def eT:Cd:=⟨0,[],[],[],[],[],[]⟩
def fU:Ty:=⟨-1,76,aY⟩
def cG (s:Nm):Ty:=⟨0,76,s⟩
def cr:Ty:=⟨0,73,[]⟩
def ed:Ty:=⟨0,74,[]⟩
def ij:Ty:=⟨0,86,[]⟩
def aaQ:Nm:=[108,97,110,103,47,83,116,114,105,110,103]
def jh:Nm:=[108,97,110,103,47,84,104,114,111,119,97,98,108,101]
def j4:Nm:=[108,97,110,103,47]
def eb (t:Ty):Bool:=decide (t.base=76)|| !decide (t.dim=0)
def pt (t:Ty):Nm:=if t.dim=0 then t.name else aY
/-! The classes that a checker knows: the program's, then the built-in ones. -/
def cls (E:List Cd) (s:Nm):Option Cd:=E.find? fun d=>decide (d.name=s)
def bI (E:List Cd) (s:Nm):Cd:=(cls E s).getD eT
def dv (E:List Cd):Nat->List Nm->Nm->List Nm
 |0,out,_=>out
 |f+1,out,s=>match cls E s with
  |none=>out
  |some d=>if out.contains s=true then out else dv E f (out++[s]) d.super
def aT (E:List Cd) (s:Nm):List Nm:=dv E (E.length+1) [] s
def eC (E:List Cd):Nat->List Nm->List Nm->List Nm
 |0,out,_=>out
 |f+1,out,l=>l.foldl (fun out s=>match cls E s with
  |some d=>if out.contains s=true then out else eC E f (out++[s]) d.ifs
  |none=>out) out
def eQ (E:List Cd) (out l:List Nm):List Nm:=eC E (E.length+1) out l
def bR (E:List Cd) (s:Nm):List Nm:=(aT E s).foldl (fun out c=>eQ E out (bI E c).ifs) []
def eX (E:List Cd) (a b:Nm):Bool:=decide (a=b)||((cls E a).isSome&&(decide (b=aY)||(aT E a).contains b||(bR E a).contains b))
def cD (E:List Cd) (a b:Ty):Bool:=
 if Ty.eq a b=true then true else if(!eb a|| !eb b||Ty.eq b fU)=true then false else if(Ty.eq a fU||Ty.eq b (cG aY))=true then true
 else if(decide (a.base=76)&&decide (b.base=76)&&decide (a.dim=b.dim)&&eX E a.name b.name)=true then true
 else decide (b.dim<a.dim)&&decide (b.base=76)&&decide (b.name=aY)
def cg (E:List Cd) (s name:Nm):Option (Nm×Fc):=(aT E s).findSome? fun c=>((bI E c).fields.find? fun f=>decide (f.name=name)).map fun f=>(c,f)
def cU (E:List Cd) (s name:Nm) (n:Int):Option Md:=(bI E s).methods.find? fun m=>decide (m.name=name)&&decide ((m.params.length:Int)=n)
def ep (E:List Cd) (l:List Nm) (name:Nm) (n:Int):Option (Nm×Md):=l.findSome? fun s=>(cU E s name n).map fun m=>(s,m)
def eG (E:List Cd) (s name:Nm) (n:Int):Option (Nm×Md):=
 if name=bJ then ep E ((aT E s).take 1) name n else match ep E (aT E s) name n with
  |some x=>some x
  |none=>ep E (bR E s) name n
def kF (E:List Cd) (l:List Nm) (name:Nm) (n:Int):List Nm:=l.filter fun s=>match cU E s name n with
 |some m=> !hasB m.fl 8
 |none=>false
def gp (E:List Cd) (l:List Nm) (name:Nm) (n:Int):List Nm:=
 (kF E l name n).filter fun s=> !((kF E l name n).any fun t=> !decide (t=s)&&eX E t s)
/-! Types of expressions in a scope. -/
structure Sc where
 pr:List Cd
 ci:Nat
 st:Bool
 su:Bool
 res:Ty
 loc:List Pc
def dh (S:Sc):Cd:=S.pr.getD S.ci eT
def jJ (S:Sc) (o:Nm) (fl:Int):Bool:= !hasB fl 2||decide (o=(dh S).name)
abbrev TR:=Ty×Int
def fb (ok:Bool) (t:Ty):TR:=if ok=true then(t,0) else(an,73)
def gw (E:List Cd):List Pc->List Ty->Int
 |p::l,a::r=>if cD E a p.ty=true then gw E l r else 73
 |_,_=>0
def jg (E:List Cd) (S:Sc) (s name:Nm) (st:Bool) (args:List Ty):TR:=
 match eG E s name args.length with
 |none=>(an,72)
 |some (o,m)=>if(!jJ S o m.fl|| !(hasB m.fl 8==st))=true then(an,72) else if gw E m.params args=0 then(m.res,0) else(an,gw E m.params args)
def mN (E:List Cd) (S:Sc) (name:Nm) (args:List Ty):TR:=
 if(S.st||S.su||hasB (dh S).fl 512)=true then(an,72) else match eG E (dh S).super name args.length with
  |none=>(an,72)
  |some (_,m)=>if hasB m.fl 1024=true then(an,72)
   else if(ep E (aT E (dh S).super) name args.length).isSome=true then jg E S (dh S).super name false args
   else match gp E (bR E (dh S).super) name args.length with
    |[s]=>if((cU E s name args.length).getD nb).hb=true then jg E S (dh S).super name false args else(an,72)
    |_=>(an,72)
def n9 (E:List Cd) (S:Sc) (s:Nm) (args:List Ty):Int:=
 match cU E s bJ args.length with
 |some m=>if jJ S s m.fl=true then gw E m.params args else 72
 |none=>match S.pr.find? fun d=>decide (d.name=s) with
  |some d=>if args.length=0/\(d.methods.any fun m=>decide (m.name=bJ))=false then 0 else 72
  |none=>72
def FL (a b:Ty):Bool:=Ty.eq a b&&(Ty.eq a cr||Ty.eq a ed)
def ir (E:List Cd) (op:Nm) (a b:Ty):TR:=
 if op=[43]\/op=[45]\/op=[42]\/op=[47]\/op=[37] then fb (FL a b) a
 else if op=[60]\/op=[60,61]\/op=[62]\/op=[62,61] then fb (FL a b) cr
 else if op=[61,61]\/op=[33,61] then fb (FL a b||(eb a&&eb b&&(cD E a b||cD E b a))) cr
 else fb (Ty.eq a cr&&Ty.eq b cr) cr
def oe (E:List Cd) (t:Ty):Bool:=decide (t.dim=0)&&decide (t.base=76)&&hasB (bI E t.name).fl 512
def cM (E:List Cd) (t:Ty):Bool:= !decide (t.base=76)||(cls E t.name).isSome
def mV (E:List Cd) (k:Int) (ty a:Ty):TR:=
 if cM E ty=true then fb (eb a&&eb ty&&(cD E a ty||cD E ty a||oe E a||oe E ty)) (if k=18 then cr else ty) else(an,72)
def oh (E:List Cd) (S:Sc) (st:Bool) (c s:Nm):TR:=
 match cg E c s with
 |none=>(an,72)
 |some (o,f)=>if(!(hasB f.fl 8==st)|| !jJ S o f.fl)=true then(an,72) else(f.ty,0)
def gu (E:List Cd) (S:Sc) (k:Int) (s c:Nm) (args:List Ty):TR:=
 if k=6 then match S.loc.find? fun p=>decide (p.name=s) with
  |some p=>(p.ty,0)
  |none=>(an,72)
 else if k=7 then(if eb (args.getD 0 an)=true then oh E S false (pt (args.getD 0 an)) s else(an,73))
 else oh E S true c s
def je (E:List Cd) (S:Sc) (k:Int) (c:Nm) (ty:Ty) (args:List Ty):TR:=
 if k=14 then(if cM E ty=true then fb (Ty.eq (args.getD 0 an) cr&&decide (ty.dim<8)) ⟨ty.dim+1,ty.base,ty.name⟩ else(an,72))
 else match cls E c with
  |none=>(an,72)
  |some d=>if hasB d.fl 1536=true then(an,73) else(cG c,n9 E S c args)
def kH (S:Sc) (k:Int):TR:=
 if k=1 then(cr,0) else if k=2 then(ed,0) else if k=3 then(cG aaQ,0) else if k=4 then(fU,0)
 else if(S.st||S.su)=true then(an,72) else(cG (dh S).name,0)
def bq (E:List Cd) (S:Sc) (k:Int) (s c:Nm) (ty:Ty) (args:List Ty):TR:=
 if k=6\/k=7\/k=8 then gu E S k s c args
 else if k=9 then fb (decide (0<(args.getD 0 an).dim)&&Ty.eq (args.getD 1 an) cr) ⟨(args.getD 0 an).dim - 1,(args.getD 0 an).base,(args.getD 0 an).name⟩
 else if k=19 then fb (decide (0<(args.getD 0 an).dim)) cr
 else if k=10 then(if eb (args.getD 0 an)=true then jg E S (pt (args.getD 0 an)) s false args.tail else(an,73))
 else if k=11 then jg E S c s true args
 else if k=12 then mN E S s args
 else if k=13\/k=14 then je E S k c ty args
 else if k=15 then fb (Ty.eq (args.getD 0 an) cr||(decide (s=[45])&&Ty.eq (args.getD 0 an) ed)) (args.getD 0 an)
 else if k=16 then ir E s (args.getD 0 an) (args.getD 1 an)
 else if k=17\/k=18 then mV E k ty (args.getD 0 an)
 else if k=20 then fb (Ty.eq (args.getD 0 an) ed) cr
 else if k=21 then fb (Ty.eq (args.getD 0 an) cr) ed
 else kH S k
mutual
def bW (E:List Cd) (S:Sc):Ex->TR
 | .mk k _ s c ty es=>if(cK E S es).2=0 then(if(bq E S k s c ty (cK E S es).1).2=0 then bq E S k s c ty (cK E S es).1 else(an,(bq E S k s c ty (cK E S es).1).2)) else(an,(cK E S es).2)
def cK (E:List Cd) (S:Sc):List Ex->List Ty×Int
 |[]=>([],0)
 |e::r=>if(bW E S e).2=0 then(if(cK E S r).2=0 then((bW E S e).1::(cK E S r).1,0) else([],(cK E S r).2)) else([],(bW E S e).2)
end
/-! Statements. -/
mutual
def wh:St->Bool
 | .mk k _ _ _ _ body alt=>if k=6\/k=7 then true else if k=10\/k=9 then iZ body else if k=4\/k=8 then iZ body&&iZ alt else false
def iZ:List St->Bool
 |[]=>false
 |s::r=>match r with
  |[]=>wh s
  |_::_=>iZ r
end
def Ex.kd:Ex->Int | .mk k _ _ _ _ _=>k
def Ex.ar:Ex->List Ex | .mk _ _ _ _ _ es=>es
def iY (S:Sc) (t:Ty) (s:Nm):Sc:={S with loc:=S.loc++[⟨t,s⟩]}
def rX (S:Sc) (s:Nm):Bool:=S.loc.any fun p=>decide (p.name=s)
def ik (E:List Cd) (S:Sc) (e:Ex) (x:Ty):Int:=if(bW E S e).2=0/\cD E (bW E S e).1 x=false then 73 else(bW E S e).2
def fW (E:List Cd) (S:Sc) (ty:Ty) (s:Nm):Int:=if(!cM E ty||rX S s)=true then 72 else 0
def iE (E:List Cd) (S:Sc) (l:List Ex):Int:=
 if S.st=true then 72 else if(cK E {S with su:=true} l).2=0 then n9 E S (dh S).super (cK E {S with su:=true} l).1 else(cK E {S with su:=true} l).2
def ui (E:List Cd) (S:Sc) (e:Ex):Int:=
 if e.kd=0 then(if S.res.base=86 then 0 else 73)
 else if(bW E S e).2=0/\(S.res.base=86\/cD E (bW E S e).1 S.res=false) then 73 else(bW E S e).2
mutual
def iF (E:List Cd) (S:Sc):St->Sc×Int
 | .mk k name ty tg ex body alt=>
  if k=1 then(if fW E S ty name=0 then(if ik E S ex ty=0 then(iY S ty name,0) else(S,ik E S ex ty)) else(S,fW E S ty name))
  else(S,
   if k=2 then(if(bW E S tg).2=0 then ik E S ex (bW E S tg).1 else(bW E S tg).2)
   else if k=3 then(bW E S ex).2
   else if k=7 then ik E S ex (cG jh)
   else if k=6 then ui E S ex
   else if k=8 then(if fW E S ty name=0 then(if cD E ty (cG jh)=true then(if bU E S false body=0 then bU E (iY S ty name) false alt else bU E S false body) else 73) else fW E S ty name)
   else if k=11 then iE E S ex.ar
   else if k=10 then bU E S false body
   else if(bW E S ex).2=0 then
    (if(if k=9 then eb (bW E S ex).1 else Ty.eq (bW E S ex).1 cr)=true then(if bU E S false body=0 then bU E S false alt else bU E S false body) else 73)
   else(bW E S ex).2)
def bU (E:List Cd) (S:Sc) (t:Bool):List St->Int
 |[]=>0
 |s::r=>if t=true then 74 else if(iF E S s).2=0 then bU E (iF E S s).1 (wh s) r else(iF E S s).2
end
/-! Classes. -/
abbrev CR:=Nm×Int
def nS (E:List Cd) (d:Cd):CR:=
 if(j4.isPrefixOf d.name||(d.super::d.ifs).any fun s=>(cls E s).isNone)=true then([],72) else match d.fields.find? fun f=> !cM E f.ty with
  |some f=>(f.name,72)
  |none=>match d.methods.find? fun m=>(m.params.any fun p=> !cM E p.ty)|| !cM E m.res with
   |some m=>(m.name,72)
   |none=>([],0)
def o8 (E:List Cd) (d:Cd):CR:=if((aT E d.super).contains d.name||(eQ E [] d.ifs).contains d.name)=true then([],31) else([],0)
def o6 (E:List Cd) (d:Cd):CR:=if(hasB (bI E d.super).fl 528||d.ifs.any fun s=> !hasB (bI E s).fl 512)=true then([],33) else([],0)
def sd (fl:Int):Int:=if hasB fl 1=true then 3 else if hasB fl 4=true then 2 else if hasB fl 2=true then 0 else 1
def mQ (a b:Md):Bool:=Ty.eq a.res b.res&&fD (fun(x y:Pc)=>Ty.eq x.ty y.ty) a.params b.params
def wq (m g:Md):Bool:= !mQ m g|| !(hasB m.fl 8==hasB g.fl 8)||decide (sd m.fl<sd g.fl)||hasB g.fl 16
def qo (E:List Cd) (d:Cd):CR:=
 match d.fields.find? fun f=>(cg E d.super f.name).isSome with
 |some f=>(f.name,73)
 |none=>match d.methods.find? fun m=> !decide (m.name=bJ)&&((aT E d.name).tail++bR E d.name).any fun s=>match cU E s m.name m.params.length with
   |some g=> !hasB g.fl 2&&wq m g
   |none=>false with
  |some m=>(m.name,73)
  |none=>([],0)
def lb (E:List Cd) (s:Nm) (g:Md):Bool:=
 match ep E (aT E s) g.name g.params.length with
 |some (_,m)=> !hasB m.fl 1034&&mQ m g
 |none=>match gp E (bR E s) g.name g.params.length with
  |[t]=>((cU E t g.name g.params.length).getD nb).hb&&mQ ((cU E t g.name g.params.length).getD nb) g
  |_=>false
def qp (E:List Cd) (d:Cd):CR:=
 if hasB d.fl 1024=true then([],0) else match((aT E d.name).flatMap fun s=>(bI E s).methods).find? fun m=>hasB m.fl 1024&& !lb E d.name m with
  |some m=>(m.name,74)
  |none=>match((bR E d.name).flatMap fun s=>(bI E s).methods).find? fun m=> !hasB m.fl 8&& !lb E d.name m with
   |some m=>(m.name,74)
   |none=>([],0)
def uB:List Nm->List Pc->Bool
 |_,[]=>false
 |seen,p::r=>if seen.contains p.name=true then true else uB (seen++[p.name]) r
def Fx (m:Md):Bool:=decide (m.name=bJ)&& !(match m.body with | .mk k _ _ _ _ _ _::_=>decide (k=11) |[]=>false)
def kY (E pr:List Cd) (i:Nat) (m:Md):Int:=
 if uB [] m.params=true then 72
 else if Fx m=true/\iE E ⟨pr,i,hasB m.fl 8,false,m.res,m.params⟩ []≠0 then iE E ⟨pr,i,hasB m.fl 8,false,m.res,m.params⟩ []
 else if bU E ⟨pr,i,hasB m.fl 8,false,m.res,m.params⟩ false m.body=0/\m.res.base≠86/\iZ m.body=false then 74
 else bU E ⟨pr,i,hasB m.fl 8,false,m.res,m.params⟩ false m.body
def mW (E pr:List Cd) (i:Nat):List Md->CR
 |[]=>([],0)
 |m::r=>if m.hb=true/\kY E pr i m≠0 then(m.name,kY E pr i m) else mW E pr i r
def Mn:Nm:=[60,99,108,105,110,105,116,62]
def qC (E pr:List Cd) (i:Nat):CR:=
 if(mW E pr i (pr.getD i eT).methods).2≠0 then mW E pr i (pr.getD i eT).methods
 else if hasB (pr.getD i eT).fl 512=false/\((pr.getD i eT).methods.any fun m=>decide (m.name=bJ))=false/\iE E ⟨pr,i,false,false,ij,[]⟩ []≠0 then(bJ,iE E ⟨pr,i,false,false,ij,[]⟩ [])
 else if bU E ⟨pr,i,true,false,ij,[]⟩ false (pr.getD i eT).init=0 then([],0) else(Mn,bU E ⟨pr,i,true,false,ij,[]⟩ false (pr.getD i eT).init)
def eu (E pr:List Cd) (n i:Nat):CR:=
 if n=1 then nS E (pr.getD i eT) else if n=2 then o8 E (pr.getD i eT) else if n=3 then o6 E (pr.getD i eT) else if n=4 then qo E (pr.getD i eT) else if n=5 then qp E (pr.getD i eT) else qC E pr i
def kW (E pr:List Cd) (n:Nat):List Nat->Nm×Nm×Int
 |[]=>([],[],0)
 |i::r=>if(eu E pr n i).2=0 then kW E pr n r else((pr.getD i eT).name,(eu E pr n i).1,(eu E pr n i).2)
def mR (E pr:List Cd):List Nat->Nm×Nm×Int
 |[]=>([],[],0)
 |n::r=>if(kW E pr n (List.range pr.length)).2.2=0 then mR E pr r else kW E pr n (List.range pr.length)
def gJ (B pr:List Cd):Nm×Nm×Int:=
 if(dT [] pr).2=0 then mR (pr++B) pr [1,2,3,4,5,6] else((dT [] pr).1,[],(dT [] pr).2)
end Go.Proofs.YtmdokbohofchgaaGreatDoor.E

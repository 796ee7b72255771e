/- Several texts in one. -/
import Derived.WideKeyRuns
import Derived.Test.YtimddhkipjedcaaGreatDoorMrg2
set_option linter.unusedSimpArgs false
set_option linter.unusedVariables false
set_option maxHeartbeats 4000000
set_option maxRecDepth 20000
namespace Go.Proofs.YtimddhkipjedcaaGreatDoor.E
open Go
theorem alM:eU Tryz.prog 4=some none:=by kernel_rfl
theorem sz4:bZ Tryz.prog 4=1:=by kernel_rfl
theorem LF:eU Tryz.prog 30=some (some 3):=by kernel_rfl
theorem ai2:bZ Tryz.prog 30=3:=by kernel_rfl
theorem T0:fC Tryz.prog 30=some [.v (.int .i64 0),.v (.int .u8 0),.v (.string (bs []))]:=by kernel_rfl
theorem afz:dc Tryz.prog 30 0=some (0,none,1):=by kernel_rfl
theorem afy:dc Tryz.prog 30 1=some (1,none,1):=by kernel_rfl
theorem afx:dc Tryz.prog 30 2=some (2,none,1):=by kernel_rfl
theorem alB:oc Tryz.prog 30=true:=by kernel_rfl
theorem qG:vC Tryz.prog 30:=Sx T0 (by kernel_rfl) (by kernel_rfl) (by kernel_rfl) rfl (by kernel_rfl)
theorem alI:eU Tryz.prog 33=some (some 8):=by kernel_rfl
theorem szX:bZ Tryz.prog 33=8:=by kernel_rfl
theorem afZ:fC Tryz.prog 33=some [.v (.int .i64 0),.v (.int .i64 0),.v (.string (bs [])),.v (.string (bs [])),.v (.int .i64 0),.v (.int .u8 0),.v (.string (bs [])),.v (.slice none 0 0)]:=by kernel_rfl
theorem afw:dc Tryz.prog 33 0=some (0,none,1):=by kernel_rfl
theorem afv:dc Tryz.prog 33 1=some (1,none,1):=by kernel_rfl
theorem afu:dc Tryz.prog 33 2=some (2,none,1):=by kernel_rfl
theorem aft:dc Tryz.prog 33 3=some (3,none,1):=by kernel_rfl
theorem afs:dc Tryz.prog 33 4=some (4,some 3,3):=by kernel_rfl
theorem afr:dc Tryz.prog 33 5=some (7,none,1):=by kernel_rfl
theorem alA:oc Tryz.prog 33=true:=by kernel_rfl
theorem aiB:eU Tryz.prog 31=some none:=by kernel_rfl
theorem ai9:bZ Tryz.prog 31=1:=by kernel_rfl
theorem ak4:iU Tryz.prog 31=some 33:=by kernel_rfl
theorem aiA:eU Tryz.prog 55=some none:=by kernel_rfl
theorem alJ:eU Tryz.prog 165=some (some 5):=by kernel_rfl
theorem szS:bZ Tryz.prog 165=5:=by kernel_rfl
theorem af0:fC Tryz.prog 165=some [.v (.bool false),.v (.bool false),.v (.bool false),.v (.int .i64 0),.v (.int .i64 0)]:=by kernel_rfl
theorem afE:dc Tryz.prog 165 0=some (0,none,1):=by kernel_rfl
theorem afD:dc Tryz.prog 165 1=some (1,none,1):=by kernel_rfl
theorem afC:dc Tryz.prog 165 2=some (2,none,1):=by kernel_rfl
theorem afB:dc Tryz.prog 165 3=some (3,none,1):=by kernel_rfl
theorem afA:dc Tryz.prog 165 4=some (4,none,1):=by kernel_rfl
theorem alC:oc Tryz.prog 165=true:=by kernel_rfl
attribute [go_sem] alM sz4 LF ai2 T0 afz afy afx alB alI szX afZ afw afv afu aft afs afr alA aiB ai9 ak4 aiA alJ szS af0 afE afD afC afB afA alC
def eK:List UInt8:=[60,105,110,105,116,62]
def Ai:List UInt8:=[60,99,108,105,110,105,116,62]
def pQ (s:List UInt8):Bool:=decide (s=eK)||decide (s=Ai)||(fK s&&decide (Lib.indexByte s 47<0))
def du (s:List UInt8):Bool:=pQ s&&decide (s.getD 0 0≠60)&& !dh s&& !gG.contains s
theorem Ym (s:List UInt8) (m:Mem) (hs:BL s):FnH Tryz.prog 208 [.v (.string (bs s))] ⟨[],[]⟩ m fun r H' _=>r= .v (.bool (pQ s))/\H' =⟨[],[]⟩:=by
 refine aR sH Tryz.func208 ?_
 ·simp only[go_sem];refine⟨fun h=> ?_,fun h=>⟨hs,fun h1=>ab ((M4 s 47 m).mono ?_),fun h1=> ?_⟩⟩
  ·simp only[pQ,eK,Ai];rcases h with h |h<;>simp [h]
  ·rintro r H' m' hm ⟨rfl,rfl⟩;simp only[go_sem];have h2:=h.1;have h3:=h.2;simp [pQ,eK,Ai,h1,h2,h3]
  ·have h2:=h.1;have h3:=h.2;simp [pQ,eK,Ai,h1,h2,h3]
abbrev cfM:Cfg:=gL (fun _=>false) [(208,ft BL fun s=> .bool (pQ s)),(192,ft BL fun s=> .bool (fK s)),(134,ft BL fun s=> .bool (dh s))]
theorem Ve:dO cfM Tryz.prog:=pure_cons (by kernel_rfl) (fL Ym) (pure_cons (by kernel_rfl) (fL Ia) (pure_cons (by kernel_rfl) (fL BC) pure_nil))
theorem QH {s:List UInt8} (h:pQ s=true):0<s.length:=by
 cases s with
 |nil=>simp [pQ,eK,Ai,fK,eD] at h
 |cons a r=>simp
theorem It (s:List UInt8) (m:Mem) (hs:BL s):FnH Tryz.prog 155 [.v (.string (bs s))] ⟨[],[]⟩ m fun r H' _=>r= .v (.bool (du s))/\H' =⟨[],[]⟩:=by
 refine aR Ve Tryz.func155 ?_
 ·simp only[go_sem];have e:∀u:UInt8,((u.toNat:Int)=60)=(u=60):=fun u=>propext ⟨fun h=>UInt8.toNat_inj.1 (by have:(60:UInt8).toNat=60:=rfl;omega),fun h=>by rw[h];rfl⟩
  simp only[e];refine⟨hs,fun h=>⟨by omega,by have:=QH h;omega⟩,fun _=>hs,fun h=>ab ((HQ m).mono ?_),fun h=> ?_⟩
  ·rintro r H' m' hm ⟨rfl,rfl,rfl⟩;simp only[go_sem];refine⟨by kernel_rfl,fun a c m1 aN hc bW=>bo ((zy gG s a 28 c m1 bW (by omega)).mono ?_)⟩;rintro r H' m' aH ⟨rfl,rfl⟩;have h1:=h.1.1;have h2:=h.1.2;have h3:=h.2;generalize hb:gG.contains s=kb
   simp only[go_sem];rw[du,h1,h3,hb,eH h2];rfl
  ·rw[du];rcases h with (h |h) |h
   ·simp [h]
   ·have:decide (s.getD 0 0≠60)=false:=by rw[h];rfl
    rw[this];simp
   ·simp [h]
def pA (d b:Int) (s:List UInt8):Bool:=if d<0\/8<d then false else if b=73\/b=74 then decide (s=[]) else if b=86 then decide (d=0)&&decide (s=[]) else if b=76 then fK s else false
def dD (d b:Int) (s:List UInt8):Bool:=pA d b s&&decide (b≠86)&&(decide (b≠76)||dh s)
def sI (F:Int->Int->List UInt8->Bool):List Value->Option (Prop×Value)
 |[.agg ⟨[.int .i64 d,.int .u8 b,.string s]⟩]=>some (BL (tl s),.bool (F d b (tl s)))
 |_=>none
attribute [go_sem] sI.eq_1
theorem we {P:Program} {f:FuncId} {F:Int->Int->List UInt8->Bool} (h:∀d b a m,BL a->FnH P f [.v (.agg ⟨[.int .i64 d,.int .u8 b,.string (bs a)]⟩)] ⟨[],[]⟩ m fun r H' _=>r= .v (.bool (F d b a))/\H' =⟨[],[]⟩):qH P f (sI F):=fun fy y hy hB m=>by
 unfold sI at hy;split at hy
 ·rename_i d b a;cases hy;have:=h d b (tl a) m hB;rwa [kG] at this
 ·cases hy
theorem XE (d b:Int) (s:List UInt8) (m:Mem) (hs:BL s):FnH Tryz.prog 211 [.v (.agg ⟨[.int .i64 d,.int .u8 b,.string (bs s)]⟩)] ⟨[],[]⟩ m fun r H' _=>r= .v (.bool (pA d b s))/\H' =⟨[],[]⟩:=by
 refine aR Ve Tryz.func211 ?_
 ·simp only[go_sem];refine⟨fun h=>by simp only[pA,ah h],fun h=> ?_⟩;have h0:¬(d<0\/8<d):=fun h' =>h'.elim h.1 h.2
  simp only[pA,af h0];refine⟨fun h1=> ?_,fun h1=> ?_⟩
  ·simp [h1]
  ·refine⟨fun h2=>by simp [h2],fun h2=> ?_⟩;refine⟨fun h3=>by simp [h3],fun h3=>⟨fun h4=>⟨hs,by simp [h4]⟩,fun h4=>by simp [h1,h2,h3,h4]⟩⟩
abbrev cfT:Cfg:=gL (fun _=>false) [(211,sI pA),(134,ft BL fun s=> .bool (dh s))]
theorem puT:dO cfT Tryz.prog:=pure_cons (by kernel_rfl) (we XE) (pure_cons (by kernel_rfl) (fL BC) pure_nil)
theorem Ii (d b:Int) (s:List UInt8) (m:Mem) (hs:BL s):FnH Tryz.prog 157 [.v (.agg ⟨[.int .i64 d,.int .u8 b,.string (bs s)]⟩)] ⟨[],[]⟩ m fun r H' _=>r= .v (.bool (dD d b s))/\H' =⟨[],[]⟩:=by
 refine aR puT Tryz.func157 ?_
 ·simp only[go_sem];refine⟨hs,fun _=>hs,?_⟩;simp [dD]
def pI (c:UInt8):Bool:=decide (c.toNat=10)||(decide (32<=c.toNat)&&decide (c.toNat<=126))
def nT (s:List UInt8):Bool:=s.all pI&&decide (s.length<=1024)
theorem X4 (s:List UInt8) (m:Mem) (hs:BL s):FnH Tryz.prog 210 [.v (.string (bs s))] ⟨[],[]⟩ m fun r H' _=>r= .v (.bool (nT s))/\H' =⟨[],[]⟩:=by
 refine aR qR Tryz.func210 ?_
 ·simp only[go_sem];refine dA qR (fun k:Nat=>⟨[⟨0,[],.v (.string (bs s))⟩,⟨6,[],.v (.int .i64 s.length)⟩,⟨7,[],.v (.int .i64 k)⟩],[],[],[],0,m⟩)
   (fun k=>k<=s.length/\(s.take k).all pI=true) (fun k=>s.length - k) 0 (fun _ _=>av _) (fun _ _=> .inl rfl) ?_ ?_ ?_
  ·simp only[go_sem];rfl
  ·simp
  ·rintro k ⟨hk,hp⟩;simp only[go_sem];refine⟨fun aw=> ?_,fun cg=> ?_⟩
   ·have cF:k<s.length:=by omega
    have hd:=drop_at cF;refine⟨⟨by omega,aw⟩,fun h=> ?_,fun h=>⟨by unfold aF;have:s.length<=4611686018427387904:=hs;omega,k+1,by omega,⟨by omega,?_⟩,by omega⟩⟩
    ·have hb:pI (s.getD k 0)=false:=by
      simp only[pI,Bool.or_eq_false_iff,Bool.and_eq_false_iff,decide_eq_false_iff_not];exact⟨by omega,by omega⟩
     have:s.all pI=false:=by
      rw[<- List.take_append_drop k s,List.all_append,hd,List.all_cons,hb];simp
     rw[nT,this,Bool.false_and]
    ·have hb:pI (s.getD k 0)=true:=by
      simp only[pI,Bool.or_eq_true,aG,bu];omega
     rw[List.take_succ_eq_append_getElem cF,List.all_append,hp,List.all_cons];have e:s.getD k 0=s[k]:=by rw[List.getD_eq_getElem?_getD,List.getElem?_eq_getElem cF];rfl
     rw[e] at hb;simp [hb]
   ·rw[fj (by omega)] at hp;rw[nT,hp,Bool.true_and,decide_eq_decide];omega
def eR (k:Int):Bool×Bool×Bool×Int×Int:=
 if k=6 then(true,false,false,0,0)
 else if k=7 then(true,false,false,1,1)
 else if k=8 then(true,true,false,0,0)
 else if k=9\/k=16 then(false,false,false,2,2)
 else if k=10 then(true,false,false,1,17)
 else if k=11 then(true,true,false,0,16)
 else if k=12 then(true,false,false,0,16)
 else if k=13 then(false,true,false,0,16)
 else if k=14\/k=17\/k=18 then(false,false,true,1,1)
 else if k=15\/k=19\/k=20\/k=21 then(false,false,false,1,1)
 else(false,false,false,0,0)
def isKind (k:Int):Bool:=decide (1<=k)&&decide (k<=21)
theorem kinds {k:Int} (h:isKind k=true):k=1\/k=2\/k=3\/k=4\/k=5\/k=6\/k=7\/k=8\/k=9\/k=10\/k=11\/k=12\/k=13\/k=14\/k=15\/k=16\/k=17\/k=18\/k=19\/k=20\/k=21:=by
 simp only[isKind,aG,bu] at h;omega
theorem XM (k:Int) (m:Mem):FnH Tryz.prog 154 [.v (.int .i64 k)] ⟨[],[]⟩ m fun r H' m' =>m' =m/\H' =⟨[],[]⟩/\r= .tup [.agg [.v (.bool (eR k).1),.v (.bool (eR k).2.1),.v (.bool (eR k).2.2.1),.v (.int .i64 (eR k).2.2.2.1),.v (.int .i64 (eR k).2.2.2.2)],.v (.bool (isKind k))]:=by
 refine aR qR Tryz.func154 ?_
 ·cases hk:isKind k with
  |true=>
   rcases kinds hk with h |h |h |h |h |h |h |h |h |h |h |h |h |h |h |h |h |h |h |h |h<;>subst h<;>simp only[go_sem,eR,Int.reduceEq,ao,ar]
  |false=>
   have fp:¬(1<=k/\k<=21):=by simpa [isKind] using hk
   have e:∀j:Int,1<=j->j<=21->(k=j)=False:=fun j h1 h2=>eq_false fun h=>fp (h▸⟨h1,h2⟩)
   have e1:=e 1 (by decide) (by decide);have e2:=e 2 (by decide) (by decide);have e3:=e 3 (by decide) (by decide);have e4:=e 4 (by decide) (by decide);have e5:=e 5 (by decide) (by decide);have e6:=e 6 (by decide) (by decide);have e7:=e 7 (by decide) (by decide);have e8:=e 8 (by decide) (by decide);have e9:=e 9 (by decide) (by decide);have jg:=e 10 (by decide) (by decide);have mq:=e 11 (by decide) (by decide);have MY:=e 12 (by decide) (by decide);have MX:=e 13 (by decide) (by decide);have MW:=e 14 (by decide) (by decide);have MV:=e 15 (by decide) (by decide);have MU:=e 16 (by decide) (by decide);have MS:=e 17 (by decide) (by decide);have MR:=e 18 (by decide) (by decide);have MQ:=e 19 (by decide) (by decide);have MP:=e 20 (by decide) (by decide);have MO:=e 21 (by decide) (by decide);simp only[go_sem,eR,e1,e2,e3,e4,e5,e6,e7,e8,e9,jg,mq,MY,MX,MW,MV,MU,MS,MR,MQ,MP,MO,ar]
def og (k n:Int) (s:List UInt8):Bool:=
 if k=1 then decide (0<=n)&&decide (n<=2147483647)&&decide (s=[])
 else if k=2 then decide (0<=n)&&decide (s=[])
 else if k=3 then decide (n=0)&&nT s
 else if k=15 then decide (n=0)&&(decide (s=[45])||decide (s=[33]))
 else if k=16 then decide (n=0)&&opsL.contains s
 else decide (n=0)&&decide (s=[])
abbrev cfP:Cfg:=gL (fun _=>false) [(210,ft BL fun s=> .bool (nT s))]
theorem puP:dO cfP Tryz.prog:=pure_cons (by kernel_rfl) (fL X4) pure_nil
theorem aa6 (k n:Int) (s c:List UInt8) (d b:Int) (nm:List UInt8) (sl:Value) (m:Mem) (hg:Glob m) (hs:BL s):
  FnH Tryz.prog 156 [.v (.agg ⟨[.int .i64 k,.int .i64 n,.string (bs s),.string (bs c),.int .i64 d,.int .u8 b,.string (bs nm),sl]⟩)] ⟨[],[]⟩ m fun r H' m' =>ae m m' /\H' =⟨[],[]⟩/\r= .v (.bool (og k n s)):=by
 refine aR puP Tryz.func156 ?_
 ·simp only[go_sem];refine⟨fun h=>by simp only[og,ah h],fun h1=>⟨fun h=>by simp only[og,af h1,ah h],fun h2=>⟨fun h=>⟨fun _=>hs,by simp only[og,af h1,af h2,ah h]⟩,fun h3=>⟨fun h=>by simp only[og,af h1,af h2,af h3,ah h],fun h4=>⟨fun h=> ?_,fun h=>by simp only[og,af h1,af h2,af h3,af h4,af h]⟩⟩⟩⟩⟩;have xt:=hg.2;refine xt.elim fun ad xt=>xt.elim fun cp xt=>⟨.slice (some ad) 19 cp,fun _=>xt.1,fun hn=>ab ((zy opsL s (some ad) 19 cp m xt.2.2 (by omega)).mono ?_),fun hn=> ?_⟩
  ·rintro r H' m' hm ⟨rfl,rfl⟩;simp only[go_sem];refine⟨.inr hm,?_⟩;simp only[og,af h1,af h2,af h3,af h4,ah h,eH hn,Bool.true_and]
  ·simp only[og,af h1,af h2,af h3,af h4,ah h,dr hn,Bool.false_and]
def mN (k n:Int) (s c:List UInt8) (d b:Int) (nm:List UInt8) (l:Nat):Bool:=
 isKind k&&decide ((eR k).2.2.2.1<=l)&&decide (l<=(eR k).2.2.2.2)&&(if(eR k).1=true then du s&&decide (n=0) else og k n s)&&(if(eR k).2.1=true then dh c else decide (c=[]))
  &&(if(eR k).2.2.1=true then dD d b nm&&(decide (k≠14)||decide (d<8)) else decide (d=0)&&decide (b=0)&&decide (nm=[]))
abbrev qk:Cfg:=gL (fun _=>false) [(155,ft BL fun s=> .bool (du s)),(157,sI dD),(134,ft BL fun s=> .bool (dh s))]
theorem qc:dO qk Tryz.prog:=pure_cons (by kernel_rfl) (fL It) (pure_cons (by kernel_rfl) (we Ii) (pure_cons (by kernel_rfl) (fL BC) pure_nil))
theorem aP {P:Program} {f:FuncId} {args jb:List SV} {H:Hp} {m:Mem} {R:SV->Hp->Mem->Prop} (h:FnH P f args H m R) (e:∀V,jb.map (den V)=args.map (den V)):FnH P f jb H m R:=
 fun V w D h1 h2 h3=>by rw[e V];exact h V w D h1 h2 h3
theorem Zj (k n:Int) (s c:List UInt8) (d b:Int) (nm:List UInt8) (a:Option Addr) (l cp:Nat) (m:Mem) (hg:Glob m) (hs:BL s) (hc:BL c) (hn:BL nm):
  FnH Tryz.prog 64 [.v (.agg ⟨[.int .i64 k,.int .i64 n,.string (bs s),.string (bs c),.int .i64 d,.int .u8 b,.string (bs nm),.slice a l cp]⟩)] ⟨[],[]⟩ m fun r H' m' =>ae m m' /\H' =⟨[],[]⟩/\r= .v (.bool (mN k n s c d b nm l)):=by
 refine aR qc Tryz.func64 ?_
 ·simp only[go_sem];refine ab (((XM k m).mono (R' :=fun r H' m' =>m' =m/\H' =⟨[],[]⟩/\∃i cl ty lo hi,eR k=(i,cl,ty,lo,hi)/\r= .tup [.agg [.v (.bool i),.v (.bool cl),.v (.bool ty),.v (.int .i64 lo),.v (.int .i64 hi)],.v (.bool (isKind k))]) fun r H' m' hm h=>⟨h.1,h.2.1,_,_,_,_,_,rfl,h.2.2⟩).mono ?_);rintro r H' m' hm ⟨rfl,rfl,i,cl,ty,lo,hi,yY,rfl⟩;simp only[go_sem,qG];have Mp:∀x:Bool,(isKind k=false\/(l:Int)<lo)\/hi<(l:Int)->false=(isKind k&&decide (lo<=(l:Int))&&decide ((l:Int)<=hi)&&x):=fun x h=>by
   rcases h with (h |h) |h
   ·simp [h]
   ·rw[dr (by omega:¬lo<=(l:Int))];simp
   ·rw[dr (by omega:¬(l:Int)<=hi)];simp
  have hN:mN k n s c d b nm l=(isKind k&&decide (lo<=(l:Int))&&decide ((l:Int)<=hi)&&(if i=true then du s&&decide (n=0) else og k n s)&&(if cl=true then dh c else decide (c=[]))
    &&(if ty=true then dD d b nm&&(decide (k≠14)||decide (d<8)) else decide (d=0)&&decide (b=0)&&decide (nm=[]))):=by simp only[mN,yY]
  refine⟨fun h=> ?_,fun h=> ?_⟩
  ·rw[hN,Bool.and_assoc,Bool.and_assoc];exact Mp _ h
  ·have e1:=h.1.1;have e2:decide (lo<=(l:Int))=true:=eH (by have:=h.1.2;omega);have e3:decide ((l:Int)<=hi)=true:=eH (by have:=h.2;omega);have hM:mN k n s c d b nm l=((if i=true then du s&&decide (n=0) else og k n s)&&(if cl=true then dh c else decide (c=[]))&&(if ty=true then dD d b nm&&(decide (k≠14)||decide (d<8)) else decide (d=0)&&decide (b=0)&&decide (nm=[]))):=by
    rw[hN,e1,e2,e3];simp only[Bool.true_and]
   refine⟨fun hi=>⟨hs,fun cu=>⟨fun _=>hc,fun ht=>⟨fun _=>hn,by rw[hM];simp [hi,cu,ht,Bool.and_assoc]⟩,fun ht=>by rw[hM];simp [hi,cu,ht,Bool.and_assoc]⟩,fun cu=>⟨fun ht=>⟨fun _=>hn,by rw[hM];simp [hi,cu,ht,Bool.and_assoc]⟩,fun ht=>by rw[hM];simp [hi,cu,ht,Bool.and_assoc]⟩⟩,fun hi=>ab ((aP (aa6 k n s c d b nm (.slice a l cp) m' hg hs) (fun V=>rfl)).mono ?_)⟩;rintro r H' m2 aH ⟨hle,rfl,rfl⟩;simp only[go_sem,qG];exact⟨fun cu=>⟨fun _=>hc,fun ht=>⟨fun _=>hn,hle,by rw[hM];simp [hi,cu,ht,Bool.and_assoc]⟩,fun ht=>⟨hle,by rw[hM];simp [hi,cu,ht,Bool.and_assoc]⟩⟩,fun cu=>⟨fun ht=>⟨fun _=>hn,hle,by rw[hM];simp [hi,cu,ht,Bool.and_assoc]⟩,fun ht=>⟨hle,by rw[hM];simp [hi,cu,ht,Bool.and_assoc]⟩⟩⟩
structure Ty where
 dim:Int
 base:Int
 name:List UInt8
inductive Ex where
 |mk (k n:Int) (s c:List UInt8) (ty:Ty) (args:List Ex)
inductive St where
 |mk (k:Int) (name:List UInt8) (ty:Ty) (tg ex:Ex) (body alt:List St)
abbrev aq:Nat:=2000000
def yL (t:Ty):List Value:=[.int .i64 t.dim,.int .u8 t.base,.string (bs t.name)]
def ov (t:Ty):Prop:=aF t.dim/\(0<=t.base/\t.base<256)/\t.name.length<=aq
def aJ (k n:Int) (s c:List UInt8) (ty:Ty) (sl:Value):List Value:=[.int .i64 k,.int .i64 n,.string (bs s),.string (bs c),.int .i64 ty.dim,.int .u8 ty.base,.string (bs ty.name),sl]
def G2 (k n:Int) (s c:List UInt8) (ty:Ty) (l:Nat):Prop:=aF k/\aF n/\s.length<=aq/\c.length<=aq/\ov ty/\l<=aq
mutual
def bw (m:Mem):Ex->List Value->Prop
 | .mk k n s c ty args,cs=>∃a cp xs,cs=aJ k n s c ty (.slice a args.length cp)/\args.length<=cp/\aX m a args.length 8 xs/\G2 k n s c ty args.length/\dz m args xs
def dz (m:Mem):List Ex->List Value->Prop
 |[],_=>True
 |e::r,xs=>bw m e (xs.take 8)/\dz m r (xs.drop 8)
end
theorem rQ {m:Mem}:∀{l:List Ex} {xs:List Value} {i:Nat} (_:dz m l xs) (hi:i<l.length),bw m l[i] ((xs.drop (i * 8)).take 8)
 |[],_,_,_,hi=>absurd hi (Nat.not_lt_zero _)
 |e::r,xs,0,h,_=>by simp only[dz] at h;simpa using h.1
 |e::r,xs,i+1,h,hi=>by
  simp only[dz] at h;have:=rQ (i:=i) h.2 (by simpa using hi);rw[List.drop_drop] at this;rw[show(i+1) * 8=8+i * 8 by omega];exact this
mutual
theorem Fl {m m' :Mem} (hle:m.le m'):∀(e:Ex) (cs:List Value),bw m e cs->bw m' e cs
 | .mk k n s c ty args,cs,h=>by
  simp only[bw] at h ⊢;obtain⟨a,cp,xs,h1,h2,h3,h4,h5⟩:=h;exact⟨a,cp,xs,h1,h2,Aw hle h3,h4,EY hle args xs h5⟩
theorem EY {m m' :Mem} (hle:m.le m'):∀(l:List Ex) (xs:List Value),dz m l xs->dz m' l xs
 |[],_,_=>by simp only[dz]
 |e::r,xs,h=>by
  simp only[dz] at h ⊢;exact⟨Fl hle e _ h.1,EY hle r _ h.2⟩
end
mutual
def bU:Ex->Nat
 | .mk _ _ _ _ _ args=>kW args+1
def kW:List Ex->Nat
 |[]=>0
 |e::r=>max (bU e) (kW r)
end
theorem zQ:∀{l:List Ex} {i:Nat} (hi:i<l.length),bU l[i]<=kW l
 |[],_,hi=>absurd hi (Nat.not_lt_zero _)
 |e::r,0,_=>by simp only[kW];exact Nat.le_max_left _ _
 |e::r,i+1,hi=>by
  have:=zQ (l:=r) (i:=i) (by simpa using hi);simp only[kW];exact cX this (Nat.le_max_right _ _)
theorem EN:∀{l:List Ex} {i:Nat} (hi:i<l.length),kW (l.take (i+1))=max (kW (l.take i)) (bU l[i])
 |[],_,hi=>absurd hi (Nat.not_lt_zero _)
 |e::r,0,_=>by simp [kW]
 |e::r,i+1,hi=>by
  have:=EN (l:=r) (i:=i) (by simpa using hi);simp only[List.take_succ_cons,kW,this];rw[List.getElem_cons_succ,Nat.max_assoc]
def aK (f:FuncId) (args:List SV) (m:Mem) (v:Value):Prop:=FnH Tryz.prog f args ⟨[],[]⟩ m fun r H' m' =>ae m m' /\H' =⟨[],[]⟩/\r= .v v
theorem aan {α:Type} {l:List α} {B:α->Bool} {k:Nat} (h:k<l.length):(l.take (k+1)).any B=((l.take k).any B||B l[k]):=by
 rw[List.take_succ_eq_append_getElem h,List.any_append];simp
theorem Glob.upM {m m' :Mem} (h:Glob m) (hm:ae m m'):Glob m' :=by
 rcases hm with rfl |hm
 ·exact h
 ·exact h.up hm
theorem bq {m m' :Mem} {e:Ex} {cs:List Value} (hle:ae m m') (h:bw m e cs):bw m' e cs:=by
 rcases hle with rfl |hle
 ·exact h
 ·exact Fl hle e cs h
theorem uH {m m' :Mem} {l:List Ex} {cs:List Value} (hle:ae m m') (h:dz m l cs):dz m' l cs:=by
 rcases hle with rfl |hle
 ·exact h
 ·exact EY hle l cs h
theorem ay {m m' :Mem} {a:Option Addr} {n sz:Nat} {xs:List Value} (hle:ae m m') (h:aX m a n sz xs):aX m' a n sz xs:=by
 rcases hle with rfl |hle
 ·exact h
 ·exact Aw hle h
theorem aa {m m' ku:Mem} (h:ae m m') (h' :ae m' ku):ae m ku:=by
 rcases h with rfl |h
 ·exact h'
 ·rcases h' with rfl |h'
  ·exact .inr h
  ·exact .inr (Mem.le_trans h h')
theorem Xs (f:FuncId) (B:Ex->Bool) (l:List Ex) (a:Option Addr) (n c:Nat) (xs:List Value) (m:Mem) (hl:l.length=n) (hr:aX m a n 8 xs) (he:dz m l xs) (hn:n<=aq) (au:jv Tryz.prog f=true)
  (hf:∀i (hi:i<l.length) cs m',ae m m' ->bw m' l[i] cs->aK f [.v (.agg ⟨cs⟩)] m' (.bool (B l[i]))):
  FnH Tryz.prog 158 [.v (.slice a n c),.v (.func (.func f) ⟨[]⟩ ⟨[]⟩)] ⟨[],[]⟩ m fun r H' m' =>ae m m' /\H' =⟨[],[]⟩/\∃i:Int,r= .v (.int .i64 i)/\decide (0<=i)=l.any B:=by
 refine aR aB Tryz.func158 ?_
 ·simp only[go_sem];refine dA aB (fun x:Nat×Mem=>⟨[⟨0,[],.v (.slice a n c)⟩,⟨1,[],.v (.func (.func f) ⟨[]⟩ ⟨[]⟩)⟩,⟨7,[],.v (.int .i64 n)⟩,⟨8,[],.v (.int .i64 x.1)⟩],[],[],[],0,x.2⟩)
   (fun x=>ae m x.2/\x.1<=n/\(l.take x.1).any B=false) (fun x=>n - x.1) (0,m) (fun _ _=>av _) (fun x hx=>hx.1) ?_ ?_ ?_
  ·simp only[go_sem];rfl
  ·exact⟨.inl rfl,aD _,rfl⟩
  ·rintro⟨k,mm⟩ ⟨h1,h2,h3⟩;simp only at h1 h2 h3;have eA:gY.own f=false:=rfl;have VA:∀(hk:k<n),Rd mm (cO a (k * 8)) ((xs.drop (k * 8)).take 8)/\a≠none:=fun hk=>dH (ay h1 hr) hk
   have Be:∀(hk:k<n),((xs.drop (k * 8)).take 8).length=8:=fun hk=>by
    have:=hr.1;have hm:(k+1) * 8<=n * 8:=Nat.mul_le_mul_right _ hk;rw[List.length_take,dG];omega
   simp only[go_sem,eA];refine⟨fun aw=> ?_,fun cg=>⟨h1,?_⟩⟩
   ·have hk:k<n:=by clear hf;omega
    have cF:k<l.length:=by clear hf;omega
    refine⟨⟨by clear hf;omega,aw,(VA hk).2⟩,_,⟨(VA hk).1,Be hk⟩,au,bo ((hf k cF _ mm h1 (bq h1 (rQ he cF))).mono ?_)⟩;clear hf;rintro r H' m' hm ⟨hle,rfl,rfl⟩;simp only[go_sem];refine⟨fun hb=>⟨aa h1 hle,?_⟩,fun hb=>⟨by unfold aF;simp only[aq] at hn;omega,(k+1,m'),⟨by simp,.inl rfl⟩,⟨aa h1 hle,by simp only;omega,?_⟩,by simp only;omega⟩⟩
    ·have:l.any B=true:=List.any_eq_true.2 ⟨_,List.getElem_mem cF,hb⟩;rw[this];simp
    ·simp only;rw[aan cF,h3,hb];rfl
   ·rw[fj (by clear hf;omega)] at h3;rw[h3];rfl
theorem M5 (f:FuncId) (B:Ex->Bool) (l:List Ex) (a:Option Addr) (n c:Nat) (xs:List Value) (m:Mem) (hl:l.length=n) (hr:aX m a n 8 xs) (he:dz m l xs) (hn:n<=aq) (au:jv Tryz.prog f=true)
  (hf:∀i (hi:i<l.length) cs m',ae m m' ->bw m' l[i] cs->aK f [.v (.agg ⟨cs⟩)] m' (.bool (B l[i]))):
  aK 65 [.v (.slice a n c),.v (.func (.func f) ⟨[]⟩ ⟨[]⟩)] m (.bool (l.any B)):=by
 refine aR aB Tryz.func65 ?_
 ·simp only[go_sem];refine ab ((Xs f B l a n c xs m hl hr he hn au hf).mono ?_);clear hf;rintro r H' m' hm ⟨hle,rfl,i,rfl,hi⟩;simp only[go_sem];exact⟨hle,hi⟩
mutual
def bD:Ex->Bool
 | .mk k n s c ty args=>mN k n s c ty.dim ty.base ty.name args.length&&gl args
def gl:List Ex->Bool
 |[]=>true
 |e::r=>bD e&&gl r
end
theorem HU:∀(l:List Ex),(!l.any fun e=> !bD e)=gl l
 |[]=>rfl
 |e::r=>by
  simp only[List.any_cons,gl,<- HU r];cases bD e<;>simp
theorem qn:∀(h:Nat) (e:Ex) (cs:List Value) (m:Mem),bU e<=h->Glob m->bw m e cs->aK 33 [.v (.agg ⟨cs⟩)] m (.bool (bD e))
 |0,.mk k n s c ty args,cs,m,hd,_,_=>by simp [bU] at hd
 |h+1,.mk k n s c ty args,cs,m,hd,hg,he=>by
  simp only[bw] at he;obtain⟨a,cp,xs,rfl,ba,hr,au,eo⟩:=he;have hn:=au.2.2.2.2.2;simp only[bU] at hd;have hf:∀i (hi:i<args.length) cs m',ae m m' ->bw m' args[i] cs->aK 66 [.v (.agg ⟨cs⟩)] m' (.bool (!bD args[i])):=fun i hi cs m' hle aT=>by
   have hlen:∃c0 c1 c2 c3 c4 c5 c6 c7,cs=[c0,c1,c2,c3,c4,c5,c6,c7]:=by
    cases rV:args[i] with
    |mk k n s c ty args=>
     rw[rV] at aT;simp only[bw] at aT;obtain⟨a,cp,xs,rfl,_⟩:=aT;exact⟨_,_,_,_,_,_,_,_,rfl⟩
   have ih:=qn h args[i] cs m' (by have:=zQ hi;omega) (hg.upM hle) aT;obtain⟨c0,c1,c2,c3,c4,c5,c6,c7,rfl⟩:=hlen;refine aR aB Tryz.func66 ?_
   ·simp only[go_sem];refine ab ((aP ih (fun V=>rfl)).mono ?_);rintro r H' m2 aH ⟨aY,rfl,rfl⟩;simp only[go_sem];exact aY
  have hv:=fun m' (hm:ae m m')=>M5 66 (fun e=> !bD e) args a args.length cp xs m' rfl (ay hm hr) (uH hm eo) hn (by kernel_rfl) (fun i hi cs m2 hle=>hf i hi cs m2 (aa hm hle))
  have ahy:=Zj k n s c ty.dim ty.base ty.name a args.length cp m hg (cX au.2.2.1 (by decide)) (cX au.2.2.2.1 (by decide)) (cX au.2.2.2.2.1.2.2 (by decide));clear hf;refine enter gY aB Tryz.func33 rfl rfl (by kernel_rfl) rfl ?_ ?_
  ·simp only[go_sem,aJ]
  ·simp only[go_sem,aJ];refine ab ((aP ahy (fun V=>rfl)).mono ?_);rintro r H' m2 aH ⟨hle,rfl,rfl⟩;simp only[go_sem];refine⟨fun hb=>ab ((hv m2 hle).mono ?_),fun hb=>⟨hle,?_⟩⟩
   ·clear hv;rintro r H' m3 bI ⟨lH,rfl,rfl⟩;simp only[go_sem];refine⟨aa hle lH,?_⟩;rw[HU,bD,hb,Bool.true_and]
   ·rw[bD,hb,Bool.false_and]
structure Nd where
 k:Int
 n:Int
 s:List UInt8
 c:List UInt8
 ty:Ty
 a:Option Addr
 l:Nat
 cp:Nat
def Nd.cs (x:Nd):List Value:=[.int .i64 x.k,.int .i64 x.n,.string (bs x.s),.string (bs x.c),.int .i64 x.ty.dim,.int .u8 x.ty.base,.string (bs x.ty.name),.slice x.a x.l x.cp]
theorem mC {m:Mem} {e:Ex} {cs:List Value} (h:bw m e cs):∃x:Nd,cs=x.cs:=by
 cases e with
 |mk k n s c ty args=>
  simp only[bw] at h;obtain⟨a,cp,xs,rfl,_⟩:=h;exact⟨⟨k,n,s,c,ty,a,args.length,cp⟩,rfl⟩
theorem BS:∀(h:Nat) (e:Ex) (cs:List Value) (m:Mem),bU e<=h->h<=aq->bw m e cs->aK 34 [.v (.agg ⟨cs⟩)] m (.int .i64 (bU e))
 |0,.mk k n s c ty args,cs,m,hd,_,_=>by simp [bU] at hd
 |h+1,.mk k n s c ty args,cs,m,hd,hb,he=>by
  simp only[bw] at he;obtain⟨a,cp,xs,rfl,ba,hr,au,eo⟩:=he;have hn:=au.2.2.2.2.2;simp only[bU] at hd;refine enter gY aB Tryz.func34 rfl rfl (by kernel_rfl) rfl ?_ ?_
  ·simp only[go_sem,aJ]
  ·simp only[go_sem,aJ];refine dA aB (fun x:Nat×Mem=>⟨[⟨3,[],.v (.int .i64 (kW (args.take x.1)))⟩,⟨7,[],.v (.slice a args.length cp)⟩,⟨8,[],.v (.int .i64 args.length)⟩,⟨9,[],.v (.int .i64 x.1)⟩],[],[],[],1,x.2⟩)
    (fun x=>ae m x.2/\x.1<=args.length) (fun x=>args.length - x.1) (0,m) (fun _ _=>av _) (fun x hx=>hx.1) ?_ ?_ ?_
   ·simp only[go_sem];exact⟨rfl,rfl⟩
   ·exact⟨.inl rfl,aD _⟩
   ·rintro⟨i,mm⟩ ⟨h1,h2⟩;simp only at h1 h2;have hx:∀(hi:i<args.length),∃x:Nd,Rd mm (cO a (i * 8)) x.cs/\a≠none/\aK 34 [.v (.agg ⟨x.cs⟩)] mm (.int .i64 (bU args[i])):=fun hi=>by
     have aT:=bq h1 (rQ eo hi);obtain⟨x,hx⟩:=mC aT;have bW:=dH (ay h1 hr) hi;rw[hx] at aT bW;exact⟨x,bW.1,bW.2,BS h args[i] x.cs mm (by have:=zQ hi;omega) (by omega) aT⟩
    simp only[go_sem];refine⟨fun aw=> ?_,fun cg=> ?_⟩
    ·refine Exists.elim (hx (by clear hx;omega)) fun x bP=>⟨⟨by clear hx bP;omega,aw,bP.2.1⟩,x.cs,⟨bP.1,rfl⟩,?_⟩
     clear hx;have ha:=bP.2.2;simp only[go_sem,Nd.cs];refine ab ((aP ha (fun V=>rfl)).mono ?_);clear bP ha;rintro r H' m2 aH ⟨aY,rfl,rfl⟩;simp only[go_sem];have hi:i<args.length:=by omega
     have lx:=EN hi;refine⟨by unfold aF;simp only[aq] at hn;omega,(i+1,m2),⟨⟨?_,by simp⟩,.inl rfl⟩,⟨aa h1 aY,by simp only;omega⟩,by simp only;omega⟩;simp only;rw[lx];split<;>omega
    ·clear hx;have:args.take i=args:=fj (by omega);rw[this];simp only[bU];exact⟨by unfold aF;simp only[aq] at hb;omega,h1,by omega⟩
mutual
def dd:Ex->Nat
 | .mk _ _ _ _ _ args=>eg args+1
def eg:List Ex->Nat
 |[]=>0
 |e::r=>dd e+eg r
end
theorem aiC:eU Tryz.prog 45=some none:=by kernel_rfl
theorem aja:bZ Tryz.prog 45=1:=by kernel_rfl
attribute [go_sem] aiC aja
def sg (s:List UInt8):Tk:=⟨6,s,0,0⟩
def kw (s:List UInt8):Tk:=⟨2,s,0,0⟩
def aM (s:List UInt8):Tk:=⟨1,s,0,0⟩
theorem nh (a b:List Tk):cw (a++b)=cw a++cw b:=by simp [cw]
theorem Ac {l:List (List UInt8)} {a:Option Addr} {n:Nat} {m:Mem} (hr:aX m a n 1 (strs l)) {k:Nat} (hk:k<l.length):Rd m (cO a k) [.string (bs l[k])]/\a≠none:=by
 have hl:l.length=n:=by have:=hr.1;simpa [strs] using this
 obtain⟨hx,h,db⟩:=Cu hr (by omega:k<n);have e:(strs l)[k]= .string (bs l[k]):=by simp [strs]
 rw[e] at h;exact⟨h,db⟩
def iM:List UInt8:=[105,110,116]
def iI:List UInt8:=[108,111,110,103]
def qB:List UInt8:=[118,111,105,100]
def ja (b:Int) (nm:List UInt8):Tk:=if b=73 then kw iM else if b=74 then kw iI else if b=86 then kw qB else aM nm
def ij (d:Int):List Tk:=(List.replicate d.toNat [sg [91],sg [93]]).flatten
def b5 (d b:Int) (nm:List UInt8):List Tk:=ja b nm::ij d
theorem rF (d:Int):(ij d).length=d.toNat * 2:=by simp [ij,List.length_flatten,Nat.mul_comm]
def bH:Bool->List (List Tk)->List Tk
 |_,[]=>[]
 |f,t::r=>(if f=true then t else sg [44]::t)++bH false r
def bh (l:List (List Tk)):List Tk:=sg [40]::(bH true l++[sg [41]])
theorem Iv:∀{l:List (List Tk)} {f:Bool} {k:Nat} (h:k<l.length),bH f (l.take (k+1))=bH f (l.take k)++(if 0<k\/f=false then sg [44]::l[k] else l[k])
 |[],_,_,h=>absurd h (Nat.not_lt_zero _)
 |t::r,f,0,_=>by cases f<;>simp [bH]
 |t::r,f,k+1,h=>by
  have:=Iv (l:=r) (f:=false) (k:=k) (by simpa using h);simp only[List.take_succ_cons,bH,this,List.append_assoc];simp
def iL (k:Int):Bool:=decide (k=15)||decide (k=16)||decide (k=17)||decide (k=18)
def gr (b:Bool) (t:List Tk):List Tk:=if b=true then bh [t] else t
def fN (ts:List (Bool×List Tk)) (i:Nat):List Tk:=(ts.getD i (false,[])).2
def dU (ts:List (Bool×List Tk)) (i:Nat):List Tk:=gr (ts.getD i (false,[])).1 (ts.getD i (false,[])).2
def bY (k n:Int) (s c:List UInt8) (ty:Ty) (ts:List (Bool×List Tk)):List Tk:=
 if k=1 then[⟨3,[],n,0⟩]
 else if k=2 then[⟨4,[],n,0⟩]
 else if k=3 then[⟨5,s,0,0⟩]
 else if k=4 then[kw [110,117,108,108]]
 else if k=5 then[kw [116,104,105,115]]
 else if k=6 then[aM s]
 else if k=7 then dU ts 0++[sg [46]]++[aM s]
 else if k=8 then[aM c]++[sg [46]]++[aM s]
 else if k=9 then dU ts 0++[sg [91]]++fN ts 1++[sg [93]]
 else if k=10 then dU ts 0++[sg [46]]++[aM s]++bh ((ts.drop 1).map (·.2))
 else if k=11 then[aM c]++[sg [46]]++[aM s]++bh (ts.map (·.2))
 else if k=12 then[kw [115,117,112,101,114]]++[sg [46]]++[aM s]++bh (ts.map (·.2))
 else if k=13 then[kw [110,101,119]]++[aM c]++bh (ts.map (·.2))
 else if k=14 then[kw [110,101,119]]++b5 ty.dim ty.base ty.name++[sg [91]]++fN ts 0++[sg [93]]
 else if k=15 then[sg s]++dU ts 0
 else if k=16 then dU ts 0++[sg s]++dU ts 1
 else if k=17 then dU ts 0++[kw [97,115]]++b5 ty.dim ty.base ty.name
 else if k=18 then dU ts 0++[kw [105,115]]++b5 ty.dim ty.base ty.name
 else if k=19 then[kw [108,101,110]]++bh [fN ts 0]
 else if k=20 then[kw iM]++bh [fN ts 0]
 else if k=21 then[kw iI]++bh [fN ts 0]
 else[]
def Ex.k:Ex->Int | .mk k _ _ _ _ _=>k
mutual
def aC:Ex->List Tk
 | .mk k n s c ty args=>bY k n s c ty (aS args)
def aS:List Ex->List (Bool×List Tk)
 |[]=>[]
 |e::r=>(iL e.k,aC e)::aS r
end
theorem BE:∀(l:List Ex),aS l=l.map fun e=>(iL e.k,aC e)
 |[]=>rfl
 |e::r=>by simp only[aS,BE r,bJ]
abbrev cap:Nat:=800000000
theorem BT:∀(l:List (List Tk)) (f:Bool) (k:Nat),(bH f (l.take k)).length<=(bH f l).length
 |[],_,_=>by simp
 |t::r,f,0=>by simp [bH]
 |t::r,f,k+1=>by
  have:=BT r false k;simp only[List.take_succ_cons,bH,aI];omega
theorem Cx (l:List Ex):(aS l).map (·.2)=l.map aC:=by rw[BE,List.map_map];rfl
theorem Ri (l:List Ex):((aS l).drop 1).map (·.2)=(l.drop 1).map aC:=by rw[BE,<- List.map_drop,List.map_map];rfl
theorem Aq {l:List Ex} {i:Nat} (h:i<l.length):fN (aS l) i=aC l[i]:=by
 rw[fN,BE,List.getD_eq_getElem?_getD,List.getElem?_map,List.getElem?_eq_getElem h];rfl
theorem rM {l:List Ex} {i:Nat} (h:i<l.length):dU (aS l) i=gr (iL l[i].k) (aC l[i]):=by
 rw[dU,BE,List.getD_eq_getElem?_getD,List.getElem?_map,List.getElem?_eq_getElem h];rfl
theorem acb {m:Mem} {a:Option Addr} {n sz c:Nat} {xs:List Value} (h:aX m a n sz xs) (hn:1<=n) (hc:n<=c):aX m (if c=1 then a else a.map (·.add (1 * sz))) (n - 1) sz (xs.drop sz):=by
 have hl:=h.1;have hm:(n - 1) * sz+sz=n * sz:=by rw[<- Nat.succ_mul];congr 1;omega
 refine⟨by rw[dG];omega,fun h0=> ?_⟩;have dp:0<n * sz\/n * sz=0:=by omega
 obtain⟨ad,rfl,hs,jJ⟩:=h.2 (by omega);rw[af (by omega:¬c=1),Nat.one_mul];obtain⟨e1,e2,e3⟩:=mA ad sz hs;refine⟨ad.add sz,rfl,e3,fun j hj=> ?_⟩;obtain⟨h1,h2⟩:=jJ (sz+j) (by omega);obtain⟨g1,g2,g3⟩:=mA ad (sz+j) hs;obtain⟨f1,f2,f3⟩:=mA (ad.add sz) j e3;have My:(ad.add sz).add j=ad.add (sz+j):=by
  cases hA:(ad.add sz).add j;cases hB:ad.add (sz+j);rw[hA] at f1 f2 f3;rw[hB] at g1 g2 g3;simp only at f1 f2 f3 g1 g2 g3;rw[f1,f2,f3,g1,g2,g3,e1,e2,Nat.add_assoc]
 refine⟨by rw[My,h1,List.getElem?_drop],by rw[e1,e2,Nat.add_assoc];exact h2⟩
theorem abw {m:Mem} {l:List Ex} {xs:List Value} (h:dz m l xs) (hl:1<=l.length):dz m (l.drop 1) (xs.drop 8):=by
 cases l with
 |nil=>simp at hl
 |cons e r=>simp only[dz] at h;exact h.2
theorem zO {k n:Int} {s c:List UInt8} {d b:Int} {nm:List UInt8} {l:Nat} (h:mN k n s c d b nm l=true):isKind k=true/\(eR k).2.2.2.1<=l/\d<=8:=by
 simp only[mN,aG,bu] at h;obtain⟨⟨⟨⟨⟨h1,h2⟩,h3⟩,h4⟩,h5⟩,h6⟩:=h;refine⟨h1,h2,?_⟩;by_cases ht:(eR k).2.2.1=true
 ·rw[ah ht] at h6;simp only[aG,dD] at h6;have:=h6.1.1.1;unfold pA at this;split at this
  ·cases this
  ·omega
 ·rw[af ht] at h6;simp only[aG,bu] at h6;omega
theorem xG:∀{l:List Ex},gl l=true->∀e∈l,bD e=true
 |[],_,e,he=>by cases he
 |x::r,h,e,he=>by
  simp only[gl,aG] at h;rcases List.mem_cons.1 he with rfl |he
  ·exact h.1
  ·exact xG h.2 e he
theorem BF:∀{l:List Ex} {e:Ex},e∈l->bU e<=kW l
 |[],e,he=>by cases he
 |x::r,e,he=>by
  simp only[kW];rcases List.mem_cons.1 he with rfl |he
  ·omega
  ·have:=BF he;omega
mutual
def pd:Ex->Prop
 | .mk k n s c ty args=>G2 k n s c ty args.length/\pY args
def pY:List Ex->Prop
 |[]=>True
 |e::r=>pd e/\pY r
end
mutual
theorem Cf {m:Mem}:∀(e:Ex) (cs:List Value),bw m e cs->pd e
 | .mk k n s c ty args,cs,h=>by
  simp only[bw] at h;obtain⟨a,cp,xs,h1,h2,h3,h4,h5⟩:=h;simp only[pd];exact⟨h4,PC args xs h5⟩
theorem PC {m:Mem}:∀(l:List Ex) (xs:List Value),dz m l xs->pY l
 |[],_,_=>by simp only[pY]
 |e::r,xs,h=>by
  simp only[dz] at h;simp only[pY];exact⟨Cf e _ h.1,PC r _ h.2⟩
end
theorem wC {s:List UInt8} (h:s.length<=2000000):ox (sg s):=⟨h,(by unfold aF;decide:aF 0)⟩
theorem oU {s:List UInt8} (h:s.length<=2000000):ox (kw s):=⟨h,(by unfold aF;decide:aF 0)⟩
theorem Gf {s:List UInt8} (h:s.length<=2000000):ox (aM s):=⟨h,(by unfold aF;decide:aF 0)⟩
def eF (p:Tk->Prop) (l:List Tk):Prop:=∀t∈l,p t
theorem th {p:Tk->Prop}:eF p []:=fun _ h=>by cases h
theorem vX {p:Tk->Prop} {t:Tk} {l:List Tk} (h:p t) (h' :eF p l):eF p (t::l):=fun x hx=>by
 rcases List.mem_cons.1 hx with rfl |hx
 ·exact h
 ·exact h' x hx
theorem bQ {p:Tk->Prop} {a b:List Tk} (h:eF p a) (h' :eF p b):eF p (a++b):=fun x hx=>by
 rcases List.mem_append.1 hx with hx |hx
 ·exact h x hx
 ·exact h' x hx
theorem Om {p:Tk->Prop} (hp:p (sg [44])):∀{l:List (List Tk)} {f:Bool},(∀t∈l,eF p t)->eF p (bH f l)
 |[],_,_=>th
 |t::r,f,h=>by
  simp only[bH];refine bQ ?_ (Om hp fun x hx=>h x (bR _ hx));cases f
  ·exact vX hp (h t b6)
  ·exact h t b6
structure SgOk (p:Tk->Prop):Prop where
 comma:p (sg [44])
 lp:p (sg [40])
 rp:p (sg [41])
 lb:p (sg [91])
 rb:p (sg [93])
 dot:p (sg [46])
 kint:p (kw iM)
 klong:p (kw iI)
 kvoid:p (kw qB)
 knull:p (kw [110,117,108,108])
 kthis:p (kw [116,104,105,115])
 ksuper:p (kw [115,117,112,101,114])
 knew:p (kw [110,101,119])
 kas:p (kw [97,115])
 kis:p (kw [105,115])
 klen:p (kw [108,101,110])
theorem zS {p:Tk->Prop} (hp:SgOk p) {l:List (List Tk)} (h:∀t∈l,eF p t):eF p (bh l):=
 vX hp.lp (bQ (Om hp.comma h) (vX hp.rp th))
theorem ab4 {p:Tk->Prop} (hp:SgOk p) (d:Int):eF p (ij d):=fun t ht=>by
 simp only[ij,List.mem_flatten,List.mem_replicate] at ht;obtain⟨l,⟨_,rfl⟩,ht⟩:=ht;simp only[List.mem_cons,List.not_mem_nil,or_false] at ht;rcases ht with rfl |rfl
 ·exact hp.lb
 ·exact hp.rb
theorem Ce {p:Tk->Prop} (hp:SgOk p) (d b:Int) {nm:List UInt8} (hn:b≠73->b≠74->b≠86->p (aM nm)):eF p (b5 d b nm):=by
 refine vX ?_ (ab4 hp d);unfold ja;split
 ·exact hp.kint
 ·split
  ·exact hp.klong
  ·split
   ·exact hp.kvoid
   ·rename_i h1 h2 h3;exact hn h1 h2 h3
theorem ab3 {p:Tk->Prop} (hp:SgOk p) {b:Bool} {t:List Tk} (h:eF p t):eF p (gr b t):=by
 cases b
 ·exact h
 ·exact zS hp fun x hx=>by rw[List.mem_singleton.1 hx];exact h
theorem dM {p:Tk->Prop} {t:Tk} (h:p t):eF p [t]:=vX h th
theorem FE {p:Tk->Prop} {ts:List (Bool×List Tk)} (h:∀x∈ts,eF p x.2) (i:Nat):eF p (fN ts i):=by
 unfold fN;rw[List.getD_eq_getElem?_getD];cases hx:ts[i]? with
 |none=>exact th
 |some x=>exact h x (List.mem_of_getElem? hx)
theorem v8 {p:Tk->Prop} (hp:SgOk p) {ts:List (Bool×List Tk)} (h:∀x∈ts,eF p x.2) (i:Nat):eF p (dU ts i):=ab3 hp (FE h i)
theorem Qr {p:Tk->Prop} (hp:SgOk p) {k n:Int} {s c:List UInt8} {ty:Ty} {ts:List (Bool×List Tk)} (h:∀x∈ts,eF p x.2)
  (h1:k=1->p ⟨3,[],n,0⟩) (h2:k=2->p ⟨4,[],n,0⟩) (h3:k=3->p ⟨5,s,0,0⟩) (hs:(eR k).1=true->p (aM s)) (hc:(eR k).2.1=true->p (aM c)) (ho:k=15\/k=16->p (sg s))
  (ht:(eR k).2.2.1=true->ty.base≠73->ty.base≠74->ty.base≠86->p (aM ty.name)):eF p (bY k n s c ty ts):=by
 have hl:∀(l:List (Bool×List Tk)),(∀x∈l,x∈ts)->eF p (bh (l.map (·.2))):=fun l hl=>zS hp fun t ht=>by
  obtain⟨x,hx,rfl⟩:=List.mem_map.1 ht;exact h x (hl x hx)
 have po:∀i,eF p (bh [fN ts i]):=fun i=>zS hp fun x hx=>by rw[List.mem_singleton.1 hx];exact FE h i
 by_cases hk:isKind k=true
 ·rcases kinds hk with h' |h' |h' |h' |h' |h' |h' |h' |h' |h' |h' |h' |h' |h' |h' |h' |h' |h' |h' |h' |h' <;>subst h'
  ·exact dM (h1 rfl)
  ·exact dM (h2 rfl)
  ·exact dM (h3 rfl)
  ·exact dM hp.knull
  ·exact dM hp.kthis
  ·exact dM (hs rfl)
  ·exact bQ (bQ (v8 hp h 0) (dM hp.dot)) (dM (hs rfl))
  ·exact bQ (bQ (dM (hc rfl)) (dM hp.dot)) (dM (hs rfl))
  ·exact bQ (bQ (bQ (v8 hp h 0) (dM hp.lb)) (FE h 1)) (dM hp.rb)
  ·exact bQ (bQ (bQ (v8 hp h 0) (dM hp.dot)) (dM (hs rfl))) (hl _ fun x hx=>List.mem_of_mem_drop hx)
  ·exact bQ (bQ (bQ (dM (hc rfl)) (dM hp.dot)) (dM (hs rfl))) (hl _ fun x hx=>hx)
  ·exact bQ (bQ (bQ (dM hp.ksuper) (dM hp.dot)) (dM (hs rfl))) (hl _ fun x hx=>hx)
  ·exact bQ (bQ (dM hp.knew) (dM (hc rfl))) (hl _ fun x hx=>hx)
  ·exact bQ (bQ (bQ (bQ (dM hp.knew) (Ce hp _ _ (ht rfl))) (dM hp.lb)) (FE h 0)) (dM hp.rb)
  ·exact bQ (dM (ho (.inl rfl))) (v8 hp h 0)
  ·exact bQ (bQ (v8 hp h 0) (dM (ho (.inr rfl)))) (v8 hp h 1)
  ·exact bQ (bQ (v8 hp h 0) (dM hp.kas)) (Ce hp _ _ (ht rfl))
  ·exact bQ (bQ (v8 hp h 0) (dM hp.kis)) (Ce hp _ _ (ht rfl))
  ·exact bQ (dM hp.klen) (po 0)
  ·exact bQ (dM hp.kint) (po 0)
  ·exact bQ (dM hp.klong) (po 0)
 ·have e:∀j:Int,1<=j->j<=21->k≠j:=fun j h1 h2 h' =>hk (by subst h';simp [isKind,h1,h2])
  have:bY k n s c ty ts=[]:=by
   unfold bY;rw[af (e 1 (by decide) (by decide)),af (e 2 (by decide) (by decide)),af (e 3 (by decide) (by decide)),af (e 4 (by decide) (by decide)),af (e 5 (by decide) (by decide)),af (e 6 (by decide) (by decide)),af (e 7 (by decide) (by decide)),af (e 8 (by decide) (by decide)),af (e 9 (by decide) (by decide)),af (e 10 (by decide) (by decide)),af (e 11 (by decide) (by decide)),af (e 12 (by decide) (by decide)),af (e 13 (by decide) (by decide)),af (e 14 (by decide) (by decide)),af (e 15 (by decide) (by decide)),af (e 16 (by decide) (by decide)),af (e 17 (by decide) (by decide)),af (e 18 (by decide) (by decide)),af (e 19 (by decide) (by decide)),af (e 20 (by decide) (by decide)),af (e 21 (by decide) (by decide))]
  rw[this];exact th
theorem Rp:SgOk ox:=by constructor<;>exact⟨by decide,by unfold aF;decide⟩
mutual
theorem J2:∀(e:Ex),pd e->eF ox (aC e)
 | .mk k n s c ty args,h=>by
  simp only[pd] at h;obtain⟨⟨h1,h2,h3,h4,h5,h6⟩,h7⟩:=h;simp only[aC];have hs:ox (aM s):=Gf h3;exact Qr Rp (Rk args h7) (fun _=>⟨aD _,h2⟩) (fun _=>⟨aD _,h2⟩) (fun _=>⟨h3,(by unfold aF;decide:aF 0)⟩) (fun _=>hs) (fun _=>Gf h4) (fun _=>wC h3) (fun _ _ _ _=>Gf h5.2.2)
theorem Rk:∀(l:List Ex),pY l->∀x∈aS l,eF ox x.2
 |[],_=>fun x hx=>by simp only[aS] at hx;cases hx
 |e::r,h=>by
  simp only[pY] at h;intro x hx;simp only[aS] at hx;rcases List.mem_cons.1 hx with rfl |hx
  ·exact J2 e h.1
  ·exact Rk r h.2 x hx
end
def mQ:List (Bool×List Tk)->Nat
 |[]=>0
 |x::r=>x.2.length+3+mQ r
theorem acU (b:Bool) (t:List Tk):(gr b t).length<=t.length+2:=by
 cases b
 ·simp [gr]
 ·simp [gr,bh,bH]
theorem Pr:∀(l:List (Bool×List Tk)) (f:Bool),(bH f (l.map (·.2))).length<=mQ l
 |[],_=>by simp [bH]
 |x::r,f=>by
  have:=Pr r false;simp only[bJ,bH,mQ,aI];cases f<;>simp<;>omega
theorem Jm (l:List (Bool×List Tk)):(bh (l.map (·.2))).length<=mQ l+2:=by
 have:=Pr l true;simp only[bh,aL,aI,bg];omega
theorem E9 (l:List (Bool×List Tk)):(dU l 0).length+mQ (l.drop 1)<=mQ l:=by
 cases l with
 |nil=>simp [dU,gr,mQ]
 |cons x r=>
  have:=acU x.1 x.2;simp only[dU,List.getD_cons_zero,List.drop_one,List.tail_cons,mQ];omega
theorem SW (l:List (Bool×List Tk)):(fN l 0).length<=mQ l:=by
 cases l with
 |nil=>simp [fN]
 |cons x r=>simp only[fN,List.getD_cons_zero,mQ];omega
theorem Ta (l:List (Bool×List Tk)):(dU l 0).length<=mQ l:=by have:=E9 l;omega
theorem aeY (l:List (Bool×List Tk)):(dU l 0).length+(dU l 1).length<=mQ l:=by
 have h1:=E9 l;have h2:=Ta (l.drop 1);have e:dU (l.drop 1) 0=dU l 1:=by simp [dU,List.getD_eq_getElem?_getD,List.getElem?_drop]
 rw[e] at h2;omega
theorem aeF (l:List (Bool×List Tk)):(dU l 0).length+(fN l 1).length<=mQ l:=by
 have h1:=E9 l;have h2:=SW (l.drop 1);have e:fN (l.drop 1) 0=fN l 1:=by simp [fN,List.getD_eq_getElem?_getD,List.getElem?_drop]
 rw[e] at h2;omega
theorem z8 (d b:Int) (nm:List UInt8) (h:d<=8):(b5 d b nm).length<=17:=by
 simp only[b5,aL,rF];omega
theorem RR (t:List Tk):(bh [t]).length=t.length+2:=by simp [bh,bH]
theorem aaV {k n:Int} {s c:List UInt8} {ty:Ty} {ts:List (Bool×List Tk)} (hk:isKind k=true) (hd:ty.dim<=8):(bY k n s c ty ts).length<=22+mQ ts:=by
 have a1:=Ta ts;have a2:=aeY ts;have a3:=SW ts;have a4:=aeF ts;have a5:=Jm ts;have a6:=Jm (ts.drop 1);have a7:=E9 ts;have a8:=z8 ty.dim ty.base ty.name hd;have a9:=RR (fN ts 0);rcases kinds hk with h' |h' |h' |h' |h' |h' |h' |h' |h' |h' |h' |h' |h' |h' |h' |h' |h' |h' |h' |h' |h' <;>subst h' <;>
  simp only[bY,Int.reduceEq,↓reduceIte,aI,aL,bg]<;>omega
mutual
theorem xQ:∀(e:Ex),bD e=true->(aC e).length+3<=28 * dd e
 | .mk k n s c ty args,h=>by
  simp only[bD,aG] at h;obtain⟨hk,_,hd⟩:=zO h.1;have h1:=aaV (n:=n) (s:=s) (c:=c) (ts:=aS args) hk hd;have h2:=IU args h.2;simp only[aC,dd];omega
theorem IU:∀(l:List Ex),gl l=true->mQ (aS l)<=28 * eg l
 |[],_=>by simp [aS,mQ]
 |e::r,h=>by
  simp only[gl,aG] at h;have h1:=xQ e h.1;have h2:=IU r h.2;simp only[aS,mQ,eg];omega
end
def lY (e:Ex):List UInt8×Int:=if bD e=true then(if 24<bU e then([],9) else ld (aC e)) else([],4)
structure Sd where
 k:Int
 name:List UInt8
 ty:Ty
 tg:Nd
 ex:Nd
 a:Option Addr
 l:Nat
 cp:Nat
 b:Option Addr
 l2:Nat
 cp2:Nat
def Sd.cs (x:Sd):List Value:=[.int .i64 x.k,.string (bs x.name),.int .i64 x.ty.dim,.int .u8 x.ty.base,.string (bs x.ty.name),.int .i64 x.tg.k,.int .i64 x.tg.n,.string (bs x.tg.s),.string (bs x.tg.c),.int .i64 x.tg.ty.dim,.int .u8 x.tg.ty.base,.string (bs x.tg.ty.name),.slice x.tg.a x.tg.l x.tg.cp,.int .i64 x.ex.k,.int .i64 x.ex.n,.string (bs x.ex.s),.string (bs x.ex.c),.int .i64 x.ex.ty.dim,.int .u8 x.ex.ty.base,.string (bs x.ex.ty.name),.slice x.ex.a x.ex.l x.ex.cp,.slice x.a x.l x.cp,.slice x.b x.l2 x.cp2]
theorem aiw:eU Tryz.prog 73=some (some 23):=by kernel_rfl
theorem ai4:bZ Tryz.prog 73=23:=by kernel_rfl
theorem ael:fC Tryz.prog 73=some [.v (.int .i64 0),.v (.string (bs [])),.v (.int .i64 0),.v (.int .u8 0),.v (.string (bs [])),.v (.int .i64 0),.v (.int .i64 0),.v (.string (bs [])),.v (.string (bs [])),.v (.int .i64 0),.v (.int .u8 0),.v (.string (bs [])),.v (.slice none 0 0),.v (.int .i64 0),.v (.int .i64 0),.v (.string (bs [])),.v (.string (bs [])),.v (.int .i64 0),.v (.int .u8 0),.v (.string (bs [])),.v (.slice none 0 0),.v (.slice none 0 0),.v (.slice none 0 0)]:=by kernel_rfl
theorem ail:oc Tryz.prog 73=true:=by kernel_rfl
theorem afT:eU Tryz.prog 36=some none:=by kernel_rfl
theorem agb:bZ Tryz.prog 36=1:=by kernel_rfl
theorem ahV:iU Tryz.prog 36=some 73:=by kernel_rfl
theorem ady:dc Tryz.prog 73 0=some (0,none,1):=by kernel_rfl
theorem adx:dc Tryz.prog 73 1=some (1,none,1):=by kernel_rfl
theorem adw:dc Tryz.prog 73 2=some (2,some 3,3):=by kernel_rfl
theorem adv:dc Tryz.prog 73 3=some (5,some 8,8):=by kernel_rfl
theorem adu:dc Tryz.prog 73 4=some (13,some 8,8):=by kernel_rfl
theorem adt:dc Tryz.prog 73 5=some (21,none,1):=by kernel_rfl
theorem ads:dc Tryz.prog 73 6=some (22,none,1):=by kernel_rfl
structure Mc where
 fl:Int
 res:Ty
 name:List UInt8
 pa:Option Addr
 pl:Nat
 pc:Nat
 hb:Bool
 a:Option Addr
 l:Nat
 cp:Nat
def Mc.cs (x:Mc):List Value:=[.int .i64 x.fl,.int .i64 x.res.dim,.int .u8 x.res.base,.string (bs x.res.name),.string (bs x.name),.slice x.pa x.pl x.pc,.bool x.hb,.slice x.a x.l x.cp]
theorem aiz:eU Tryz.prog 98=some (some 8):=by kernel_rfl
theorem ai7:bZ Tryz.prog 98=8:=by kernel_rfl
theorem aen:fC Tryz.prog 98=some [.v (.int .i64 0),.v (.int .i64 0),.v (.int .u8 0),.v (.string (bs [])),.v (.string (bs [])),.v (.slice none 0 0),.v (.bool false),.v (.slice none 0 0)]:=by kernel_rfl
theorem aio:oc Tryz.prog 98=true:=by kernel_rfl
theorem afV:eU Tryz.prog 57=some none:=by kernel_rfl
theorem agd:bZ Tryz.prog 57=1:=by kernel_rfl
theorem ahX:iU Tryz.prog 57=some 98:=by kernel_rfl
theorem adL:dc Tryz.prog 98 0=some (0,none,1):=by kernel_rfl
theorem adK:dc Tryz.prog 98 1=some (1,some 3,3):=by kernel_rfl
theorem adJ:dc Tryz.prog 98 2=some (4,none,1):=by kernel_rfl
theorem adI:dc Tryz.prog 98 3=some (5,none,1):=by kernel_rfl
theorem adH:dc Tryz.prog 98 4=some (6,none,1):=by kernel_rfl
theorem adG:dc Tryz.prog 98 5=some (7,none,1):=by kernel_rfl
structure Cc where
 fl:Int
 name:List UInt8
 super:List UInt8
 ia:Option Addr
 il:Nat
 ic:Nat
 fa:Option Addr
 fn:Nat
 fc:Nat
 ma:Option Addr
 ml:Nat
 mc:Nat
 sa:Option Addr
 sl:Nat
 sc:Nat
def Cc.cs (x:Cc):List Value:=[.int .i64 x.fl,.string (bs x.name),.string (bs x.super),.slice x.ia x.il x.ic,.slice x.fa x.fn x.fc,.slice x.ma x.ml x.mc,.slice x.sa x.sl x.sc]
theorem aiE:eU Tryz.prog 59=some (some 7):=by kernel_rfl
theorem ajc:bZ Tryz.prog 59=7:=by kernel_rfl
theorem aep:fC Tryz.prog 59=some [.v (.int .i64 0),.v (.string (bs [])),.v (.string (bs [])),.v (.slice none 0 0),.v (.slice none 0 0),.v (.slice none 0 0),.v (.slice none 0 0)]:=by kernel_rfl
theorem aiq:oc Tryz.prog 59=true:=by kernel_rfl
theorem afX:eU Tryz.prog 23=some none:=by kernel_rfl
theorem agf:bZ Tryz.prog 23=1:=by kernel_rfl
theorem ahZ:iU Tryz.prog 23=some 59:=by kernel_rfl
theorem adV:dc Tryz.prog 59 0=some (0,none,1):=by kernel_rfl
theorem adU:dc Tryz.prog 59 1=some (1,none,1):=by kernel_rfl
theorem adT:dc Tryz.prog 59 2=some (2,none,1):=by kernel_rfl
theorem adS:dc Tryz.prog 59 3=some (3,none,1):=by kernel_rfl
theorem adR:dc Tryz.prog 59 4=some (4,none,1):=by kernel_rfl
theorem adQ:dc Tryz.prog 59 5=some (5,none,1):=by kernel_rfl
theorem adP:dc Tryz.prog 59 6=some (6,none,1):=by kernel_rfl
structure Pc where
 ty:Ty
 name:List UInt8
def Pc.cs (x:Pc):List Value:=[.int .i64 x.ty.dim,.int .u8 x.ty.base,.string (bs x.ty.name),.string (bs x.name)]
theorem aiy:eU Tryz.prog 160=some (some 4):=by kernel_rfl
theorem ai6:bZ Tryz.prog 160=4:=by kernel_rfl
theorem SP:fC Tryz.prog 160=some [.v (.int .i64 0),.v (.int .u8 0),.v (.string (bs [])),.v (.string (bs []))]:=by kernel_rfl
theorem ain:oc Tryz.prog 160=true:=by kernel_rfl
theorem afU:eU Tryz.prog 96=some none:=by kernel_rfl
theorem agc:bZ Tryz.prog 96=1:=by kernel_rfl
theorem ahW:iU Tryz.prog 96=some 160:=by kernel_rfl
theorem adF:dc Tryz.prog 160 0=some (0,some 3,3):=by kernel_rfl
theorem adE:dc Tryz.prog 160 1=some (3,none,1):=by kernel_rfl
structure Fc where
 fl:Int
 ty:Ty
 name:List UInt8
def Fc.cs (x:Fc):List Value:=[.int .i64 x.fl,.int .i64 x.ty.dim,.int .u8 x.ty.base,.string (bs x.ty.name),.string (bs x.name)]
theorem aiD:eU Tryz.prog 94=some (some 5):=by kernel_rfl
theorem ajb:bZ Tryz.prog 94=5:=by kernel_rfl
theorem SQ:fC Tryz.prog 94=some [.v (.int .i64 0),.v (.int .i64 0),.v (.int .u8 0),.v (.string (bs [])),.v (.string (bs []))]:=by kernel_rfl
theorem aip:oc Tryz.prog 94=true:=by kernel_rfl
theorem afW:eU Tryz.prog 56=some none:=by kernel_rfl
theorem age:bZ Tryz.prog 56=1:=by kernel_rfl
theorem ahY:iU Tryz.prog 56=some 94:=by kernel_rfl
theorem adO:dc Tryz.prog 94 0=some (0,none,1):=by kernel_rfl
theorem adN:dc Tryz.prog 94 1=some (1,some 3,3):=by kernel_rfl
theorem adM:dc Tryz.prog 94 2=some (4,none,1):=by kernel_rfl
theorem ai8:bZ Tryz.prog 55=1:=by kernel_rfl
attribute [go_sem] aiw ai4 ael ail afT agb ahV ady adx adw adv adu adt ads aiz ai7 aen aio afV agd ahX adL adK adJ adI adH adG aiE ajc aep aiq afX agf ahZ adV adU adT adS adR adQ adP aiy ai6 SP ain afU agc ahW adF adE aiD ajb SQ aip afW age ahY adO adN adM ai8
def gw (n:Nat) (B:Nat->Bool):Bool:=(List.range n).all B
theorem tf {n:Nat} {B:Nat->Bool}:gw (n+1) B=(gw n B&&B n):=by simp [gw,List.range_succ,List.all_append]
theorem lS {n k:Nat} {B:Nat->Bool} (hk:k<n) (h:B k=false):gw n B=false:=by
 simp only[gw,List.all_eq_false,List.mem_range];exact⟨k,hk,by simp [h]⟩
theorem ahO (f:FuncId) (B:Nat->Bool) (a:Option Addr) (n c:Nat) (a2:Option Addr) (n2 c2:Nat) (xs ys:List Value) (m:Mem) (hr:aX m a n 8 xs) (lL:aX m a2 n2 8 ys) (hn:n<=aq) (au:jv Tryz.prog f=true)
  (hx:∀i,i<n->n=n2->∃X Y:Nd,(xs.drop (i * 8)).take 8=X.cs/\(ys.drop (i * 8)).take 8=Y.cs/\∀m',ae m m' ->aK f [.v (.agg ⟨X.cs⟩),.v (.agg ⟨Y.cs⟩)] m' (.bool (B i))):
  aK 266 [.v (.slice a n c),.v (.slice a2 n2 c2),.v (.func (.func f) ⟨[]⟩ ⟨[]⟩)] m (.bool (decide (n=n2)&&gw n B)):=by
 refine aR aB Tryz.func266 ?_
 ·simp only[go_sem];refine⟨fun db=> ?_,fun heq=> ?_⟩
  ·have:¬n=n2:=by clear hx;omega
   rw[dr this];rfl
  ·have heq:n=n2:=by clear hx;omega
   subst heq;refine dA aB (fun x:Nat×Mem=>⟨[⟨1,[],.v (.slice a2 n c2)⟩,⟨2,[],.v (.func (.func f) ⟨[]⟩ ⟨[]⟩)⟩,⟨15,[],.v (.slice a n c)⟩,⟨16,[],.v (.int .i64 n)⟩,⟨17,[],.v (.int .i64 x.1)⟩],[],[],[],0,x.2⟩)
    (fun x=>ae m x.2/\x.1<=n/\gw x.1 B=true) (fun x=>n - x.1) (0,m) (fun _ _=>av _) (fun x hx=>hx.1) ?_ ?_ ?_
   ·simp only[go_sem];rfl
   ·exact⟨.inl rfl,aD _,rfl⟩
   ·rintro⟨k,mm⟩ ⟨h1,h2,h3⟩;simp only at h1 h2 h3;have eA:gY.own f=false:=rfl;have hy:∀(hk:k<n),∃X Y:Nd,(Rd mm (cO a (k * 8)) X.cs/\a≠none)/\(Rd mm (cO a2 (k * 8)) Y.cs/\a2≠none)/\aK f [.v (.agg ⟨X.cs⟩),.v (.agg ⟨Y.cs⟩)] mm (.bool (B k)):=fun hk=>by
     obtain⟨X,Y,e1,e2,e3⟩:=hx k hk rfl;have r1:=dH (ay h1 hr) hk;have r2:=dH (ay h1 lL) hk;rw[e1] at r1;rw[e2] at r2;exact⟨X,Y,r1,r2,e3 mm h1⟩
    clear hx;simp only[go_sem,eA];refine⟨fun aw=> ?_,fun cg=>⟨h1,?_⟩⟩
    ·have hk:k<n:=by clear hy;omega
     refine Exists.elim (hy hk) fun X bt=>Exists.elim bt fun Y ju=>⟨⟨by clear hy bt ju;omega,aw,ju.1.2⟩,X.cs,⟨ju.1.1,rfl⟩,?_⟩
     clear hy bt;have ha:=ju.2.2;simp only[go_sem,eA,Nd.cs];refine⟨⟨by clear ju ha;omega,aw,ju.2.1.2⟩,Y.cs,⟨ju.2.1.1,rfl⟩,?_⟩;clear ju;simp only[go_sem,eA,Nd.cs];refine⟨au,bo ((aP ha (fun V=>rfl)).mono ?_)⟩;clear ha;rintro r H' m2 aH ⟨aY,rfl,rfl⟩;simp only[go_sem];refine⟨fun hb=>⟨aa h1 aY,?_⟩,fun hb=>⟨by unfold aF;simp only[aq] at hn;omega,(k+1,m2),⟨by simp,.inl rfl⟩,⟨aa h1 aY,by simp only;omega,?_⟩,by simp only;omega⟩⟩
     ·rw[lS hk hb];simp
     ·simp only;rw[tf,h3,hb];rfl
    ·have:k=n:=by clear hy;omega
     rw[<- this,h3];simp
theorem Uw (f:FuncId) (B:Nat->Bool) (a:Option Addr) (n c:Nat) (a2:Option Addr) (n2 c2:Nat) (xs ys:List Value) (m:Mem) (hr:aX m a n 23 xs) (lL:aX m a2 n2 23 ys) (hn:n<=aq) (au:jv Tryz.prog f=true)
  (hx:∀i,i<n->n=n2->∃X Y:Sd,(xs.drop (i * 23)).take 23=X.cs/\(ys.drop (i * 23)).take 23=Y.cs/\∀m',ae m m' ->aK f [.v (.agg ⟨X.cs⟩),.v (.agg ⟨Y.cs⟩)] m' (.bool (B i))):
  aK 252 [.v (.slice a n c),.v (.slice a2 n2 c2),.v (.func (.func f) ⟨[]⟩ ⟨[]⟩)] m (.bool (decide (n=n2)&&gw n B)):=by
 refine aR aB Tryz.func252 ?_
 ·simp only[go_sem];refine⟨fun db=> ?_,fun heq=> ?_⟩
  ·have:¬n=n2:=by clear hx;omega
   rw[dr this];rfl
  ·have heq:n=n2:=by clear hx;omega
   subst heq;refine dA aB (fun x:Nat×Mem=>⟨[⟨1,[],.v (.slice a2 n c2)⟩,⟨2,[],.v (.func (.func f) ⟨[]⟩ ⟨[]⟩)⟩,⟨15,[],.v (.slice a n c)⟩,⟨16,[],.v (.int .i64 n)⟩,⟨17,[],.v (.int .i64 x.1)⟩],[],[],[],0,x.2⟩)
    (fun x=>ae m x.2/\x.1<=n/\gw x.1 B=true) (fun x=>n - x.1) (0,m) (fun _ _=>av _) (fun x hx=>hx.1) ?_ ?_ ?_
   ·simp only[go_sem];rfl
   ·exact⟨.inl rfl,aD _,rfl⟩
   ·rintro⟨k,mm⟩ ⟨h1,h2,h3⟩;simp only at h1 h2 h3;have eA:gY.own f=false:=rfl;have hy:∀(hk:k<n),∃X Y:Sd,(Rd mm (cO a (k * 23)) X.cs/\a≠none)/\(Rd mm (cO a2 (k * 23)) Y.cs/\a2≠none)/\aK f [.v (.agg ⟨X.cs⟩),.v (.agg ⟨Y.cs⟩)] mm (.bool (B k)):=fun hk=>by
     obtain⟨X,Y,e1,e2,e3⟩:=hx k hk rfl;have r1:=dH (ay h1 hr) hk;have r2:=dH (ay h1 lL) hk;rw[e1] at r1;rw[e2] at r2;exact⟨X,Y,r1,r2,e3 mm h1⟩
    clear hx;simp only[go_sem,eA];refine⟨fun aw=> ?_,fun cg=>⟨h1,?_⟩⟩
    ·have hk:k<n:=by clear hy;omega
     refine Exists.elim (hy hk) fun X bt=>Exists.elim bt fun Y ju=>⟨⟨by clear hy bt ju;omega,aw,ju.1.2⟩,X.cs,⟨ju.1.1,rfl⟩,?_⟩
     clear hy bt;have ha:=ju.2.2;simp only[go_sem,eA,Sd.cs];refine⟨⟨by clear ju ha;omega,aw,ju.2.1.2⟩,Y.cs,⟨ju.2.1.1,rfl⟩,?_⟩;clear ju;simp only[go_sem,eA,Sd.cs];refine⟨au,bo ((aP ha (fun V=>rfl)).mono ?_)⟩;clear ha;rintro r H' m2 aH ⟨aY,rfl,rfl⟩;simp only[go_sem];refine⟨fun hb=>⟨aa h1 aY,?_⟩,fun hb=>⟨by unfold aF;simp only[aq] at hn;omega,(k+1,m2),⟨by simp,.inl rfl⟩,⟨aa h1 aY,by simp only;omega,?_⟩,by simp only;omega⟩⟩
     ·rw[lS hk hb];simp
     ·simp only;rw[tf,h3,hb];rfl
    ·have:k=n:=by clear hy;omega
     rw[<- this,h3];simp
theorem Na:∀{x1 x2 ys:List Value} {b:Bool},ix ((x1++x2).map .v) (ys.map .v)=some b->∃b1 b2,ix (x1.map .v) ((ys.take x1.length).map .v)=some b1/\ix (x2.map .v) ((ys.drop x1.length).map .v)=some b2/\b=(b1&&b2)/\x1.length<=ys.length
 |[],x2,ys,b,h=>⟨true,b,by simp [ix],by simpa using h,by simp,aD _⟩
 |x::x1,x2,ys,b,h=>by
  obtain⟨y,r,e,e',rfl,h1,h2,rfl⟩:=Iw (xs:=x1++x2) h;obtain⟨b1,b2,g1,g2,rfl,g4⟩:=Na h2;refine⟨e&&b1,b2,?_,g2,by rw[Bool.and_assoc],by simp only[aL];omega⟩;simp only[bJ,aL,List.take_succ_cons,ix,h1,g1,Option.bind_some,Option.map_some]
theorem Ob:∀{n:Nat} {zs:List SV} {us:List Value},jw zs (us.map .v)=true->jw (zs.take n) ((us.take n).map .v)=true/\jw (zs.drop n) ((us.drop n).map .v)=true/\us.length=zs.length
 |0,zs,us,h=>⟨by simp [jw],by simpa using h,by
  induction zs generalizing us with
  |nil=>rw[Fi h];rfl
  |cons z zs ih=>obtain⟨x,r,rfl,_,h2⟩:=EW h;simp [ih _ h2]⟩
 |n+1,[],us,h=>by rw[Fi h];simp [jw]
 |n+1,z::zs,us,h=>by
  obtain⟨x,r,rfl,h1,h2⟩:=EW h;obtain⟨g1,g2,g3⟩:=Ob (n:=n) h2;refine⟨?_,g2,by simp [g3]⟩;simp only[List.take_succ_cons,bJ,jw,h1,g1,Bool.and_self]
def AI (P:Program) (N:TypeId) (sz:Nat):Nat->List SV->List Field->Bool
  |_,zs,[]=>zs.isEmpty
  |off,zs,f::fs=>f.name != "_" &&decide (f.offset=off)&&
      (if f.type=N then decide (0<sz/\sz<=zs.length)&&Dy P 0 (zs.take sz) (P.fieldsOf N).toList&&AI P N sz (off+sz) (zs.drop sz) fs
       else decide (eU P f.type=some none)&&(match zs with |z::r=>kindOk P f.type z&&AI P N sz (off+1) r fs |[]=>false))
theorem IE {P:Program} {N:TypeId} {sz d:Nat} {w:World} {cs ds:List Value} (hN:eU P N=some (some sz)) (hu:P.underlying N=some (.struct (P.fieldsOf N))) (hp:P.stoodInHeld N=false):∀{fs:List Field} {zs:List SV} {off:Nat} {us vs:List Value} {b:Bool},
  AI P N sz off zs fs=true->jw zs (us.map .v)=true->ix (us.map .v) (vs.map .v)=some b->cs.drop off=us->ds.drop off=vs->(Op.eqFields (d+2) ⟨cs⟩ ⟨ds⟩ fs).run P w= .ok b w
 |[],zs,off,us,vs,b,h,hf,he,_,_=>by
  have:zs=[]:=by simpa [AI] using h
  subst this;cases Fi hf;rw[List.map_nil] at he;obtain⟨_,rfl⟩:=Pw he;rfl
 |f::fs,zs,off,us,vs,b,h,hf,he,hus,gB=>by
  simp only[AI,aG,bu,bne_iff_ne] at h;obtain⟨⟨h1,h2⟩,h3⟩:=h;subst h2;by_cases hT:f.type=N
  ·rw[ah hT] at h3;simp only[aG,bu] at h3;obtain⟨⟨k1,k2⟩,k3⟩:=h3;obtain⟨g1,g2,g3⟩:=Ob (n:=sz) hf;have akF:us=us.take sz++us.drop sz:=(List.take_append_drop sz us).symm;rw[akF] at he;obtain⟨b1,b2,c1,c2,rfl,c4⟩:=Na he;have hlen:(us.take sz).length=sz:=by rw[List.length_take];omega
   rw[hlen] at c1 c2 c4;have cu:f.offset+sz<=cs.length:=by have:=congrArg List.length hus;rw[dG] at this;omega
   have xw:f.offset+sz<=ds.length:=by have:=congrArg List.length gB;rw[dG] at this;omega
   have p1:(part f.type ⟨cs⟩ f.offset).run P w= .ok (.agg ⟨us.take sz⟩) w:=by rw[hT];exact xL hN ⟨by rw[hus],cu⟩
   have p2:(part f.type ⟨ds⟩ f.offset).run P w= .ok (.agg ⟨vs.take sz⟩) w:=by rw[hT];exact xL hN ⟨by rw[gB],xw⟩
   have p3:(Op.equalIn (d+2) f.type (.agg ⟨us.take sz⟩) (.agg ⟨vs.take sz⟩)).run P w= .ok b1 w:=by
    rw[hT,run_equalIn_struct w (d+1) N _ _ hu hp];exact Jc (d:=d) k2 g1 c1 rfl rfl
   simp only[Op.eqFields,ah h1,Sem.run_bind,p1,p2,Result.andThen_ok,p3];cases b1 with
   |false=>simp
   |true=>
    simp only[Bool.not_true,Bool.false_eq_true,if_false,Bool.true_and];exact IE hN hu hp k3 g2 c2 (by rw[<- List.drop_drop,hus]) (by rw[<- List.drop_drop,gB])
  ·rw[af hT] at h3;simp only[aG,bu] at h3;obtain⟨k1,k2⟩:=h3;cases zs with
   |nil=>cases k2
   |cons z zs=>
    simp only[aG] at k2;obtain⟨x,LK,rfl,g1,g2⟩:=EW hf;obtain⟨y,LI,e,e',rfl,g3,g4,rfl⟩:=Iw he;have hx:cs[f.offset]? =some x:=by
     have:=congrArg (fun l:List Value=>l[0]?) hus;simpa using this
    have hy:ds[f.offset]? =some y:=by
     have:=congrArg (fun l:List Value=>l[0]?) gB;simpa using this
    have DV:cs.drop (f.offset+1)=LK:=by
     have:=congrArg (List.drop 1) hus;rw[List.drop_drop] at this;simpa [Nat.add_comm] using this
    have Mk:ds.drop (f.offset+1)=LI:=by
     have:=congrArg (List.drop 1) gB;rw[List.drop_drop] at this;simpa [Nat.add_comm] using this
    simp only[Op.eqFields,ah h1,Sem.run_bind,xL k1 (show _ from hx),xL k1 (show _ from hy),Result.andThen_ok,NQ (d+1) k2.1 g1 g3];cases e with
    |false=>simp
    |true=>
     simp only[Bool.not_true,Bool.false_eq_true,if_false,Bool.true_and];exact IE hN hu hp k2.2 g2 g4 DV Mk
theorem QW {P:Program} {t N:TypeId} {sz:Nat} {zs:List SV} {fs:List Field} (hN:eU P N=some (some sz)) (huN:P.underlying N=some (.struct (P.fieldsOf N))) (hpN:P.stoodInHeld N=false) (hz:fC P t=some zs) (hg:P.eqGuardType P.depth t=false)
  (hu:P.underlying t=some (.struct (P.fieldsOf t))) (hp:P.stoodInHeld t=false) (qh:(P.fieldsOf t).toList=fs) (h:AI P N sz 0 zs fs=true):vC P t:=by
 intro xs ys b w o o' op he hf;rw[hz] at hf;refine⟨run_eqGuard_agg w op t o o' _ _ hg,?_⟩;show(Op.equalIn (9999+1) t _ _).run _ w=_;rw[run_equalIn_struct w 9999 t _ _ hu hp,qh];exact IE (d:=9997) hN huN hpN h hf he rfl rfl
theorem ahQ:vC Tryz.prog 160:=QW (N:=30) LF (by kernel_rfl) (by kernel_rfl) SP (by kernel_rfl) (by kernel_rfl) (by kernel_rfl) rfl (by kernel_rfl)
theorem ahR:vC Tryz.prog 94:=QW (N:=30) LF (by kernel_rfl) (by kernel_rfl) SQ (by kernel_rfl) (by kernel_rfl) (by kernel_rfl) rfl (by kernel_rfl)
def Ty.eq (x y:Ty):Bool:=decide (x.dim=y.dim)&&(decide (x.base=y.base)&&decide (x.name=y.name))
def Pc.eq (x y:Pc):Bool:=decide (x.ty.dim=y.ty.dim)&&(decide (x.ty.base=y.ty.base)&&(decide (x.ty.name=y.ty.name)&&decide (x.name=y.name)))
def Fc.eq (x y:Fc):Bool:=decide (x.fl=y.fl)&&(decide (x.ty.dim=y.ty.dim)&&(decide (x.ty.base=y.ty.base)&&(decide (x.ty.name=y.ty.name)&&decide (x.name=y.name))))
structure Md where
 fl:Int
 res:Ty
 name:List UInt8
 params:List Pc
 hb:Bool
 body:List St
structure Cd where
 fl:Int
 name:List UInt8
 super:List UInt8
 ifs:List (List UInt8)
 fields:List Fc
 methods:List Md
 init:List St
def jP {α:Type} (e:α->α->Bool):List α->List α->Bool
 |[],[]=>true
 |a::r,b::t=>e a b&&jP e r t
 |_,_=>false
def fA {α:Type} (e:α->α->Bool) (l l2:List α) (i:Nat):Bool:=match l[i]?,l2[i]? with |some a,some b=>e a b |_,_=>false
theorem ZP {n:Nat} {B:Nat->Bool}:gw (n+1) B=(B 0&&gw n fun i=>B (i+1)):=by
 simp only[gw,List.range_succ_eq_map,List.all_cons,List.all_map];rfl
theorem rA {α:Type} (e:α->α->Bool):∀(l l2:List α),jP e l l2=(decide (l.length=l2.length)&&gw l.length (fA e l l2))
 |[],[]=>rfl
 |[],b::t=>by simp [jP]
 |a::r,[]=>by simp [jP]
 |a::r,b::t=>by
  rw[jP,rA e r t,aL,aL,ZP];have e1:decide (r.length+1=t.length+1)=decide (r.length=t.length):=by rw[decide_eq_decide];omega
  have e2:fA e (a::r) (b::t) 0=e a b:=rfl;have e3:(fun i=>fA e (a::r) (b::t) (i+1))=fA e r t:=by funext i;simp only[fA,List.getElem?_cons_succ]
  rw[e1,e2,e3];cases e a b<;>cases decide (r.length=t.length)<;>rfl
theorem Av {α:Type} {e:α->α->Bool} {l l2:List α} {i:Nat} (h:i<l.length) (h2:i<l2.length):fA e l l2 i=e l[i] l2[i]:=by
 simp only[fA,List.getElem?_eq_getElem h,List.getElem?_eq_getElem h2]
mutual
def iG:Ex->Ex->Bool
 | .mk k n s c ty args,.mk k' n' s' c' dT jb=>decide (k=k')&&decide (n=n')&&decide (s=s')&&decide (c=c')&&Ty.eq ty dT&&lI args jb
def lI:List Ex->List Ex->Bool
 |[],[]=>true
 |a::r,b::t=>iG a b&&lI r t
 |[],_::_=>false
 |_::_,[]=>false
end
theorem IZ:∀(l l2:List Ex),lI l l2=jP iG l l2
 |[],[]=>by simp only[lI,jP]
 |a::r,b::t=>by simp only[lI,jP,IZ r t]
 |[],_::_=>by simp only[lI,jP]
 |_::_,[]=>by simp only[lI,jP]
mutual
def dq:St->St->Bool
 | .mk k nm ty tg ex body alt,.mk k' fP dT yM zm pX yI=>decide (k=k')&&decide (nm=fP)&&Ty.eq ty dT&&iG tg yM&&iG ex zm&&gv body pX&&gv alt yI
def gv:List St->List St->Bool
 |[],[]=>true
 |a::r,b::t=>dq a b&&gv r t
 |[],_::_=>false
 |_::_,[]=>false
end
theorem E0:∀(l l2:List St),gv l l2=jP dq l l2
 |[],[]=>by simp only[gv,jP]
 |a::r,b::t=>by simp only[gv,jP,E0 r t]
 |[],_::_=>by simp only[gv,jP]
 |_::_,[]=>by simp only[gv,jP]
def ri (x y:Md):Bool:=decide (x.fl=y.fl)&&Ty.eq x.res y.res&&decide (x.name=y.name)&&(x.hb==y.hb)&&jP Pc.eq x.params y.params&&gv x.body y.body
def rk (x y:Cd):Bool:=decide (x.fl=y.fl)&&decide (x.name=y.name)&&decide (x.super=y.super)&&decide (x.ifs=y.ifs)&&jP Fc.eq x.fields y.fields&&jP ri x.methods y.methods&&gv x.init y.init
/-! In memory. -/
structure StOk (k:Int) (nm:List UInt8) (ty:Ty) (l l2:Nat):Prop where
 k:aF k
 nm:nm.length<=aq
 ty:ov ty
 l:l<=aq
 l2:l2<=aq
mutual
def eX (m:Mem):St->List Value->Prop
 | .mk k nm ty tg ex body alt,cs=>∃x:Sd,(cs=x.cs/\x.k=k/\x.name=nm/\x.ty=ty)/\bw m tg x.tg.cs/\bw m ex x.ex.cs/\(x.l=body.length/\x.l<=x.cp/\x.l2=alt.length/\x.l2<=x.cp2)/\StOk k nm ty body.length alt.length/\
   ∃xs ys,aX m x.a x.l 23 xs/\aX m x.b x.l2 23 ys/\bS m body xs/\bS m alt ys
def bS (m:Mem):List St->List Value->Prop
 |[],_=>True
 |e::r,xs=>eX m e (xs.take 23)/\bS m r (xs.drop 23)
end
theorem qw {m:Mem}:∀{l:List St} {xs:List Value} {i:Nat} (_:bS m l xs) (hi:i<l.length),eX m l[i] ((xs.drop (i * 23)).take 23)
 |[],_,_,_,hi=>absurd hi (Nat.not_lt_zero _)
 |e::r,xs,0,h,_=>by simp only[bS] at h;simpa using h.1
 |e::r,xs,i+1,h,hi=>by
  simp only[bS] at h;have:=qw (i:=i) h.2 (by simpa using hi);rw[List.drop_drop] at this;rw[show(i+1) * 23=23+i * 23 by omega];exact this
mutual
theorem PQ {m m' :Mem} (hle:m.le m'):∀(e:St) (cs:List Value),eX m e cs->eX m' e cs
 | .mk k nm ty tg ex body alt,cs,h=>by
  simp only[eX] at h ⊢;obtain⟨x,h1,h2,h3,h4,h5,xs,ys,h6,h7,h8,h9⟩:=h;exact⟨x,h1,Fl hle _ _ h2,Fl hle _ _ h3,h4,h5,xs,ys,Aw hle h6,Aw hle h7,BI hle body xs h8,BI hle alt ys h9⟩
theorem BI {m m' :Mem} (hle:m.le m'):∀(l:List St) (xs:List Value),bS m l xs->bS m' l xs
 |[],_,_=>by simp only[bS]
 |e::r,xs,h=>by
  simp only[bS] at h ⊢;exact⟨PQ hle e _ h.1,BI hle r _ h.2⟩
end
theorem dw {m m' :Mem} {l:List St} {cs:List Value} (hle:ae m m') (h:bS m l cs):bS m' l cs:=by
 rcases hle with rfl |hle
 ·exact h
 ·exact BI hle l cs h
theorem td {m m' :Mem} {l:St} {cs:List Value} (hle:ae m m') (h:eX m l cs):eX m' l cs:=by
 rcases hle with rfl |hle
 ·exact h
 ·exact PQ hle l cs h
theorem Fa {m:Mem} {e:St} {cs:List Value} (h:eX m e cs):∃x:Sd,cs=x.cs:=by
 cases e with
 |mk k nm ty tg ex body alt=>
  simp only[eX] at h;obtain⟨x,h1,_⟩:=h;exact⟨x,h1.1⟩
def nz {α:Type} (R:α->List Value->Prop) (sz:Nat):List α->List Value->Prop
 |[],_=>True
 |e::r,xs=>R e (xs.take sz)/\nz R sz r (xs.drop sz)
theorem nZ {α:Type} {R:α->List Value->Prop} {sz:Nat}:∀{l:List α} {xs:List Value} {i:Nat} (_:nz R sz l xs) (hi:i<l.length),R l[i] ((xs.drop (i * sz)).take sz)
 |[],_,_,_,hi=>absurd hi (Nat.not_lt_zero _)
 |e::r,xs,0,h,_=>by simpa using h.1
 |e::r,xs,i+1,h,hi=>by
  have:=nZ (i:=i) h.2 (by simpa using hi);rw[List.drop_drop] at this;rw[show(i+1) * sz=sz+i * sz by rw[Nat.succ_mul,Nat.add_comm]];exact this
theorem wD {α:Type} {R R' :α->List Value->Prop} {sz:Nat} (h:∀a cs,R a cs->R' a cs):∀{l:List α} {xs:List Value},nz R sz l xs->nz R' sz l xs
 |[],_,_=>trivial
 |_::_,_,hl=>⟨h _ _ hl.1,wD h hl.2⟩
def flat {α:Type} (f:α->List Value) (l:List α):List Value:=(l.map f).flatten
theorem oJ {α:Type} {f:α->List Value} {sz:Nat} (hf:∀x,(f x).length=sz):∀{l:List α} {i:Nat} (hi:i<l.length),((flat f l).drop (i * sz)).take sz=f l[i]
 |[],_,hi=>absurd hi (Nat.not_lt_zero _)
 |x::r,0,_=>by
  simp only[flat,bJ,List.flatten_cons,Nat.zero_mul,List.drop_zero,List.getElem_cons_zero];rw[<- hf x,List.take_left]
 |x::r,i+1,hi=>by
  have:=oJ hf (l:=r) (i:=i) (by simpa using hi);simp only[List.getElem_cons_succ];rw[<- this,Nat.succ_mul,Nat.add_comm,<- List.drop_drop];congr 2
  simp only[flat,bJ,List.flatten_cons];rw[<- hf x,List.drop_left]
structure PcOk (p:Pc):Prop where
 ty:ov p.ty
 name:p.name.length<=aq
structure FcOk (p:Fc):Prop where
 fl:aF p.fl
 ty:ov p.ty
 name:p.name.length<=aq
structure MdOk (d:Md):Prop where
 fl:aF d.fl
 res:ov d.res
 name:d.name.length<=aq
 pl:d.params.length<=aq
 ps:∀p∈d.params,PcOk p
 l:d.body.length<=aq
def gJ (m:Mem) (d:Md) (cs:List Value):Prop:=∃x:Mc,(cs=x.cs/\x.fl=d.fl/\x.res=d.res/\x.name=d.name/\x.hb=d.hb)/\(x.pl=d.params.length/\x.pl<=x.pc/\x.l=d.body.length/\x.l<=x.cp)/\MdOk d/\
 aX m x.pa x.pl 4 (flat Pc.cs d.params)/\∃xs,aX m x.a x.l 23 xs/\bS m d.body xs
structure CdOk (d:Cd):Prop where
 fl:aF d.fl
 name:d.name.length<=aq
 super:d.super.length<=aq
 il:d.ifs.length<=aq
 ifs:∀s∈d.ifs,s.length<=aq
 fn:d.fields.length<=aq
 fs:∀s∈d.fields,FcOk s
 ml:d.methods.length<=aq
 l:d.init.length<=aq
def jL (m:Mem) (d:Cd) (cs:List Value):Prop:=∃x:Cc,(cs=x.cs/\x.fl=d.fl/\x.name=d.name/\x.super=d.super)/\(x.il=d.ifs.length/\x.il<=x.ic/\x.fn=d.fields.length/\x.fn<=x.fc/\x.ml=d.methods.length/\x.ml<=x.mc/\x.sl=d.init.length/\x.sl<=x.sc)/\CdOk d/\
 aX m x.ia x.il 1 (strs d.ifs)/\aX m x.fa x.fn 5 (flat Fc.cs d.fields)/\∃xs ys,aX m x.ma x.ml 8 xs/\nz (gJ m) 8 d.methods xs/\aX m x.sa x.sl 23 ys/\bS m d.init ys
theorem qp {m m' :Mem} (hle:ae m m') {d:Md} {cs:List Value} (h:gJ m d cs):gJ m' d cs:=by
 obtain⟨x,h1,h2,h3,h4,xs,h5,h6⟩:=h;exact⟨x,h1,h2,h3,ay hle h4,xs,ay hle h5,dw hle h6⟩
theorem qu {m m' :Mem} (hle:ae m m') {d:Cd} {cs:List Value} (h:jL m d cs):jL m' d cs:=by
 obtain⟨x,h1,h2,h3,h4,h5,xs,ys,h6,h7,h8,h9⟩:=h;exact⟨x,h1,h2,h3,ay hle h4,ay hle h5,xs,ys,ay hle h6,wD (fun _ _=>qp hle) h7,ay hle h8,dw hle h9⟩
def oT (m:Mem) (l:List Cd) (a:Option Addr) (n c:Nat):Prop:=n=l.length/\n<=c/\n<=aq/\∃xs,aX m a n 7 xs/\nz (jL m) 7 l xs
theorem aaS {m m' :Mem} (hle:ae m m') {l:List Cd} {a:Option Addr} {n c:Nat} (h:oT m l a n c):oT m' l a n c:=by
 obtain⟨h1,h2,h3,xs,h4,h5⟩:=h;exact⟨h1,h2,h3,xs,ay hle h4,wD (fun _ _=>qu hle) h5⟩
mutual
def eT:St->Nat
 | .mk _ _ _ _ _ body alt=>max (dy body) (dy alt)+1
def dy:List St->Nat
 |[]=>0
 |e::r=>max (eT e) (dy r)
end
theorem my:∀{l:List St} {e:St},e∈l->eT e<=dy l
 |[],e,he=>by cases he
 |x::r,e,he=>by
  simp only[dy];rcases List.mem_cons.1 he with rfl |he
  ·omega
  ·have:=my he;omega
theorem QV {m:Mem} {l l2:List Ex} {xs ys:List Value} (h1:dz m l xs) (h2:dz m l2 ys) {f:FuncId} (hf:∀a∈l,∀b∈l2,∀ca cb m',ae m m' ->bw m' a ca->bw m' b cb->aK f [.v (.agg ⟨ca⟩),.v (.agg ⟨cb⟩)] m' (.bool (iG a b))):
  ∀i,i<l.length->l.length=l2.length->∃X Y:Nd,(xs.drop (i * 8)).take 8=X.cs/\(ys.drop (i * 8)).take 8=Y.cs/\∀m',ae m m' ->aK f [.v (.agg ⟨X.cs⟩),.v (.agg ⟨Y.cs⟩)] m' (.bool (fA iG l l2 i)):=fun i hi he=>by
 have r1:=rQ h1 hi;have r2:=rQ h2 (by omega:i<l2.length);obtain⟨X,hX⟩:=mC r1;obtain⟨Y,hY⟩:=mC r2;rw[hX] at r1;rw[hY] at r2;refine⟨X,Y,hX,hY,fun m' hle=> ?_⟩;rw[Av hi (by omega)];exact hf _ (List.getElem_mem hi) _ (List.getElem_mem _) _ _ m' hle (bq hle r1) (bq hle r2)
theorem JU:∀(h:Nat) (a b:Ex) (ca cb:List Value) (m:Mem),bU a<=h->bw m a ca->bw m b cb->aK 251 [.v (.agg ⟨ca⟩),.v (.agg ⟨cb⟩)] m (.bool (iG a b))
 |0,.mk k n s c ty args,b,ca,cb,m,hd,_,_=>by simp [bU] at hd
 |h+1,.mk k n s c ty args,.mk k' n' s' c' dT jb,ca,cb,m,hd,ha,hb=>by
  simp only[bw] at ha hb;obtain⟨a,cp,xs,rfl,ba,hr,au,eo⟩:=ha;obtain⟨a',cp',xs',rfl,hcp',hr',hok',hes'⟩:=hb;simp only[bU] at hd;have hE:=fun m' (hle:ae m m')=>ahO 251 (fA iG args jb) a args.length cp a' jb.length cp' xs xs' m' (ay hle hr) (ay hle hr') au.2.2.2.2.2 (by kernel_rfl)
   (QV (uH hle eo) (uH hle hes') fun x hx y hy cx cy ku aY r1 r2=>JU h x y cx cy ku (by have:=BF hx;omega) r1 r2)
  simp only[<- rA] at hE;refine enter gY aB Tryz.func251 rfl rfl (by kernel_rfl) rfl ?_ ?_
  ·simp only[go_sem,aJ]
  ·simp only[go_sem,aJ,qG];refine⟨fun h=>ab ((hE m (.inl rfl)).mono ?_),fun h=> ?_⟩
   ·clear hE;rintro r H' m2 aH ⟨aY,rfl,rfl⟩;simp only[go_sem];refine⟨aY,?_⟩;simp only[iG,IZ,Ty.eq,h,ao,Bool.true_and]
   ·clear hE;simp only[iG,Ty.eq];rcases h with (((h |h) |h) |h) |h |h |h<;>simp [h]
theorem FN {α N:Type} {R:Mem->α->List Value->Prop} {vQ:N->List Value} {sz:Nat} {e:α->α->Bool} (Vx:∀m m' a c,ae m m' ->R m a c->R m' a c) (hN:∀m a c,R m a c->∃x:N,c=vQ x) {m:Mem} {l l2:List α} {xs ys:List Value}
  (h1:∀i (hi:i<l.length),R m l[i] ((xs.drop (i * sz)).take sz)) (h2:∀i (hi:i<l2.length),R m l2[i] ((ys.drop (i * sz)).take sz)) {f:FuncId} (hf:∀a∈l,∀b∈l2,∀ca cb m',ae m m' ->R m' a ca->R m' b cb->aK f [.v (.agg ⟨ca⟩),.v (.agg ⟨cb⟩)] m' (.bool (e a b))):
  ∀i,i<l.length->l.length=l2.length->∃X Y:N,(xs.drop (i * sz)).take sz=vQ X/\(ys.drop (i * sz)).take sz=vQ Y/\∀m',ae m m' ->aK f [.v (.agg ⟨vQ X⟩),.v (.agg ⟨vQ Y⟩)] m' (.bool (fA e l l2 i)):=fun i hi he=>by
 have r1:=h1 i hi;have r2:=h2 i (by omega:i<l2.length);obtain⟨X,hX⟩:=hN _ _ _ r1;obtain⟨Y,hY⟩:=hN _ _ _ r2;rw[hX] at r1;rw[hY] at r2;refine⟨X,Y,hX,hY,fun m' hle=> ?_⟩;rw[Av hi (by omega)];exact hf _ (List.getElem_mem hi) _ (List.getElem_mem _) _ _ m' (hle) (Vx _ _ _ _ hle r1) (Vx _ _ _ _ hle r2)
theorem pD:∀(h:Nat) (a b:St) (ca cb:List Value) (m:Mem),eT a<=h->eX m a ca->eX m b cb->aK 236 [.v (.agg ⟨ca⟩),.v (.agg ⟨cb⟩)] m (.bool (dq a b))
 |0,.mk k nm ty tg ex body alt,b,ca,cb,m,hd,_,_=>by simp [eT] at hd
 |h+1,.mk k nm ty tg ex body alt,.mk k' fP dT yM zm pX yI,ca,cb,m,hd,ha,hb=>by
  simp only[eX] at ha hb;obtain⟨x,⟨rfl,rfl,rfl,rfl⟩,dn,hex,⟨hl,ba,ct,eb⟩,au,xs,ys,r1,r2,s1,s2⟩:=ha;obtain⟨x',⟨rfl,rfl,rfl,rfl⟩,htg',yz,⟨lu,hcp',hl2',hcp2'⟩,hok',xs',ys',r1',r2',s1',s2'⟩:=hb;simp only[eT] at hd;have hT:=fun m' (hle:ae m m')=>JU _ tg yM x.tg.cs x'.tg.cs m' (av _) (bq hle dn) (bq hle htg')
  have hX:=fun m' (hle:ae m m')=>JU _ ex zm x.ex.cs x'.ex.cs m' (av _) (bq hle hex) (bq hle yz)
  have hB:∀m',ae m m' ->aK 252 [.v (.slice x.a x.l x.cp),.v (.slice x'.a x'.l x'.cp),.v (.func (.func 236) ⟨[]⟩ ⟨[]⟩)] m' (.bool (gv body pX)):=fun m' hle=>by
   have hf:=FN (R:=eX) (vQ:=Sd.cs) (e:=dq) (f:=236) (fun _ _ _ _=>td) (fun _ _ _=>Fa) (fun i hi=>qw (dw hle s1) hi) (fun i hi=>qw (dw hle s1') hi)
    (fun a ha b hb ca cb m2 aY=>pD h a b ca cb m2 (by have:=my ha;omega))
   rw[E0,rA];rw[<- hl,<- lu] at hf ⊢;exact Uw _ _ x.a x.l x.cp x'.a x'.l x'.cp xs xs' m' (ay hle r1) (ay hle r1') (by rw[hl];exact au.l) (by kernel_rfl) hf
  have hA:∀m',ae m m' ->aK 252 [.v (.slice x.b x.l2 x.cp2),.v (.slice x'.b x'.l2 x'.cp2),.v (.func (.func 236) ⟨[]⟩ ⟨[]⟩)] m' (.bool (gv alt yI)):=fun m' hle=>by
   have hf:=FN (R:=eX) (vQ:=Sd.cs) (e:=dq) (f:=236) (fun _ _ _ _=>td) (fun _ _ _=>Fa) (fun i hi=>qw (dw hle s2) hi) (fun i hi=>qw (dw hle s2') hi)
    (fun a ha b hb ca cb m2 aY=>pD h a b ca cb m2 (by have:=my ha;omega))
   rw[E0,rA];rw[<- ct,<- hl2'] at hf ⊢;exact Uw _ _ x.b x.l2 x.cp2 x'.b x'.l2 x'.cp2 ys ys' m' (ay hle r2) (ay hle r2') (by rw[ct];exact au.l2) (by kernel_rfl) hf
  clear s1 s2 s1' s2';refine enter gY aB Tryz.func236 rfl rfl (by kernel_rfl) rfl ?_ ?_
  ·simp only[go_sem,Sd.cs,Nd.cs]
  ·simp only[go_sem,Sd.cs,Nd.cs,qG];refine⟨fun h=>ab ((aP (hT m (.inl rfl)) (fun V=>rfl)).mono ?_),fun h=> ?_⟩
   ·clear hT;rintro r H' m2 aH ⟨l2,rfl,rfl⟩;simp only[go_sem,Sd.cs,Nd.cs];have e0:dq (St.mk x.k x.name x.ty tg ex body alt) (St.mk x'.k x'.name x'.ty yM zm pX yI)=(iG tg yM&&iG ex zm&&gv body pX&&gv alt yI):=by simp only[dq,Ty.eq,h,ao,Bool.true_and]
    refine⟨fun h1=>ab ((aP (hX m2 l2) (fun V=>rfl)).mono ?_),fun h1=> ?_⟩
    ·clear hX;rintro r H' m3 bI ⟨l3,rfl,rfl⟩;simp only[go_sem,Sd.cs,Nd.cs];refine⟨fun h2=>ab ((hB m3 (aa l2 l3)).mono ?_),fun h2=> ?_⟩
     ·clear hB;rintro r H' m4 cQ ⟨l4,rfl,rfl⟩;simp only[go_sem,Sd.cs,Nd.cs];refine⟨fun h3=>ab ((hA m4 (aa (aa l2 l3) l4)).mono ?_),fun h3=> ?_⟩
      ·clear hA;rintro r H' m5 cK ⟨l5,rfl,rfl⟩;simp only[go_sem,Sd.cs,Nd.cs];refine⟨aa (aa (aa l2 l3) l4) l5,?_⟩;rw[e0,h1,h2,h3];rfl
      ·refine⟨aa (aa l2 l3) l4,?_⟩;rw[e0,h3,Bool.and_false];rfl
     ·refine⟨aa l2 l3,?_⟩;rw[e0,h2,Bool.and_false];rfl
    ·refine⟨l2,?_⟩;rw[e0,h1];rfl
   ·clear hT hX hB hA;simp only[dq,Ty.eq];rcases h with (h |h) |h |h |h<;>simp [h]
theorem B7 {m:Mem} {e:Md} {cs:List Value} (h:gJ m e cs):∃x:Mc,cs=x.cs:=by
 obtain⟨x,h1,_⟩:=h;exact⟨x,h1.1⟩
theorem Q5 {m:Mem} {e:Cd} {cs:List Value} (h:jL m e cs):∃x:Cc,cs=x.cs:=by
 obtain⟨x,h1,_⟩:=h;exact⟨x,h1.1⟩
def lr (n:Nat) (B:Nat->Bool):Bool:=(List.range n).any B
theorem E7 {n:Nat} {B:Nat->Bool}:lr (n+1) B=(lr n B||B n):=by simp [lr,List.range_succ,List.any_append]
theorem FA {n k:Nat} {B:Nat->Bool} (hk:k<n) (h:B k=true):lr n B=true:=by
 simp only[lr,List.any_eq_true,List.mem_range];exact⟨k,hk,h⟩
theorem Pz {α:Type} (p:α->Bool):∀(l:List α) (B:Nat->Bool),(∀i (h:i<l.length),B i=p l[i])->lr l.length B=l.any p
 |[],_,_=>rfl
 |x::r,B,h=>by
  have h0:=h 0 (by simp);have hr:=Pz p r (fun i=>B (i+1)) fun i hi=>h (i+1) (by simpa using hi)
  rw[List.any_cons,<- hr,aL];simp only[lr,List.range_succ_eq_map,List.any_cons,List.any_map,h0,List.getElem_cons_zero];rfl
theorem ag9 (f:FuncId) (B:Nat->Bool) (a:Option Addr) (n c:Nat) (xs:List Value) (m:Mem) (hr:aX m a n 4 xs) (hn:n<=aq) (au:jv Tryz.prog f=true)
  (hx:∀i,i<n->∃X:Pc,(xs.drop (i * 4)).take 4=X.cs/\∀m',ae m m' ->aK f [.v (.agg ⟨X.cs⟩)] m' (.bool (B i))):
  FnH Tryz.prog 231 [.v (.slice a n c),.v (.func (.func f) ⟨[]⟩ ⟨[]⟩)] ⟨[],[]⟩ m fun r H' m' =>ae m m' /\H' =⟨[],[]⟩/\∃i:Int,r= .v (.int .i64 i)/\decide (0<=i)=lr n B:=by
 refine aR aB Tryz.func231 ?_
 ·simp only[go_sem];refine dA aB (fun x:Nat×Mem=>⟨[⟨0,[],.v (.slice a n c)⟩,⟨1,[],.v (.func (.func f) ⟨[]⟩ ⟨[]⟩)⟩,⟨7,[],.v (.int .i64 n)⟩,⟨8,[],.v (.int .i64 x.1)⟩],[],[],[],0,x.2⟩)
   (fun x=>ae m x.2/\x.1<=n/\lr x.1 B=false) (fun x=>n - x.1) (0,m) (fun _ _=>av _) (fun x hx=>hx.1) ?_ ?_ ?_
  ·simp only[go_sem];rfl
  ·exact⟨.inl rfl,aD _,rfl⟩
  ·rintro⟨k,mm⟩ ⟨h1,h2,h3⟩;simp only at h1 h2 h3;have eA:gY.own f=false:=rfl;have hy:∀(hk:k<n),∃X:Pc,(Rd mm (cO a (k * 4)) X.cs/\a≠none)/\aK f [.v (.agg ⟨X.cs⟩)] mm (.bool (B k)):=fun hk=>by
     obtain⟨X,e1,e3⟩:=hx k hk;have r1:=dH (ay h1 hr) hk;rw[e1] at r1;exact⟨X,r1,e3 mm h1⟩
   clear hx;simp only[go_sem,eA];refine⟨fun aw=> ?_,fun cg=>⟨h1,?_⟩⟩
   ·have hk:k<n:=by clear hy;omega
    refine Exists.elim (hy hk) fun X bt=>⟨⟨by clear hy bt;omega,aw,bt.1.2⟩,X.cs,⟨bt.1.1,rfl⟩,?_⟩
    clear hy;have ha:=bt.2;clear bt;simp only[go_sem,eA,Pc.cs];refine⟨au,bo ((aP ha (fun V=>rfl)).mono ?_)⟩;clear ha;rintro r H' m' hm ⟨hle,rfl,rfl⟩;simp only[go_sem];refine⟨fun hb=>⟨aa h1 hle,?_⟩,fun hb=>⟨by unfold aF;simp only[aq] at hn;omega,(k+1,m'),⟨by simp,.inl rfl⟩,⟨aa h1 hle,by simp only;omega,?_⟩,by simp only;omega⟩⟩
    ·rw[FA hk hb];simp
    ·simp only;rw[E7,h3,hb];rfl
   ·have:k=n:=by clear hy;omega
    rw[<- this,h3];rfl
theorem ah2 (f:FuncId) (B:Nat->Bool) (a:Option Addr) (n c:Nat) (xs:List Value) (m:Mem) (hr:aX m a n 4 xs) (hn:n<=aq) (au:jv Tryz.prog f=true)
  (hx:∀i,i<n->∃X:Pc,(xs.drop (i * 4)).take 4=X.cs/\∀m',ae m m' ->aK f [.v (.agg ⟨X.cs⟩)] m' (.bool (B i))):
  aK 197 [.v (.slice a n c),.v (.func (.func f) ⟨[]⟩ ⟨[]⟩)] m (.bool (lr n B)):=by
 refine aR aB Tryz.func197 ?_
 ·simp only[go_sem];refine ab ((ag9 f B a n c xs m hr hn au hx).mono ?_);clear hx;rintro r H' m' hm ⟨hle,rfl,i,rfl,hi⟩;simp only[go_sem];exact⟨hle,hi⟩
theorem ahb (f:FuncId) (B:Nat->Bool) (a:Option Addr) (n c:Nat) (xs:List Value) (m:Mem) (hr:aX m a n 5 xs) (hn:n<=aq) (au:jv Tryz.prog f=true)
  (hx:∀i,i<n->∃X:Fc,(xs.drop (i * 5)).take 5=X.cs/\∀m',ae m m' ->aK f [.v (.agg ⟨X.cs⟩)] m' (.bool (B i))):
  FnH Tryz.prog 199 [.v (.slice a n c),.v (.func (.func f) ⟨[]⟩ ⟨[]⟩)] ⟨[],[]⟩ m fun r H' m' =>ae m m' /\H' =⟨[],[]⟩/\∃i:Int,r= .v (.int .i64 i)/\decide (0<=i)=lr n B:=by
 refine aR aB Tryz.func199 ?_
 ·simp only[go_sem];refine dA aB (fun x:Nat×Mem=>⟨[⟨0,[],.v (.slice a n c)⟩,⟨1,[],.v (.func (.func f) ⟨[]⟩ ⟨[]⟩)⟩,⟨7,[],.v (.int .i64 n)⟩,⟨8,[],.v (.int .i64 x.1)⟩],[],[],[],0,x.2⟩)
   (fun x=>ae m x.2/\x.1<=n/\lr x.1 B=false) (fun x=>n - x.1) (0,m) (fun _ _=>av _) (fun x hx=>hx.1) ?_ ?_ ?_
  ·simp only[go_sem];rfl
  ·exact⟨.inl rfl,aD _,rfl⟩
  ·rintro⟨k,mm⟩ ⟨h1,h2,h3⟩;simp only at h1 h2 h3;have eA:gY.own f=false:=rfl;have hy:∀(hk:k<n),∃X:Fc,(Rd mm (cO a (k * 5)) X.cs/\a≠none)/\aK f [.v (.agg ⟨X.cs⟩)] mm (.bool (B k)):=fun hk=>by
     obtain⟨X,e1,e3⟩:=hx k hk;have r1:=dH (ay h1 hr) hk;rw[e1] at r1;exact⟨X,r1,e3 mm h1⟩
   clear hx;simp only[go_sem,eA];refine⟨fun aw=> ?_,fun cg=>⟨h1,?_⟩⟩
   ·have hk:k<n:=by clear hy;omega
    refine Exists.elim (hy hk) fun X bt=>⟨⟨by clear hy bt;omega,aw,bt.1.2⟩,X.cs,⟨bt.1.1,rfl⟩,?_⟩
    clear hy;have ha:=bt.2;clear bt;simp only[go_sem,eA,Fc.cs];refine⟨au,bo ((aP ha (fun V=>rfl)).mono ?_)⟩;clear ha;rintro r H' m' hm ⟨hle,rfl,rfl⟩;simp only[go_sem];refine⟨fun hb=>⟨aa h1 hle,?_⟩,fun hb=>⟨by unfold aF;simp only[aq] at hn;omega,(k+1,m'),⟨by simp,.inl rfl⟩,⟨aa h1 hle,by simp only;omega,?_⟩,by simp only;omega⟩⟩
    ·rw[FA hk hb];simp
    ·simp only;rw[E7,h3,hb];rfl
   ·have:k=n:=by clear hy;omega
    rw[<- this,h3];rfl
theorem ah4 (f:FuncId) (B:Nat->Bool) (a:Option Addr) (n c:Nat) (xs:List Value) (m:Mem) (hr:aX m a n 5 xs) (hn:n<=aq) (au:jv Tryz.prog f=true)
  (hx:∀i,i<n->∃X:Fc,(xs.drop (i * 5)).take 5=X.cs/\∀m',ae m m' ->aK f [.v (.agg ⟨X.cs⟩)] m' (.bool (B i))):
  aK 140 [.v (.slice a n c),.v (.func (.func f) ⟨[]⟩ ⟨[]⟩)] m (.bool (lr n B)):=by
 refine aR aB Tryz.func140 ?_
 ·simp only[go_sem];refine ab ((ahb f B a n c xs m hr hn au hx).mono ?_);clear hx;rintro r H' m' hm ⟨hle,rfl,i,rfl,hi⟩;simp only[go_sem];exact⟨hle,hi⟩
theorem aha (f:FuncId) (B:Nat->Bool) (a:Option Addr) (n c:Nat) (xs:List Value) (m:Mem) (hr:aX m a n 8 xs) (hn:n<=aq) (au:jv Tryz.prog f=true)
  (hx:∀i,i<n->∃X:Mc,(xs.drop (i * 8)).take 8=X.cs/\∀m',ae m m' ->aK f [.v (.agg ⟨X.cs⟩)] m' (.bool (B i))):
  FnH Tryz.prog 200 [.v (.slice a n c),.v (.func (.func f) ⟨[]⟩ ⟨[]⟩)] ⟨[],[]⟩ m fun r H' m' =>ae m m' /\H' =⟨[],[]⟩/\∃i:Int,r= .v (.int .i64 i)/\decide (0<=i)=lr n B:=by
 refine aR aB Tryz.func200 ?_
 ·simp only[go_sem];refine dA aB (fun x:Nat×Mem=>⟨[⟨0,[],.v (.slice a n c)⟩,⟨1,[],.v (.func (.func f) ⟨[]⟩ ⟨[]⟩)⟩,⟨7,[],.v (.int .i64 n)⟩,⟨8,[],.v (.int .i64 x.1)⟩],[],[],[],0,x.2⟩)
   (fun x=>ae m x.2/\x.1<=n/\lr x.1 B=false) (fun x=>n - x.1) (0,m) (fun _ _=>av _) (fun x hx=>hx.1) ?_ ?_ ?_
  ·simp only[go_sem];rfl
  ·exact⟨.inl rfl,aD _,rfl⟩
  ·rintro⟨k,mm⟩ ⟨h1,h2,h3⟩;simp only at h1 h2 h3;have eA:gY.own f=false:=rfl;have hy:∀(hk:k<n),∃X:Mc,(Rd mm (cO a (k * 8)) X.cs/\a≠none)/\aK f [.v (.agg ⟨X.cs⟩)] mm (.bool (B k)):=fun hk=>by
     obtain⟨X,e1,e3⟩:=hx k hk;have r1:=dH (ay h1 hr) hk;rw[e1] at r1;exact⟨X,r1,e3 mm h1⟩
   clear hx;simp only[go_sem,eA];refine⟨fun aw=> ?_,fun cg=>⟨h1,?_⟩⟩
   ·have hk:k<n:=by clear hy;omega
    refine Exists.elim (hy hk) fun X bt=>⟨⟨by clear hy bt;omega,aw,bt.1.2⟩,X.cs,⟨bt.1.1,rfl⟩,?_⟩
    clear hy;have ha:=bt.2;clear bt;simp only[go_sem,eA,Mc.cs];refine⟨au,bo ((aP ha (fun V=>rfl)).mono ?_)⟩;clear ha;rintro r H' m' hm ⟨hle,rfl,rfl⟩;simp only[go_sem];refine⟨fun hb=>⟨aa h1 hle,?_⟩,fun hb=>⟨by unfold aF;simp only[aq] at hn;omega,(k+1,m'),⟨by simp,.inl rfl⟩,⟨aa h1 hle,by simp only;omega,?_⟩,by simp only;omega⟩⟩
    ·rw[FA hk hb];simp
    ·simp only;rw[E7,h3,hb];rfl
   ·have:k=n:=by clear hy;omega
    rw[<- this,h3];rfl
theorem ah3 (f:FuncId) (B:Nat->Bool) (a:Option Addr) (n c:Nat) (xs:List Value) (m:Mem) (hr:aX m a n 8 xs) (hn:n<=aq) (au:jv Tryz.prog f=true)
  (hx:∀i,i<n->∃X:Mc,(xs.drop (i * 8)).take 8=X.cs/\∀m',ae m m' ->aK f [.v (.agg ⟨X.cs⟩)] m' (.bool (B i))):
  aK 141 [.v (.slice a n c),.v (.func (.func f) ⟨[]⟩ ⟨[]⟩)] m (.bool (lr n B)):=by
 refine aR aB Tryz.func141 ?_
 ·simp only[go_sem];refine ab ((aha f B a n c xs m hr hn au hx).mono ?_);clear hx;rintro r H' m' hm ⟨hle,rfl,i,rfl,hi⟩;simp only[go_sem];exact⟨hle,hi⟩
theorem akA (f:FuncId) (B:Nat->Bool) (a:Option Addr) (n c:Nat) (xs:List Value) (m:Mem) (hr:aX m a n 1 xs) (hn:n<=aq) (au:jv Tryz.prog f=true)
  (hx:∀i,i<n->∃s:List UInt8,xs[i]? =some (.string (bs s))/\∀m',ae m m' ->aK f [.v (.string (bs s))] m' (.bool (B i))):
  FnH Tryz.prog 198 [.v (.slice a n c),.v (.func (.func f) ⟨[]⟩ ⟨[]⟩)] ⟨[],[]⟩ m fun r H' m' =>ae m m' /\H' =⟨[],[]⟩/\∃i:Int,r= .v (.int .i64 i)/\decide (0<=i)=lr n B:=by
 refine aR aB Tryz.func198 ?_
 ·simp only[go_sem];refine dA aB (fun x:Nat×Mem=>⟨[⟨0,[],.v (.slice a n c)⟩,⟨1,[],.v (.func (.func f) ⟨[]⟩ ⟨[]⟩)⟩,⟨7,[],.v (.int .i64 n)⟩,⟨8,[],.v (.int .i64 x.1)⟩],[],[],[],0,x.2⟩)
   (fun x=>ae m x.2/\x.1<=n/\lr x.1 B=false) (fun x=>n - x.1) (0,m) (fun _ _=>av _) (fun x hx=>hx.1) ?_ ?_ ?_
  ·simp only[go_sem];rfl
  ·exact⟨.inl rfl,aD _,rfl⟩
  ·rintro⟨k,mm⟩ ⟨h1,h2,h3⟩;simp only at h1 h2 h3;have eA:gY.own f=false:=rfl;have hy:∀(hk:k<n),∃s:List UInt8,(Rd mm (cO a k) [.string (bs s)]/\a≠none)/\aK f [.v (.string (bs s))] mm (.bool (B k)):=fun hk=>by
     obtain⟨s,e1,e3⟩:=hx k hk;obtain⟨fp,r1,db⟩:=Cu (ay h1 hr) hk;rw[List.getElem?_eq_getElem fp] at e1;rw[Option.some.inj e1] at r1;exact⟨s,⟨r1,db⟩,e3 mm h1⟩
   clear hx;simp only[go_sem,eA];refine⟨fun aw=> ?_,fun cg=>⟨h1,?_⟩⟩
   ·have hk:k<n:=by clear hy;omega
    refine Exists.elim (hy hk) fun s bt=>⟨⟨by clear hy bt;omega,aw,bt.1.2⟩,_,bt.1.1,?_⟩
    clear hy;have ha:=bt.2;clear bt;refine⟨au,bo ((ha).mono ?_)⟩;clear ha;rintro r H' m' hm ⟨hle,rfl,rfl⟩;simp only[go_sem];refine⟨fun hb=>⟨aa h1 hle,?_⟩,fun hb=>⟨by unfold aF;simp only[aq] at hn;omega,(k+1,m'),⟨by simp,.inl rfl⟩,⟨aa h1 hle,by simp only;omega,?_⟩,by simp only;omega⟩⟩
    ·rw[FA hk hb];simp
    ·simp only;rw[E7,h3,hb];rfl
   ·have:k=n:=by clear hy;omega
    rw[<- this,h3];rfl
theorem ak9 (f:FuncId) (B:Nat->Bool) (a:Option Addr) (n c:Nat) (xs:List Value) (m:Mem) (hr:aX m a n 1 xs) (hn:n<=aq) (au:jv Tryz.prog f=true)
  (hx:∀i,i<n->∃s:List UInt8,xs[i]? =some (.string (bs s))/\∀m',ae m m' ->aK f [.v (.string (bs s))] m' (.bool (B i))):
  aK 139 [.v (.slice a n c),.v (.func (.func f) ⟨[]⟩ ⟨[]⟩)] m (.bool (lr n B)):=by
 refine aR aB Tryz.func139 ?_
 ·simp only[go_sem];refine ab ((akA f B a n c xs m hr hn au hx).mono ?_);clear hx;rintro r H' m' hm ⟨hle,rfl,i,rfl,hi⟩;simp only[go_sem];exact⟨hle,hi⟩
def ai:Ty:=⟨0,0,[]⟩
def aku (e:Ex):Ex:= .mk 15 0 [45] [] ai [e]
def zE:Ex:= .mk 0 0 [] [] ai []
def jm (k n:Int) (s c:List UInt8) (ty:Ty) (l:Nat):Bool:=decide (l=0)&&decide (k=0)&&decide (n=0)&&decide (s=[])&&decide (c=[])&&Ty.eq ty ai
def jn:Ex->Bool | .mk k n s c ty args=>jm k n s c ty args.length
def np:Ex->Bool | .mk k n s c ty args=>jm k n s c ty 0&&decide (args.length<=16)&&gl args
def nj (e:Ex):Bool:=(decide (e.k=6)||decide (e.k=7)||decide (e.k=8)||decide (e.k=9))&&bD e
def nC (e:Ex):Bool:=(decide (e.k=10)||decide (e.k=11)||decide (e.k=12)||decide (e.k=13))&&bD e
def St.k:St->Int | .mk k _ _ _ _ _ _=>k
def jV (k:Int) (nm:List UInt8) (ty:Ty) (tg ex:Ex) (body alt:List St):St:=
 if k=1 then .mk k nm ty zE ex [] []
 else if k=2 then .mk k [] ai tg ex [] []
 else if k=4 then .mk k [] ai zE ex body alt
 else if k=5\/k=9 then .mk k [] ai zE ex body []
 else if k=8 then .mk k nm ty zE zE body alt
 else if k=10 then .mk k [] ai zE zE body []
 else .mk k [] ai zE ex [] []
def iB (k:Int) (nm:List UInt8) (ty:Ty) (tg ex:Ex) (B:Bool):Bool:=
 if k=1 then du nm&&dD ty.dim ty.base ty.name&&bD ex
 else if k=2 then nj tg&&bD ex
 else if k=3 then nC ex
 else if k=4\/k=5\/k=9 then B&&bD ex
 else if k=6 then jn ex||bD ex
 else if k=7 then bD ex
 else if k=8 then B&&du nm&&dD ty.dim ty.base ty.name
 else if k=10 then B
 else if k=11 then np ex
 else false
mutual
def fv:St->Bool
 | .mk k nm ty tg ex body alt=>iB k nm ty tg ex (decide (body.length<=32)&&b9 false body&&(decide (alt.length<=32)&&b9 false alt))&&dq (.mk k nm ty tg ex body alt) (jV k nm ty tg ex body alt)
def b9:Bool->List St->Bool
 |_,[]=>true
 |sup,e::r=>(!decide (e.k=11)||sup)&&fv e&&b9 false r
end
def eE (sup:Bool) (l:List St):Bool:=decide (l.length<=32)&&b9 sup l
def o9 (sup:Bool) (i:Nat) (e:St):Bool:=(!decide (e.k=11)||(sup&&decide (i=0)))&&fv e
theorem Es:∀{l:List St} {sup:Bool} {i:Nat} (hi:i<l.length),b9 sup (l.take (i+1))=(b9 sup (l.take i)&&o9 sup i l[i])
 |[],_,_,hi=>absurd hi (Nat.not_lt_zero _)
 |e::r,sup,0,_=>by simp [b9,o9]
 |e::r,sup,i+1,hi=>by
  have:=Es (l:=r) (sup:=false) (i:=i) (by simpa using hi);simp only[List.take_succ_cons,b9,this,List.getElem_cons_succ];simp only[o9,Bool.false_and,Nat.add_one_ne_zero,ar,Bool.and_false,Bool.and_assoc]
theorem ED:∀{l:List St} {sup:Bool} {i:Nat} (hi:i<l.length),o9 sup i l[i]=false->b9 sup l=false:=fun{l sup i} hi h=>by
 have h1:=Es (sup:=sup) hi;rw[h,Bool.and_false] at h1;have:∀(l:List St) (sup:Bool) (j:Nat),b9 sup (l.take j)=false->b9 sup l=false:=by
  intro l;induction l with
  |nil=>intro sup j h;simpa using h
  |cons e r ih=>
   intro sup j h;cases j with
   |zero=>simp [b9] at h
   |succ j=>
    simp only[List.take_succ_cons,b9] at h ⊢;cases h2:b9 false (r.take j) with
    |false=>rw[ih false j h2,Bool.and_false]
    |true=>rw[h2,Bool.and_true] at h;rw[h,Bool.false_and]
 exact this l sup (i+1) h1
theorem Of (x:Nd) (m:Mem):aK 234 [.v (.agg ⟨x.cs⟩)] m (.bool (jm x.k x.n x.s x.c x.ty x.l)):=by
 refine enter gY aB Tryz.func234 rfl rfl (by kernel_rfl) rfl ?_ ?_
 ·simp only[go_sem,Nd.cs]
 ·simp only[go_sem,Nd.cs,qG];have e0:decide ((x.l:Int)=0)=decide (x.l=0):=by rw[decide_eq_decide];omega
  rw[e0];rfl
theorem rD {m:Mem} {k n:Int} {s c:List UInt8} {ty:Ty} {args:List Ex} {cs:List Value} (h:bw m (.mk k n s c ty args) cs):∃x:Nd,cs=x.cs/\x.k=k/\x.n=n/\x.s=s/\x.c=c/\x.ty=ty/\x.l=args.length/\x.l<=x.cp/\x.l<=aq/\∃xs,aX m x.a x.l 8 xs/\dz m args xs:=by
 simp only[bw] at h;obtain⟨a,cp,xs,rfl,h1,h2,h3,h4⟩:=h;exact⟨⟨k,n,s,c,ty,a,args.length,cp⟩,rfl,rfl,rfl,rfl,rfl,rfl,rfl,h1,h3.2.2.2.2.2,xs,h2,h4⟩
theorem ab1 (e:Ex) (cs:List Value) (m:Mem) (hg:Glob m) (he:bw m e cs):aK 250 [.v (.agg ⟨cs⟩)] m (.bool (!bD e)):=by
 have hV:=qn _ e cs m (av _) hg he;obtain⟨x,rfl⟩:=mC he;refine enter gY aB Tryz.func250 rfl rfl (by kernel_rfl) rfl ?_ ?_
 ·simp only[go_sem,Nd.cs]
 ·simp only[go_sem,Nd.cs];refine ab ((aP hV (fun V=>rfl)).mono ?_);rintro r H' m2 aH ⟨aY,rfl,rfl⟩;simp only[go_sem];exact aY
theorem XH (e:Ex) (cs:List Value) (m:Mem) (hg:Glob m) (he:bw m e cs):aK 235 [.v (.agg ⟨cs⟩)] m (.bool (np e)):=by
 cases e with
 |mk k n s c ty args=>
  obtain⟨x,rfl,rfl,rfl,rfl,rfl,rfl,hl,ba,hn,xs,hr,eo⟩:=rD he;have hE:=Of ⟨x.k,x.n,x.s,x.c,x.ty,none,0,0⟩ m;have hv:=fun m' (hm:ae m m')=>M5 250 (fun e=> !bD e) args x.a x.l x.cp xs m' hl.symm (ay hm hr) (uH hm eo) hn (by kernel_rfl) (fun i hi cs m2 hle aT=>ab1 _ cs m2 (hg.upM (aa hm hle)) aT)
  refine enter gY aB Tryz.func235 rfl rfl (by kernel_rfl) rfl ?_ ?_
  ·simp only[go_sem,Nd.cs]
  ·simp only[go_sem,Nd.cs];refine ab ((aP hE (fun V=>rfl)).mono ?_);clear hE;rintro r H' m2 aH ⟨aY,rfl,rfl⟩;simp only[go_sem];have e0:np (Ex.mk x.k x.n x.s x.c x.ty args)=(jm x.k x.n x.s x.c x.ty 0&&decide (args.length<=16)&&gl args):=rfl;refine⟨fun h=>ab ((hv m2 aY).mono ?_),fun h=>⟨aY,?_⟩⟩
   ·clear hv;rintro r H' m3 bI ⟨lH,rfl,rfl⟩;simp only[go_sem];refine⟨aa aY lH,?_⟩;rw[e0,h.1,eH (by omega:args.length<=16),HU];rfl
   ·clear hv;rw[e0];rcases h with h |h
    ·rw[h];rfl
    ·rw[dr (by omega:¬args.length<=16),Bool.and_false];rfl
theorem WZ (e:Ex) (cs:List Value) (m:Mem) (hg:Glob m) (he:bw m e cs):aK 232 [.v (.agg ⟨cs⟩)] m (.bool (nj e)):=by
 have hV:=qn _ e cs m (av _) hg he;cases e with
 |mk k n s c ty args=>
  obtain⟨x,rfl,rfl,rfl,rfl,rfl,rfl,hl,ba,hn,xs,hr,eo⟩:=rD he;refine enter gY aB Tryz.func232 rfl rfl (by kernel_rfl) rfl ?_ ?_
  ·simp only[go_sem,Nd.cs]
  ·simp only[go_sem,Nd.cs];refine⟨fun e0=>⟨fun _=>ab ((aP hV (fun V=>rfl)).mono ?_),fun n=>absurd e0 n⟩,fun n0=>⟨fun e1=>⟨fun _=>ab ((aP hV (fun V=>rfl)).mono ?_),fun n=>absurd e1 n⟩,fun n1=>⟨fun e2=>⟨fun _=>ab ((aP hV (fun V=>rfl)).mono ?_),fun n=>absurd e2 n⟩,fun n2=>⟨fun e3=>ab ((aP hV (fun V=>rfl)).mono ?_),fun n3=> ?_⟩⟩⟩⟩
   ·clear hV;rintro r H' m2 aH ⟨aY,rfl,rfl⟩;simp only[go_sem];refine⟨aY,?_⟩;simp [nj,Ex.k,e0]
   ·clear hV;rintro r H' m2 aH ⟨aY,rfl,rfl⟩;simp only[go_sem];refine⟨aY,?_⟩;simp [nj,Ex.k,e1]
   ·clear hV;rintro r H' m2 aH ⟨aY,rfl,rfl⟩;simp only[go_sem];refine⟨aY,?_⟩;simp [nj,Ex.k,e2]
   ·clear hV;rintro r H' m2 aH ⟨aY,rfl,rfl⟩;simp only[go_sem];refine⟨aY,?_⟩;simp [nj,Ex.k,e3]
   ·clear hV;simp [nj,Ex.k,n0,n1,n2,n3]
theorem ZG (e:Ex) (cs:List Value) (m:Mem) (hg:Glob m) (he:bw m e cs):aK 233 [.v (.agg ⟨cs⟩)] m (.bool (nC e)):=by
 have hV:=qn _ e cs m (av _) hg he;cases e with
 |mk k n s c ty args=>
  obtain⟨x,rfl,rfl,rfl,rfl,rfl,rfl,hl,ba,hn,xs,hr,eo⟩:=rD he;refine enter gY aB Tryz.func233 rfl rfl (by kernel_rfl) rfl ?_ ?_
  ·simp only[go_sem,Nd.cs]
  ·simp only[go_sem,Nd.cs];refine⟨fun e0=>⟨fun _=>ab ((aP hV (fun V=>rfl)).mono ?_),fun n=>absurd e0 n⟩,fun n0=>⟨fun e1=>⟨fun _=>ab ((aP hV (fun V=>rfl)).mono ?_),fun n=>absurd e1 n⟩,fun n1=>⟨fun e2=>⟨fun _=>ab ((aP hV (fun V=>rfl)).mono ?_),fun n=>absurd e2 n⟩,fun n2=>⟨fun e3=>ab ((aP hV (fun V=>rfl)).mono ?_),fun n3=> ?_⟩⟩⟩⟩
   ·clear hV;rintro r H' m2 aH ⟨aY,rfl,rfl⟩;simp only[go_sem];refine⟨aY,?_⟩;simp [nC,Ex.k,e0]
   ·clear hV;rintro r H' m2 aH ⟨aY,rfl,rfl⟩;simp only[go_sem];refine⟨aY,?_⟩;simp [nC,Ex.k,e1]
   ·clear hV;rintro r H' m2 aH ⟨aY,rfl,rfl⟩;simp only[go_sem];refine⟨aY,?_⟩;simp [nC,Ex.k,e2]
   ·clear hV;rintro r H' m2 aH ⟨aY,rfl,rfl⟩;simp only[go_sem];refine⟨aY,?_⟩;simp [nC,Ex.k,e3]
   ·clear hV;simp [nC,Ex.k,n0,n1,n2,n3]
theorem rB {m:Mem} {k:Int} {nm:List UInt8} {ty:Ty} {tg ex:Ex} {body alt:List St} {cs:List Value} (h:eX m (.mk k nm ty tg ex body alt) cs):
  ∃x:Sd,cs=x.cs/\x.k=k/\x.name=nm/\x.ty=ty/\bw m tg x.tg.cs/\bw m ex x.ex.cs/\x.l=body.length/\x.l<=x.cp/\x.l2=alt.length/\x.l2<=x.cp2/\StOk k nm ty body.length alt.length/\∃xs ys,aX m x.a x.l 23 xs/\aX m x.b x.l2 23 ys/\bS m body xs/\bS m alt ys:=by
 simp only[eX] at h;obtain⟨x,⟨h1,h2,h3,h4⟩,h5,h6,⟨h7,h8,h9,HG⟩,uy,xs,ys,h12,Wb,h14,h15⟩:=h;exact⟨x,h1,h2,h3,h4,h5,h6,h7,h8,h9,HG,uy,xs,ys,h12,Wb,h14,h15⟩
theorem Ix (sup:Bool) (l:List St) (a:Option Addr) (n c:Nat) (xs:List Value) (m:Mem) (hl:n=l.length) (hr:aX m a n 23 xs) (hs:bS m l xs) (hn:n<=aq)
  (hV:∀e∈l,∀cs m',ae m m' ->eX m' e cs->aK 201 [.v (.agg ⟨cs⟩)] m' (.bool (fv e))):
  aK 142 [.v (.slice a n c),.v (.bool sup)] m (.bool (decide (l.length<=32)&&b9 sup l)):=by
 refine aR aB Tryz.func142 ?_
 ·simp only[go_sem];refine⟨fun h=> ?_,fun h=> ?_⟩
  ·rw[dr (by clear hV;omega)];rfl
  ·have hE:(decide (l.length<=32)&&b9 sup l)=b9 sup l:=by rw[eH (by clear hV;omega)];rfl
   rw[hE];clear hE;refine dA aB (fun x:Nat×Mem=>⟨[⟨1,[],.v (.bool sup)⟩,⟨10,[],.v (.slice a n c)⟩,⟨11,[],.v (.int .i64 n)⟩,⟨12,[],.v (.int .i64 x.1)⟩],[],[],[],0,x.2⟩)
    (fun x=>ae m x.2/\x.1<=n/\b9 sup (l.take x.1)=true) (fun x=>n - x.1) (0,m) (fun _ _=>av _) (fun x hx=>hx.1) ?_ ?_ ?_
   ·simp only[go_sem];rfl
   ·exact⟨.inl rfl,aD _,by simp [b9]⟩
   ·rintro⟨k,mm⟩ ⟨h1,h2,h3⟩;simp only at h1 h2 h3;have hy:∀(hk:k<l.length),∃X:Sd,(Rd mm (cO a (k * 23)) X.cs/\a≠none)/\X.k=l[k].k/\aK 201 [.v (.agg ⟨X.cs⟩)] mm (.bool (fv l[k])):=fun hk=>by
     have aT:=td h1 (qw hs hk);have Mr:∃X:Sd,(xs.drop (k * 23)).take 23=X.cs/\X.k=l[k].k:=by
      cases lO:l[k] with
      |mk k' nm ty tg ex body alt=>
       rw[lO] at aT;obtain⟨X,e1,e2,_⟩:=rB aT;exact⟨X,e1,e2⟩
     obtain⟨X,e1,e2⟩:=Mr;have r1:=dH (ay h1 hr) (by omega:k<n);rw[e1] at r1 aT;exact⟨X,r1,e2,hV _ (List.getElem_mem hk) _ _ h1 aT⟩
    clear hV;simp only[go_sem];refine⟨fun aw=> ?_,fun cg=>⟨h1,?_⟩⟩
    ·have hk:k<l.length:=by clear hy;omega
     refine Exists.elim (hy hk) fun X bt=>⟨⟨by clear hy bt;omega,aw,bt.1.2⟩,X.cs,⟨bt.1.1,rfl⟩,?_⟩
     clear hy;have iR:=bt.2.1;have ha:=bt.2.2;clear bt;simp only[go_sem,Sd.cs,Nd.cs];refine⟨fun hc=>ab ((aP ha (fun V=>rfl)).mono ?_),fun hc=>⟨h1,?_⟩⟩
     ·clear ha;have hb:o9 sup k l[k]=fv l[k]:=by
       rw[iR] at hc;rcases hc with hc |hc
       ·simp [o9,hc]
       ·have:k=0:=by omega
        simp [o9,hc.1,this]
      rintro r H' m2 aH ⟨aY,rfl,rfl⟩;simp only[go_sem];refine⟨fun hv=>⟨aa h1 aY,?_⟩,fun hv=>⟨by unfold aF;simp only[aq] at hn;omega,(k+1,m2),⟨by simp,.inl rfl⟩,⟨aa h1 aY,by simp only;omega,?_⟩,by simp only;omega⟩⟩
      ·rw[ED hk (by rw[hb];exact hv)]
      ·simp only;rw[Es hk,h3,hb,hv];rfl
     ·clear ha;rw[iR] at hc;rw[ED hk];rcases hc.2 with h0 |h0
      ·simp [o9,hc.1,h0]
      ·have:¬k=0:=by omega
       simp [o9,hc.1,this]
    ·have:k=n:=by clear hy;omega
     rw[fj (by clear hy;omega)] at h3;rw[h3]
def bj:Nd:=⟨0,0,[],[],ai,none,0,0⟩
theorem lT {m:Mem} {sz:Nat}:aX m none 0 sz []:=⟨by simp,fun h=>absurd h (Nat.lt_irrefl _)⟩
theorem tK:ov ai:=⟨by unfold aF;decide,by decide,by decide⟩
theorem iH {m:Mem}:bw m zE bj.cs:=by
 simp only[zE,bw];exact⟨none,0,[],rfl,av _,lT,⟨by unfold aF;decide,by unfold aF;decide,by decide,by decide,tK,by decide⟩,by simp only[dz]⟩
theorem jW {m:Mem} (U:Sd) {tg ex:Ex} {body alt:List St} {xs ys:List Value} (dn:bw m tg U.tg.cs) (hex:bw m ex U.ex.cs) (hl:U.l=body.length) (ba:U.l<=U.cp) (ct:U.l2=alt.length) (eb:U.l2<=U.cp2) (au:StOk U.k U.name U.ty body.length alt.length)
  (r1:aX m U.a U.l 23 xs) (r2:aX m U.b U.l2 23 ys) (s1:bS m body xs) (s2:bS m alt ys):eX m (.mk U.k U.name U.ty tg ex body alt) U.cs:=by
 simp only[eX];exact⟨U,⟨rfl,rfl,rfl,rfl⟩,dn,hex,⟨hl,ba,ct,eb⟩,au,xs,ys,r1,r2,s1,s2⟩
theorem Ar {x y:Nd} (h:x.cs=y.cs):x=y:=by
 obtain⟨k,n,s,c,⟨d,b,nm⟩,a,l,cp⟩:=x;obtain⟨k',n',s',c',⟨d',b',fP⟩,a',l',cp'⟩:=y;simp only[Nd.cs,List.cons.injEq,Value.int.injEq,Value.string.injEq,Value.slice.injEq,and_true,true_and] at h;obtain⟨h1,h2,h3,h4,h5,h6,h7,h8,h9,HG⟩:=h;rw[h1,h2,Au h3,Au h4,h5,h6,Au h7,h8,h9,HG]
theorem abI {m:Mem} {e:Ex} {x:Nd} (h:bw m e x.cs) (m' :Mem):aK 234 [.v (.agg ⟨x.cs⟩)] m' (.bool (jn e)):=by
 cases e with
 |mk k n s c ty args=>
  obtain⟨y,hy,h1,h2,h3,h4,h5,h6,_⟩:=rD h;have:=Of x m';rw[Ar hy] at this ⊢;rw[h1,h2,h3,h4,h5,h6] at this;exact this
theorem nS {m:Mem}:bS m [] []:=by simp only[bS]
theorem aiU (nm:List UInt8) (ty:Ty) (tN eN:Nd) (a:Option Addr) (l cp:Nat) (b:Option Addr) (l2 cp2:Nat) (tg ex:Ex) (body alt:List St) (xs ys:List Value) (m:Mem) (hg:Glob m)
  (dn:bw m tg tN.cs) (hex:bw m ex eN.cs) (hl:l=body.length) (ba:l<=cp) (ct:l2=alt.length) (eb:l2<=cp2) (au:StOk 1 nm ty body.length alt.length) (r1:aX m a l 23 xs) (r2:aX m b l2 23 ys) (s1:bS m body xs) (s2:bS m alt ys) (B1 B2 B V:Bool)
  (hB:∀m',ae m m' ->aK 142 [.v (.slice a l cp),.v (.bool false)] m' (.bool B1)) (hA:∀m',ae m m' ->aK 142 [.v (.slice b l2 cp2),.v (.bool false)] m' (.bool B2)) (iF:B=(B1&&B2))
  (e0:V=((du nm&&dD ty.dim ty.base ty.name&&bD ex)&&dq (St.mk 1 nm ty tg ex body alt) (St.mk 1 nm ty zE ex [] []))):aK 201 [.v (.agg ⟨Sd.cs ⟨1,nm,ty,tN,eN,a,l,cp,b,l2,cp2⟩⟩)] m (.bool V):=by
 have hQ:∀m',ae m m' ->aK 236 [.v (.agg ⟨Sd.cs ⟨1,nm,ty,tN,eN,a,l,cp,b,l2,cp2⟩⟩),.v (.agg ⟨Sd.cs ⟨1,nm,ty,bj,eN,none,0,0,none,0,0⟩⟩)] m' (.bool (dq (St.mk 1 nm ty tg ex body alt) (St.mk 1 nm ty zE ex [] []))):=fun m' hle=>
  pD _ _ _ _ _ m' (av _) (jW (m:=m') (⟨1,nm,ty,tN,eN,a,l,cp,b,l2,cp2⟩:Sd) (bq hle dn) (bq hle hex) hl ba ct eb au (ay hle r1) (ay hle r2) (dw hle s1) (dw hle s2))
   (jW (m:=m') (⟨1,nm,ty,bj,eN,none,0,0,none,0,0⟩:Sd) iH (bq hle hex) rfl (av _) rfl (av _) ⟨au.k,au.nm,au.ty,aD _,aD _⟩ lT lT nS nS)
 have GX:BL nm:=cX au.nm (by decide);have GW:BL ty.name:=cX au.ty.2.2 (by decide);have hX:=fun m' (hle:ae m m')=>qn _ ex eN.cs m' (av _) (hg.upM hle) (bq hle hex)
 clear s1 s2 r1 r2;refine enter qk qc Tryz.func201 rfl rfl (by kernel_rfl) rfl ?_ ?_
 ·simp only[go_sem,Sd.cs,Nd.cs,bj,ai,Int.reduceEq,ao,ar]
 ·simp only[go_sem,Sd.cs,Nd.cs,bj,ai,Int.reduceEq,ao,ar];refine ab ((hB m (.inl rfl)).mono ?_);clear hB;rintro r H' m1 aN ⟨l1,rfl,rfl⟩;simp only[go_sem,Sd.cs,Nd.cs,bj,ai,Int.reduceEq,ao,ar];refine⟨fun b1=>ab ((hA m1 l1).mono ?_),fun b1=> ?_⟩
  ·clear hA;rintro r H' m2 aH ⟨dV,rfl,rfl⟩;have cZ:=aa l1 dV;simp only[go_sem,Sd.cs,Nd.cs,bj,ai,Int.reduceEq,ao,ar];refine⟨GX,fun _=>GW,fun c=> ?_,fun c=> ?_⟩
   ·refine ab ((aP (hX m2 cZ) (fun V=>rfl)).mono ?_);clear hX;rintro r H' w1 ug ⟨eG,rfl,rfl⟩;simp only[go_sem,Sd.cs,Nd.cs,bj,ai,Int.reduceEq,ao,ar];refine⟨fun c1=> ?_,fun c1=> ?_⟩
    ·refine ab ((aP (hQ w1 (aa cZ eG)) (fun V=>rfl)).mono ?_);clear hQ;rintro r H' w2 ue ⟨kO,rfl,rfl⟩;simp only[go_sem,Sd.cs,Nd.cs,bj,ai,Int.reduceEq,ao,ar];refine⟨aa (aa cZ eG) kO,?_⟩;rw[e0,c.1,c.2,c1];rfl
    ·refine⟨(aa cZ eG),?_⟩;rw[e0,c.1,c.2,c1];rfl
   ·refine⟨cZ,?_⟩;rw[e0];rcases c with c |c<;>simp [c]
  ·clear hA;refine⟨GX,fun _=>GW,fun c=> ?_,fun c=> ?_⟩
   ·refine ab ((aP (hX m1 l1) (fun V=>rfl)).mono ?_);clear hX;rintro r H' w3 nb ⟨lJ,rfl,rfl⟩;simp only[go_sem,Sd.cs,Nd.cs,bj,ai,Int.reduceEq,ao,ar];refine⟨fun c3=> ?_,fun c3=> ?_⟩
    ·refine ab ((aP (hQ w3 (aa l1 lJ)) (fun V=>rfl)).mono ?_);clear hQ;rintro r H' w4 kv ⟨oz,rfl,rfl⟩;simp only[go_sem,Sd.cs,Nd.cs,bj,ai,Int.reduceEq,ao,ar];refine⟨aa (aa l1 lJ) oz,?_⟩;rw[e0,c.1,c.2,c3];rfl
    ·refine⟨(aa l1 lJ),?_⟩;rw[e0,c.1,c.2,c3];rfl
   ·refine⟨l1,?_⟩;rw[e0];rcases c with c |c<;>simp [c]
theorem aiT (nm:List UInt8) (ty:Ty) (tN eN:Nd) (a:Option Addr) (l cp:Nat) (b:Option Addr) (l2 cp2:Nat) (tg ex:Ex) (body alt:List St) (xs ys:List Value) (m:Mem) (hg:Glob m)
  (dn:bw m tg tN.cs) (hex:bw m ex eN.cs) (hl:l=body.length) (ba:l<=cp) (ct:l2=alt.length) (eb:l2<=cp2) (au:StOk 2 nm ty body.length alt.length) (r1:aX m a l 23 xs) (r2:aX m b l2 23 ys) (s1:bS m body xs) (s2:bS m alt ys) (B1 B2 B V:Bool)
  (hB:∀m',ae m m' ->aK 142 [.v (.slice a l cp),.v (.bool false)] m' (.bool B1)) (hA:∀m',ae m m' ->aK 142 [.v (.slice b l2 cp2),.v (.bool false)] m' (.bool B2)) (iF:B=(B1&&B2))
  (e0:V=((nj tg&&bD ex)&&dq (St.mk 2 nm ty tg ex body alt) (St.mk 2 [] ai tg ex [] []))):aK 201 [.v (.agg ⟨Sd.cs ⟨2,nm,ty,tN,eN,a,l,cp,b,l2,cp2⟩⟩)] m (.bool V):=by
 have hQ:∀m',ae m m' ->aK 236 [.v (.agg ⟨Sd.cs ⟨2,nm,ty,tN,eN,a,l,cp,b,l2,cp2⟩⟩),.v (.agg ⟨Sd.cs ⟨2,[],ai,tN,eN,none,0,0,none,0,0⟩⟩)] m' (.bool (dq (St.mk 2 nm ty tg ex body alt) (St.mk 2 [] ai tg ex [] []))):=fun m' hle=>
  pD _ _ _ _ _ m' (av _) (jW (m:=m') (⟨2,nm,ty,tN,eN,a,l,cp,b,l2,cp2⟩:Sd) (bq hle dn) (bq hle hex) hl ba ct eb au (ay hle r1) (ay hle r2) (dw hle s1) (dw hle s2))
   (jW (m:=m') (⟨2,[],ai,tN,eN,none,0,0,none,0,0⟩:Sd) (bq hle dn) (bq hle hex) rfl (av _) rfl (av _) ⟨au.k,aD _,tK,aD _,aD _⟩ lT lT nS nS)
 have hX:=fun m' (hle:ae m m')=>qn _ ex eN.cs m' (av _) (hg.upM hle) (bq hle hex)
 have hT:=fun m' (hle:ae m m')=>WZ tg tN.cs m' (hg.upM hle) (bq hle dn)
 clear s1 s2 r1 r2;refine enter qk qc Tryz.func201 rfl rfl (by kernel_rfl) rfl ?_ ?_
 ·simp only[go_sem,Sd.cs,Nd.cs,bj,ai,Int.reduceEq,ao,ar]
 ·simp only[go_sem,Sd.cs,Nd.cs,bj,ai,Int.reduceEq,ao,ar];refine ab ((hB m (.inl rfl)).mono ?_);clear hB;rintro r H' m1 aN ⟨l1,rfl,rfl⟩;simp only[go_sem,Sd.cs,Nd.cs,bj,ai,Int.reduceEq,ao,ar];refine⟨fun b1=>ab ((hA m1 l1).mono ?_),fun b1=> ?_⟩
  ·clear hA;rintro r H' m2 aH ⟨dV,rfl,rfl⟩;have cZ:=aa l1 dV;simp only[go_sem,Sd.cs,Nd.cs,bj,ai,Int.reduceEq,ao,ar];refine ab ((aP (hT m2 cZ) (fun V=>rfl)).mono ?_);clear hT;rintro r H' w1 ug ⟨eG,rfl,rfl⟩;simp only[go_sem,Sd.cs,Nd.cs,bj,ai,Int.reduceEq,ao,ar];refine⟨fun c=> ?_,fun c=> ?_⟩
   ·refine ab ((aP (hX w1 (aa cZ eG)) (fun V=>rfl)).mono ?_);clear hX;rintro r H' w2 ue ⟨kO,rfl,rfl⟩;simp only[go_sem,Sd.cs,Nd.cs,bj,ai,Int.reduceEq,ao,ar];refine⟨fun c2=> ?_,fun c2=> ?_⟩
    ·refine ab ((aP (hQ w2 (aa (aa cZ eG) kO)) (fun V=>rfl)).mono ?_);clear hQ;rintro r H' w3 nb ⟨lJ,rfl,rfl⟩;simp only[go_sem,Sd.cs,Nd.cs,bj,ai,Int.reduceEq,ao,ar];refine⟨aa (aa (aa cZ eG) kO) lJ,?_⟩;rw[e0,c,c2];rfl
    ·refine⟨(aa (aa cZ eG) kO),?_⟩;rw[e0,c,c2];rfl
   ·refine⟨(aa cZ eG),?_⟩;rw[e0,c];rfl
  ·clear hA;refine ab ((aP (hT m1 l1) (fun V=>rfl)).mono ?_);clear hT;rintro r H' w4 kv ⟨oz,rfl,rfl⟩;simp only[go_sem,Sd.cs,Nd.cs,bj,ai,Int.reduceEq,ao,ar];refine⟨fun c=> ?_,fun c=> ?_⟩
   ·refine ab ((aP (hX w4 (aa l1 oz)) (fun V=>rfl)).mono ?_);clear hX;rintro r H' w5 sO ⟨ub,rfl,rfl⟩;simp only[go_sem,Sd.cs,Nd.cs,bj,ai,Int.reduceEq,ao,ar];refine⟨fun c5=> ?_,fun c5=> ?_⟩
    ·refine ab ((aP (hQ w5 (aa (aa l1 oz) ub)) (fun V=>rfl)).mono ?_);clear hQ;rintro r H' w6 qT ⟨DO,rfl,rfl⟩;simp only[go_sem,Sd.cs,Nd.cs,bj,ai,Int.reduceEq,ao,ar];refine⟨aa (aa (aa l1 oz) ub) DO,?_⟩;rw[e0,c,c5];rfl
    ·refine⟨(aa (aa l1 oz) ub),?_⟩;rw[e0,c,c5];rfl
   ·refine⟨(aa l1 oz),?_⟩;rw[e0,c];rfl
theorem aiS (nm:List UInt8) (ty:Ty) (tN eN:Nd) (a:Option Addr) (l cp:Nat) (b:Option Addr) (l2 cp2:Nat) (tg ex:Ex) (body alt:List St) (xs ys:List Value) (m:Mem) (hg:Glob m)
  (dn:bw m tg tN.cs) (hex:bw m ex eN.cs) (hl:l=body.length) (ba:l<=cp) (ct:l2=alt.length) (eb:l2<=cp2) (au:StOk 3 nm ty body.length alt.length) (r1:aX m a l 23 xs) (r2:aX m b l2 23 ys) (s1:bS m body xs) (s2:bS m alt ys) (B1 B2 B V:Bool)
  (hB:∀m',ae m m' ->aK 142 [.v (.slice a l cp),.v (.bool false)] m' (.bool B1)) (hA:∀m',ae m m' ->aK 142 [.v (.slice b l2 cp2),.v (.bool false)] m' (.bool B2)) (iF:B=(B1&&B2))
  (e0:V=(nC ex&&dq (St.mk 3 nm ty tg ex body alt) (St.mk 3 [] ai zE ex [] []))):aK 201 [.v (.agg ⟨Sd.cs ⟨3,nm,ty,tN,eN,a,l,cp,b,l2,cp2⟩⟩)] m (.bool V):=by
 have hQ:∀m',ae m m' ->aK 236 [.v (.agg ⟨Sd.cs ⟨3,nm,ty,tN,eN,a,l,cp,b,l2,cp2⟩⟩),.v (.agg ⟨Sd.cs ⟨3,[],ai,bj,eN,none,0,0,none,0,0⟩⟩)] m' (.bool (dq (St.mk 3 nm ty tg ex body alt) (St.mk 3 [] ai zE ex [] []))):=fun m' hle=>
  pD _ _ _ _ _ m' (av _) (jW (m:=m') (⟨3,nm,ty,tN,eN,a,l,cp,b,l2,cp2⟩:Sd) (bq hle dn) (bq hle hex) hl ba ct eb au (ay hle r1) (ay hle r2) (dw hle s1) (dw hle s2))
   (jW (m:=m') (⟨3,[],ai,bj,eN,none,0,0,none,0,0⟩:Sd) iH (bq hle hex) rfl (av _) rfl (av _) ⟨au.k,aD _,tK,aD _,aD _⟩ lT lT nS nS)
 have hX:=fun m' (hle:ae m m')=>ZG ex eN.cs m' (hg.upM hle) (bq hle hex)
 clear s1 s2 r1 r2;refine enter qk qc Tryz.func201 rfl rfl (by kernel_rfl) rfl ?_ ?_
 ·simp only[go_sem,Sd.cs,Nd.cs,bj,ai,Int.reduceEq,ao,ar]
 ·simp only[go_sem,Sd.cs,Nd.cs,bj,ai,Int.reduceEq,ao,ar];refine ab ((hB m (.inl rfl)).mono ?_);clear hB;rintro r H' m1 aN ⟨l1,rfl,rfl⟩;simp only[go_sem,Sd.cs,Nd.cs,bj,ai,Int.reduceEq,ao,ar];refine⟨fun b1=>ab ((hA m1 l1).mono ?_),fun b1=> ?_⟩
  ·clear hA;rintro r H' m2 aH ⟨dV,rfl,rfl⟩;have cZ:=aa l1 dV;simp only[go_sem,Sd.cs,Nd.cs,bj,ai,Int.reduceEq,ao,ar];refine ab ((aP (hX m2 cZ) (fun V=>rfl)).mono ?_);clear hX;rintro r H' w1 ug ⟨eG,rfl,rfl⟩;simp only[go_sem,Sd.cs,Nd.cs,bj,ai,Int.reduceEq,ao,ar];refine⟨fun c1=> ?_,fun c1=> ?_⟩
   ·refine ab ((aP (hQ w1 (aa cZ eG)) (fun V=>rfl)).mono ?_);clear hQ;rintro r H' w2 ue ⟨kO,rfl,rfl⟩;simp only[go_sem,Sd.cs,Nd.cs,bj,ai,Int.reduceEq,ao,ar];refine⟨aa (aa cZ eG) kO,?_⟩;rw[e0,c1];rfl
   ·refine⟨(aa cZ eG),?_⟩;rw[e0,c1];rfl
  ·clear hA;refine ab ((aP (hX m1 l1) (fun V=>rfl)).mono ?_);clear hX;rintro r H' w3 nb ⟨lJ,rfl,rfl⟩;simp only[go_sem,Sd.cs,Nd.cs,bj,ai,Int.reduceEq,ao,ar];refine⟨fun c3=> ?_,fun c3=> ?_⟩
   ·refine ab ((aP (hQ w3 (aa l1 lJ)) (fun V=>rfl)).mono ?_);clear hQ;rintro r H' w4 kv ⟨oz,rfl,rfl⟩;simp only[go_sem,Sd.cs,Nd.cs,bj,ai,Int.reduceEq,ao,ar];refine⟨aa (aa l1 lJ) oz,?_⟩;rw[e0,c3];rfl
   ·refine⟨(aa l1 lJ),?_⟩;rw[e0,c3];rfl
theorem aiR (nm:List UInt8) (ty:Ty) (tN eN:Nd) (a:Option Addr) (l cp:Nat) (b:Option Addr) (l2 cp2:Nat) (tg ex:Ex) (body alt:List St) (xs ys:List Value) (m:Mem) (hg:Glob m)
  (dn:bw m tg tN.cs) (hex:bw m ex eN.cs) (hl:l=body.length) (ba:l<=cp) (ct:l2=alt.length) (eb:l2<=cp2) (au:StOk 4 nm ty body.length alt.length) (r1:aX m a l 23 xs) (r2:aX m b l2 23 ys) (s1:bS m body xs) (s2:bS m alt ys) (B1 B2 B V:Bool)
  (hB:∀m',ae m m' ->aK 142 [.v (.slice a l cp),.v (.bool false)] m' (.bool B1)) (hA:∀m',ae m m' ->aK 142 [.v (.slice b l2 cp2),.v (.bool false)] m' (.bool B2)) (iF:B=(B1&&B2))
  (e0:V=((B&&bD ex)&&dq (St.mk 4 nm ty tg ex body alt) (St.mk 4 [] ai zE ex body alt))):aK 201 [.v (.agg ⟨Sd.cs ⟨4,nm,ty,tN,eN,a,l,cp,b,l2,cp2⟩⟩)] m (.bool V):=by
 have hQ:∀m',ae m m' ->aK 236 [.v (.agg ⟨Sd.cs ⟨4,nm,ty,tN,eN,a,l,cp,b,l2,cp2⟩⟩),.v (.agg ⟨Sd.cs ⟨4,[],ai,bj,eN,a,l,cp,b,l2,cp2⟩⟩)] m' (.bool (dq (St.mk 4 nm ty tg ex body alt) (St.mk 4 [] ai zE ex body alt))):=fun m' hle=>
  pD _ _ _ _ _ m' (av _) (jW (m:=m') (⟨4,nm,ty,tN,eN,a,l,cp,b,l2,cp2⟩:Sd) (bq hle dn) (bq hle hex) hl ba ct eb au (ay hle r1) (ay hle r2) (dw hle s1) (dw hle s2))
   (jW (m:=m') (⟨4,[],ai,bj,eN,a,l,cp,b,l2,cp2⟩:Sd) iH (bq hle hex) hl ba ct eb ⟨au.k,aD _,tK,au.l,au.l2⟩ (ay hle r1) (ay hle r2) (dw hle s1) (dw hle s2))
 have hX:=fun m' (hle:ae m m')=>qn _ ex eN.cs m' (av _) (hg.upM hle) (bq hle hex)
 clear s1 s2 r1 r2;refine enter qk qc Tryz.func201 rfl rfl (by kernel_rfl) rfl ?_ ?_
 ·simp only[go_sem,Sd.cs,Nd.cs,bj,ai,Int.reduceEq,ao,ar]
 ·simp only[go_sem,Sd.cs,Nd.cs,bj,ai,Int.reduceEq,ao,ar];refine ab ((hB m (.inl rfl)).mono ?_);clear hB;rintro r H' m1 aN ⟨l1,rfl,rfl⟩;simp only[go_sem,Sd.cs,Nd.cs,bj,ai,Int.reduceEq,ao,ar];refine⟨fun b1=>ab ((hA m1 l1).mono ?_),fun b1=> ?_⟩
  ·clear hA;rintro r H' m2 aH ⟨dV,rfl,rfl⟩;have cZ:=aa l1 dV;simp only[go_sem,Sd.cs,Nd.cs,bj,ai,Int.reduceEq,ao,ar];refine⟨fun b2=> ?_,fun b2=> ?_⟩
   ·refine ab ((aP (hX m2 cZ) (fun V=>rfl)).mono ?_);clear hX;rintro r H' w1 ug ⟨eG,rfl,rfl⟩;simp only[go_sem,Sd.cs,Nd.cs,bj,ai,Int.reduceEq,ao,ar];refine⟨fun c1=> ?_,fun c1=> ?_⟩
    ·refine ab ((aP (hQ w1 (aa cZ eG)) (fun V=>rfl)).mono ?_);clear hQ;rintro r H' w2 ue ⟨kO,rfl,rfl⟩;simp only[go_sem,Sd.cs,Nd.cs,bj,ai,Int.reduceEq,ao,ar];refine⟨aa (aa cZ eG) kO,?_⟩;rw[e0,iF,b1,b2,c1];rfl
    ·refine⟨(aa cZ eG),?_⟩;rw[e0,iF,b1,b2,c1];rfl
   ·refine⟨cZ,?_⟩;rw[e0,iF,b1,b2];rfl
  ·clear hA;refine⟨l1,?_⟩;rw[e0,iF,b1];rfl
theorem aiQ (nm:List UInt8) (ty:Ty) (tN eN:Nd) (a:Option Addr) (l cp:Nat) (b:Option Addr) (l2 cp2:Nat) (tg ex:Ex) (body alt:List St) (xs ys:List Value) (m:Mem) (hg:Glob m)
  (dn:bw m tg tN.cs) (hex:bw m ex eN.cs) (hl:l=body.length) (ba:l<=cp) (ct:l2=alt.length) (eb:l2<=cp2) (au:StOk 5 nm ty body.length alt.length) (r1:aX m a l 23 xs) (r2:aX m b l2 23 ys) (s1:bS m body xs) (s2:bS m alt ys) (B1 B2 B V:Bool)
  (hB:∀m',ae m m' ->aK 142 [.v (.slice a l cp),.v (.bool false)] m' (.bool B1)) (hA:∀m',ae m m' ->aK 142 [.v (.slice b l2 cp2),.v (.bool false)] m' (.bool B2)) (iF:B=(B1&&B2))
  (e0:V=((B&&bD ex)&&dq (St.mk 5 nm ty tg ex body alt) (St.mk 5 [] ai zE ex body []))):aK 201 [.v (.agg ⟨Sd.cs ⟨5,nm,ty,tN,eN,a,l,cp,b,l2,cp2⟩⟩)] m (.bool V):=by
 have hQ:∀m',ae m m' ->aK 236 [.v (.agg ⟨Sd.cs ⟨5,nm,ty,tN,eN,a,l,cp,b,l2,cp2⟩⟩),.v (.agg ⟨Sd.cs ⟨5,[],ai,bj,eN,a,l,cp,none,0,0⟩⟩)] m' (.bool (dq (St.mk 5 nm ty tg ex body alt) (St.mk 5 [] ai zE ex body []))):=fun m' hle=>
  pD _ _ _ _ _ m' (av _) (jW (m:=m') (⟨5,nm,ty,tN,eN,a,l,cp,b,l2,cp2⟩:Sd) (bq hle dn) (bq hle hex) hl ba ct eb au (ay hle r1) (ay hle r2) (dw hle s1) (dw hle s2))
   (jW (m:=m') (⟨5,[],ai,bj,eN,a,l,cp,none,0,0⟩:Sd) iH (bq hle hex) hl ba rfl (av _) ⟨au.k,aD _,tK,au.l,aD _⟩ (ay hle r1) lT (dw hle s1) nS)
 have hX:=fun m' (hle:ae m m')=>qn _ ex eN.cs m' (av _) (hg.upM hle) (bq hle hex)
 clear s1 s2 r1 r2;refine enter qk qc Tryz.func201 rfl rfl (by kernel_rfl) rfl ?_ ?_
 ·simp only[go_sem,Sd.cs,Nd.cs,bj,ai,Int.reduceEq,ao,ar]
 ·simp only[go_sem,Sd.cs,Nd.cs,bj,ai,Int.reduceEq,ao,ar];refine ab ((hB m (.inl rfl)).mono ?_);clear hB;rintro r H' m1 aN ⟨l1,rfl,rfl⟩;simp only[go_sem,Sd.cs,Nd.cs,bj,ai,Int.reduceEq,ao,ar];refine⟨fun b1=>ab ((hA m1 l1).mono ?_),fun b1=> ?_⟩
  ·clear hA;rintro r H' m2 aH ⟨dV,rfl,rfl⟩;have cZ:=aa l1 dV;simp only[go_sem,Sd.cs,Nd.cs,bj,ai,Int.reduceEq,ao,ar];refine⟨fun b2=> ?_,fun b2=> ?_⟩
   ·refine ab ((aP (hX m2 cZ) (fun V=>rfl)).mono ?_);clear hX;rintro r H' w1 ug ⟨eG,rfl,rfl⟩;simp only[go_sem,Sd.cs,Nd.cs,bj,ai,Int.reduceEq,ao,ar];refine⟨fun c1=> ?_,fun c1=> ?_⟩
    ·refine ab ((aP (hQ w1 (aa cZ eG)) (fun V=>rfl)).mono ?_);clear hQ;rintro r H' w2 ue ⟨kO,rfl,rfl⟩;simp only[go_sem,Sd.cs,Nd.cs,bj,ai,Int.reduceEq,ao,ar];refine⟨aa (aa cZ eG) kO,?_⟩;rw[e0,iF,b1,b2,c1];rfl
    ·refine⟨(aa cZ eG),?_⟩;rw[e0,iF,b1,b2,c1];rfl
   ·refine⟨cZ,?_⟩;rw[e0,iF,b1,b2];rfl
  ·clear hA;refine⟨l1,?_⟩;rw[e0,iF,b1];rfl
theorem aiP (nm:List UInt8) (ty:Ty) (tN eN:Nd) (a:Option Addr) (l cp:Nat) (b:Option Addr) (l2 cp2:Nat) (tg ex:Ex) (body alt:List St) (xs ys:List Value) (m:Mem) (hg:Glob m)
  (dn:bw m tg tN.cs) (hex:bw m ex eN.cs) (hl:l=body.length) (ba:l<=cp) (ct:l2=alt.length) (eb:l2<=cp2) (au:StOk 6 nm ty body.length alt.length) (r1:aX m a l 23 xs) (r2:aX m b l2 23 ys) (s1:bS m body xs) (s2:bS m alt ys) (B1 B2 B V:Bool)
  (hB:∀m',ae m m' ->aK 142 [.v (.slice a l cp),.v (.bool false)] m' (.bool B1)) (hA:∀m',ae m m' ->aK 142 [.v (.slice b l2 cp2),.v (.bool false)] m' (.bool B2)) (iF:B=(B1&&B2))
  (e0:V=((jn ex||bD ex)&&dq (St.mk 6 nm ty tg ex body alt) (St.mk 6 [] ai zE ex [] []))):aK 201 [.v (.agg ⟨Sd.cs ⟨6,nm,ty,tN,eN,a,l,cp,b,l2,cp2⟩⟩)] m (.bool V):=by
 have hQ:∀m',ae m m' ->aK 236 [.v (.agg ⟨Sd.cs ⟨6,nm,ty,tN,eN,a,l,cp,b,l2,cp2⟩⟩),.v (.agg ⟨Sd.cs ⟨6,[],ai,bj,eN,none,0,0,none,0,0⟩⟩)] m' (.bool (dq (St.mk 6 nm ty tg ex body alt) (St.mk 6 [] ai zE ex [] []))):=fun m' hle=>
  pD _ _ _ _ _ m' (av _) (jW (m:=m') (⟨6,nm,ty,tN,eN,a,l,cp,b,l2,cp2⟩:Sd) (bq hle dn) (bq hle hex) hl ba ct eb au (ay hle r1) (ay hle r2) (dw hle s1) (dw hle s2))
   (jW (m:=m') (⟨6,[],ai,bj,eN,none,0,0,none,0,0⟩:Sd) iH (bq hle hex) rfl (av _) rfl (av _) ⟨au.k,aD _,tK,aD _,aD _⟩ lT lT nS nS)
 have hX:=fun m' (hle:ae m m')=>qn _ ex eN.cs m' (av _) (hg.upM hle) (bq hle hex)
 have hZ:=fun m' (_:ae m m')=>abI hex m'
 clear s1 s2 r1 r2;refine enter qk qc Tryz.func201 rfl rfl (by kernel_rfl) rfl ?_ ?_
 ·simp only[go_sem,Sd.cs,Nd.cs,bj,ai,Int.reduceEq,ao,ar]
 ·simp only[go_sem,Sd.cs,Nd.cs,bj,ai,Int.reduceEq,ao,ar];refine ab ((hB m (.inl rfl)).mono ?_);clear hB;rintro r H' m1 aN ⟨l1,rfl,rfl⟩;simp only[go_sem,Sd.cs,Nd.cs,bj,ai,Int.reduceEq,ao,ar];refine⟨fun b1=>ab ((hA m1 l1).mono ?_),fun b1=> ?_⟩
  ·clear hA;rintro r H' m2 aH ⟨dV,rfl,rfl⟩;have cZ:=aa l1 dV;simp only[go_sem,Sd.cs,Nd.cs,bj,ai,Int.reduceEq,ao,ar];refine ab ((aP (hZ m2 cZ) (fun V=>rfl)).mono ?_);clear hZ;rintro r H' w1 ug ⟨eG,rfl,rfl⟩;simp only[go_sem,Sd.cs,Nd.cs,bj,ai,Int.reduceEq,ao,ar];refine⟨fun c=> ?_,fun c=> ?_⟩
   ·refine ab ((aP (hX w1 (aa cZ eG)) (fun V=>rfl)).mono ?_);clear hX;rintro r H' w2 ue ⟨kO,rfl,rfl⟩;simp only[go_sem,Sd.cs,Nd.cs,bj,ai,Int.reduceEq,ao,ar];refine⟨fun c2=> ?_,fun c2=> ?_⟩
    ·refine ab ((aP (hQ w2 (aa (aa cZ eG) kO)) (fun V=>rfl)).mono ?_);clear hQ;rintro r H' w3 nb ⟨lJ,rfl,rfl⟩;simp only[go_sem,Sd.cs,Nd.cs,bj,ai,Int.reduceEq,ao,ar];refine⟨aa (aa (aa cZ eG) kO) lJ,?_⟩;rw[e0,c,c2];rfl
    ·refine⟨(aa (aa cZ eG) kO),?_⟩;rw[e0,c,c2];rfl
   ·refine ab ((aP (hQ w1 (aa cZ eG)) (fun V=>rfl)).mono ?_);clear hQ;rintro r H' w4 kv ⟨oz,rfl,rfl⟩;simp only[go_sem,Sd.cs,Nd.cs,bj,ai,Int.reduceEq,ao,ar];refine⟨aa (aa cZ eG) oz,?_⟩;rw[e0,c];rfl
  ·clear hA;refine ab ((aP (hZ m1 l1) (fun V=>rfl)).mono ?_);clear hZ;rintro r H' w5 sO ⟨ub,rfl,rfl⟩;simp only[go_sem,Sd.cs,Nd.cs,bj,ai,Int.reduceEq,ao,ar];refine⟨fun c=> ?_,fun c=> ?_⟩
   ·refine ab ((aP (hX w5 (aa l1 ub)) (fun V=>rfl)).mono ?_);clear hX;rintro r H' w6 qT ⟨DO,rfl,rfl⟩;simp only[go_sem,Sd.cs,Nd.cs,bj,ai,Int.reduceEq,ao,ar];refine⟨fun c6=> ?_,fun c6=> ?_⟩
    ·refine ab ((aP (hQ w6 (aa (aa l1 ub) DO)) (fun V=>rfl)).mono ?_);clear hQ;rintro r H' w7 Hg ⟨lw7,rfl,rfl⟩;simp only[go_sem,Sd.cs,Nd.cs,bj,ai,Int.reduceEq,ao,ar];refine⟨aa (aa (aa l1 ub) DO) lw7,?_⟩;rw[e0,c,c6];rfl
    ·refine⟨(aa (aa l1 ub) DO),?_⟩;rw[e0,c,c6];rfl
   ·refine ab ((aP (hQ w5 (aa l1 ub)) (fun V=>rfl)).mono ?_);clear hQ;rintro r H' w8 qS ⟨lw8,rfl,rfl⟩;simp only[go_sem,Sd.cs,Nd.cs,bj,ai,Int.reduceEq,ao,ar];refine⟨aa (aa l1 ub) lw8,?_⟩;rw[e0,c];rfl
theorem aiO (nm:List UInt8) (ty:Ty) (tN eN:Nd) (a:Option Addr) (l cp:Nat) (b:Option Addr) (l2 cp2:Nat) (tg ex:Ex) (body alt:List St) (xs ys:List Value) (m:Mem) (hg:Glob m)
  (dn:bw m tg tN.cs) (hex:bw m ex eN.cs) (hl:l=body.length) (ba:l<=cp) (ct:l2=alt.length) (eb:l2<=cp2) (au:StOk 7 nm ty body.length alt.length) (r1:aX m a l 23 xs) (r2:aX m b l2 23 ys) (s1:bS m body xs) (s2:bS m alt ys) (B1 B2 B V:Bool)
  (hB:∀m',ae m m' ->aK 142 [.v (.slice a l cp),.v (.bool false)] m' (.bool B1)) (hA:∀m',ae m m' ->aK 142 [.v (.slice b l2 cp2),.v (.bool false)] m' (.bool B2)) (iF:B=(B1&&B2))
  (e0:V=(bD ex&&dq (St.mk 7 nm ty tg ex body alt) (St.mk 7 [] ai zE ex [] []))):aK 201 [.v (.agg ⟨Sd.cs ⟨7,nm,ty,tN,eN,a,l,cp,b,l2,cp2⟩⟩)] m (.bool V):=by
 have hQ:∀m',ae m m' ->aK 236 [.v (.agg ⟨Sd.cs ⟨7,nm,ty,tN,eN,a,l,cp,b,l2,cp2⟩⟩),.v (.agg ⟨Sd.cs ⟨7,[],ai,bj,eN,none,0,0,none,0,0⟩⟩)] m' (.bool (dq (St.mk 7 nm ty tg ex body alt) (St.mk 7 [] ai zE ex [] []))):=fun m' hle=>
  pD _ _ _ _ _ m' (av _) (jW (m:=m') (⟨7,nm,ty,tN,eN,a,l,cp,b,l2,cp2⟩:Sd) (bq hle dn) (bq hle hex) hl ba ct eb au (ay hle r1) (ay hle r2) (dw hle s1) (dw hle s2))
   (jW (m:=m') (⟨7,[],ai,bj,eN,none,0,0,none,0,0⟩:Sd) iH (bq hle hex) rfl (av _) rfl (av _) ⟨au.k,aD _,tK,aD _,aD _⟩ lT lT nS nS)
 have hX:=fun m' (hle:ae m m')=>qn _ ex eN.cs m' (av _) (hg.upM hle) (bq hle hex)
 clear s1 s2 r1 r2;refine enter qk qc Tryz.func201 rfl rfl (by kernel_rfl) rfl ?_ ?_
 ·simp only[go_sem,Sd.cs,Nd.cs,bj,ai,Int.reduceEq,ao,ar]
 ·simp only[go_sem,Sd.cs,Nd.cs,bj,ai,Int.reduceEq,ao,ar];refine ab ((hB m (.inl rfl)).mono ?_);clear hB;rintro r H' m1 aN ⟨l1,rfl,rfl⟩;simp only[go_sem,Sd.cs,Nd.cs,bj,ai,Int.reduceEq,ao,ar];refine⟨fun b1=>ab ((hA m1 l1).mono ?_),fun b1=> ?_⟩
  ·clear hA;rintro r H' m2 aH ⟨dV,rfl,rfl⟩;have cZ:=aa l1 dV;simp only[go_sem,Sd.cs,Nd.cs,bj,ai,Int.reduceEq,ao,ar];refine ab ((aP (hX m2 cZ) (fun V=>rfl)).mono ?_);clear hX;rintro r H' w1 ug ⟨eG,rfl,rfl⟩;simp only[go_sem,Sd.cs,Nd.cs,bj,ai,Int.reduceEq,ao,ar];refine⟨fun c1=> ?_,fun c1=> ?_⟩
   ·refine ab ((aP (hQ w1 (aa cZ eG)) (fun V=>rfl)).mono ?_);clear hQ;rintro r H' w2 ue ⟨kO,rfl,rfl⟩;simp only[go_sem,Sd.cs,Nd.cs,bj,ai,Int.reduceEq,ao,ar];refine⟨aa (aa cZ eG) kO,?_⟩;rw[e0,c1];rfl
   ·refine⟨(aa cZ eG),?_⟩;rw[e0,c1];rfl
  ·clear hA;refine ab ((aP (hX m1 l1) (fun V=>rfl)).mono ?_);clear hX;rintro r H' w3 nb ⟨lJ,rfl,rfl⟩;simp only[go_sem,Sd.cs,Nd.cs,bj,ai,Int.reduceEq,ao,ar];refine⟨fun c3=> ?_,fun c3=> ?_⟩
   ·refine ab ((aP (hQ w3 (aa l1 lJ)) (fun V=>rfl)).mono ?_);clear hQ;rintro r H' w4 kv ⟨oz,rfl,rfl⟩;simp only[go_sem,Sd.cs,Nd.cs,bj,ai,Int.reduceEq,ao,ar];refine⟨aa (aa l1 lJ) oz,?_⟩;rw[e0,c3];rfl
   ·refine⟨(aa l1 lJ),?_⟩;rw[e0,c3];rfl
theorem aiN (nm:List UInt8) (ty:Ty) (tN eN:Nd) (a:Option Addr) (l cp:Nat) (b:Option Addr) (l2 cp2:Nat) (tg ex:Ex) (body alt:List St) (xs ys:List Value) (m:Mem) (hg:Glob m)
  (dn:bw m tg tN.cs) (hex:bw m ex eN.cs) (hl:l=body.length) (ba:l<=cp) (ct:l2=alt.length) (eb:l2<=cp2) (au:StOk 8 nm ty body.length alt.length) (r1:aX m a l 23 xs) (r2:aX m b l2 23 ys) (s1:bS m body xs) (s2:bS m alt ys) (B1 B2 B V:Bool)
  (hB:∀m',ae m m' ->aK 142 [.v (.slice a l cp),.v (.bool false)] m' (.bool B1)) (hA:∀m',ae m m' ->aK 142 [.v (.slice b l2 cp2),.v (.bool false)] m' (.bool B2)) (iF:B=(B1&&B2))
  (e0:V=((B&&du nm&&dD ty.dim ty.base ty.name)&&dq (St.mk 8 nm ty tg ex body alt) (St.mk 8 nm ty zE zE body alt))):aK 201 [.v (.agg ⟨Sd.cs ⟨8,nm,ty,tN,eN,a,l,cp,b,l2,cp2⟩⟩)] m (.bool V):=by
 have hQ:∀m',ae m m' ->aK 236 [.v (.agg ⟨Sd.cs ⟨8,nm,ty,tN,eN,a,l,cp,b,l2,cp2⟩⟩),.v (.agg ⟨Sd.cs ⟨8,nm,ty,bj,bj,a,l,cp,b,l2,cp2⟩⟩)] m' (.bool (dq (St.mk 8 nm ty tg ex body alt) (St.mk 8 nm ty zE zE body alt))):=fun m' hle=>
  pD _ _ _ _ _ m' (av _) (jW (m:=m') (⟨8,nm,ty,tN,eN,a,l,cp,b,l2,cp2⟩:Sd) (bq hle dn) (bq hle hex) hl ba ct eb au (ay hle r1) (ay hle r2) (dw hle s1) (dw hle s2))
   (jW (m:=m') (⟨8,nm,ty,bj,bj,a,l,cp,b,l2,cp2⟩:Sd) iH iH hl ba ct eb ⟨au.k,au.nm,au.ty,au.l,au.l2⟩ (ay hle r1) (ay hle r2) (dw hle s1) (dw hle s2))
 have GX:BL nm:=cX au.nm (by decide);have GW:BL ty.name:=cX au.ty.2.2 (by decide);clear s1 s2 r1 r2;refine enter qk qc Tryz.func201 rfl rfl (by kernel_rfl) rfl ?_ ?_
 ·simp only[go_sem,Sd.cs,Nd.cs,bj,ai,Int.reduceEq,ao,ar]
 ·simp only[go_sem,Sd.cs,Nd.cs,bj,ai,Int.reduceEq,ao,ar];refine ab ((hB m (.inl rfl)).mono ?_);clear hB;rintro r H' m1 aN ⟨l1,rfl,rfl⟩;simp only[go_sem,Sd.cs,Nd.cs,bj,ai,Int.reduceEq,ao,ar];refine⟨fun b1=>ab ((hA m1 l1).mono ?_),fun b1=> ?_⟩
  ·clear hA;rintro r H' m2 aH ⟨dV,rfl,rfl⟩;have cZ:=aa l1 dV;simp only[go_sem,Sd.cs,Nd.cs,bj,ai,Int.reduceEq,ao,ar];refine⟨fun _=>GX,fun _=>GW,fun c=> ?_,fun c=> ?_⟩
   ·refine ab ((aP (hQ m2 cZ) (fun V=>rfl)).mono ?_);clear hQ;rintro r H' w1 ug ⟨eG,rfl,rfl⟩;simp only[go_sem,Sd.cs,Nd.cs,bj,ai,Int.reduceEq,ao,ar];refine⟨aa cZ eG,?_⟩;rw[e0,iF,b1,c.1.1,c.1.2,c.2];rfl
   ·refine⟨cZ,?_⟩;rw[e0,iF,b1];rcases c with (c |c) |c<;>simp [c]
  ·clear hA;refine⟨l1,?_⟩;rw[e0,iF,b1];rfl
theorem aiM (nm:List UInt8) (ty:Ty) (tN eN:Nd) (a:Option Addr) (l cp:Nat) (b:Option Addr) (l2 cp2:Nat) (tg ex:Ex) (body alt:List St) (xs ys:List Value) (m:Mem) (hg:Glob m)
  (dn:bw m tg tN.cs) (hex:bw m ex eN.cs) (hl:l=body.length) (ba:l<=cp) (ct:l2=alt.length) (eb:l2<=cp2) (au:StOk 9 nm ty body.length alt.length) (r1:aX m a l 23 xs) (r2:aX m b l2 23 ys) (s1:bS m body xs) (s2:bS m alt ys) (B1 B2 B V:Bool)
  (hB:∀m',ae m m' ->aK 142 [.v (.slice a l cp),.v (.bool false)] m' (.bool B1)) (hA:∀m',ae m m' ->aK 142 [.v (.slice b l2 cp2),.v (.bool false)] m' (.bool B2)) (iF:B=(B1&&B2))
  (e0:V=((B&&bD ex)&&dq (St.mk 9 nm ty tg ex body alt) (St.mk 9 [] ai zE ex body []))):aK 201 [.v (.agg ⟨Sd.cs ⟨9,nm,ty,tN,eN,a,l,cp,b,l2,cp2⟩⟩)] m (.bool V):=by
 have hQ:∀m',ae m m' ->aK 236 [.v (.agg ⟨Sd.cs ⟨9,nm,ty,tN,eN,a,l,cp,b,l2,cp2⟩⟩),.v (.agg ⟨Sd.cs ⟨9,[],ai,bj,eN,a,l,cp,none,0,0⟩⟩)] m' (.bool (dq (St.mk 9 nm ty tg ex body alt) (St.mk 9 [] ai zE ex body []))):=fun m' hle=>
  pD _ _ _ _ _ m' (av _) (jW (m:=m') (⟨9,nm,ty,tN,eN,a,l,cp,b,l2,cp2⟩:Sd) (bq hle dn) (bq hle hex) hl ba ct eb au (ay hle r1) (ay hle r2) (dw hle s1) (dw hle s2))
   (jW (m:=m') (⟨9,[],ai,bj,eN,a,l,cp,none,0,0⟩:Sd) iH (bq hle hex) hl ba rfl (av _) ⟨au.k,aD _,tK,au.l,aD _⟩ (ay hle r1) lT (dw hle s1) nS)
 have hX:=fun m' (hle:ae m m')=>qn _ ex eN.cs m' (av _) (hg.upM hle) (bq hle hex)
 clear s1 s2 r1 r2;refine enter qk qc Tryz.func201 rfl rfl (by kernel_rfl) rfl ?_ ?_
 ·simp only[go_sem,Sd.cs,Nd.cs,bj,ai,Int.reduceEq,ao,ar]
 ·simp only[go_sem,Sd.cs,Nd.cs,bj,ai,Int.reduceEq,ao,ar];refine ab ((hB m (.inl rfl)).mono ?_);clear hB;rintro r H' m1 aN ⟨l1,rfl,rfl⟩;simp only[go_sem,Sd.cs,Nd.cs,bj,ai,Int.reduceEq,ao,ar];refine⟨fun b1=>ab ((hA m1 l1).mono ?_),fun b1=> ?_⟩
  ·clear hA;rintro r H' m2 aH ⟨dV,rfl,rfl⟩;have cZ:=aa l1 dV;simp only[go_sem,Sd.cs,Nd.cs,bj,ai,Int.reduceEq,ao,ar];refine⟨fun b2=> ?_,fun b2=> ?_⟩
   ·refine ab ((aP (hX m2 cZ) (fun V=>rfl)).mono ?_);clear hX;rintro r H' w1 ug ⟨eG,rfl,rfl⟩;simp only[go_sem,Sd.cs,Nd.cs,bj,ai,Int.reduceEq,ao,ar];refine⟨fun c1=> ?_,fun c1=> ?_⟩
    ·refine ab ((aP (hQ w1 (aa cZ eG)) (fun V=>rfl)).mono ?_);clear hQ;rintro r H' w2 ue ⟨kO,rfl,rfl⟩;simp only[go_sem,Sd.cs,Nd.cs,bj,ai,Int.reduceEq,ao,ar];refine⟨aa (aa cZ eG) kO,?_⟩;rw[e0,iF,b1,b2,c1];rfl
    ·refine⟨(aa cZ eG),?_⟩;rw[e0,iF,b1,b2,c1];rfl
   ·refine⟨cZ,?_⟩;rw[e0,iF,b1,b2];rfl
  ·clear hA;refine⟨l1,?_⟩;rw[e0,iF,b1];rfl
theorem af7 (nm:List UInt8) (ty:Ty) (tN eN:Nd) (a:Option Addr) (l cp:Nat) (b:Option Addr) (l2 cp2:Nat) (tg ex:Ex) (body alt:List St) (xs ys:List Value) (m:Mem) (hg:Glob m)
  (dn:bw m tg tN.cs) (hex:bw m ex eN.cs) (hl:l=body.length) (ba:l<=cp) (ct:l2=alt.length) (eb:l2<=cp2) (au:StOk 10 nm ty body.length alt.length) (r1:aX m a l 23 xs) (r2:aX m b l2 23 ys) (s1:bS m body xs) (s2:bS m alt ys) (B1 B2 B V:Bool)
  (hB:∀m',ae m m' ->aK 142 [.v (.slice a l cp),.v (.bool false)] m' (.bool B1)) (hA:∀m',ae m m' ->aK 142 [.v (.slice b l2 cp2),.v (.bool false)] m' (.bool B2)) (iF:B=(B1&&B2))
  (e0:V=(B&&dq (St.mk 10 nm ty tg ex body alt) (St.mk 10 [] ai zE zE body []))):aK 201 [.v (.agg ⟨Sd.cs ⟨10,nm,ty,tN,eN,a,l,cp,b,l2,cp2⟩⟩)] m (.bool V):=by
 have hQ:∀m',ae m m' ->aK 236 [.v (.agg ⟨Sd.cs ⟨10,nm,ty,tN,eN,a,l,cp,b,l2,cp2⟩⟩),.v (.agg ⟨Sd.cs ⟨10,[],ai,bj,bj,a,l,cp,none,0,0⟩⟩)] m' (.bool (dq (St.mk 10 nm ty tg ex body alt) (St.mk 10 [] ai zE zE body []))):=fun m' hle=>
  pD _ _ _ _ _ m' (av _) (jW (m:=m') (⟨10,nm,ty,tN,eN,a,l,cp,b,l2,cp2⟩:Sd) (bq hle dn) (bq hle hex) hl ba ct eb au (ay hle r1) (ay hle r2) (dw hle s1) (dw hle s2))
   (jW (m:=m') (⟨10,[],ai,bj,bj,a,l,cp,none,0,0⟩:Sd) iH iH hl ba rfl (av _) ⟨au.k,aD _,tK,au.l,aD _⟩ (ay hle r1) lT (dw hle s1) nS)
 clear s1 s2 r1 r2;refine enter qk qc Tryz.func201 rfl rfl (by kernel_rfl) rfl ?_ ?_
 ·simp only[go_sem,Sd.cs,Nd.cs,bj,ai,Int.reduceEq,ao,ar]
 ·simp only[go_sem,Sd.cs,Nd.cs,bj,ai,Int.reduceEq,ao,ar];refine ab ((hB m (.inl rfl)).mono ?_);clear hB;rintro r H' m1 aN ⟨l1,rfl,rfl⟩;simp only[go_sem,Sd.cs,Nd.cs,bj,ai,Int.reduceEq,ao,ar];refine⟨fun b1=>ab ((hA m1 l1).mono ?_),fun b1=> ?_⟩
  ·clear hA;rintro r H' m2 aH ⟨dV,rfl,rfl⟩;have cZ:=aa l1 dV;simp only[go_sem,Sd.cs,Nd.cs,bj,ai,Int.reduceEq,ao,ar];refine⟨fun b2=> ?_,fun b2=> ?_⟩
   ·refine ab ((aP (hQ m2 cZ) (fun V=>rfl)).mono ?_);clear hQ;rintro r H' w1 ug ⟨eG,rfl,rfl⟩;simp only[go_sem,Sd.cs,Nd.cs,bj,ai,Int.reduceEq,ao,ar];refine⟨aa cZ eG,?_⟩;rw[e0,iF,b1,b2];rfl
   ·refine⟨cZ,?_⟩;rw[e0,iF,b1,b2];rfl
  ·clear hA;refine⟨l1,?_⟩;rw[e0,iF,b1];rfl
theorem af6 (nm:List UInt8) (ty:Ty) (tN eN:Nd) (a:Option Addr) (l cp:Nat) (b:Option Addr) (l2 cp2:Nat) (tg ex:Ex) (body alt:List St) (xs ys:List Value) (m:Mem) (hg:Glob m)
  (dn:bw m tg tN.cs) (hex:bw m ex eN.cs) (hl:l=body.length) (ba:l<=cp) (ct:l2=alt.length) (eb:l2<=cp2) (au:StOk 11 nm ty body.length alt.length) (r1:aX m a l 23 xs) (r2:aX m b l2 23 ys) (s1:bS m body xs) (s2:bS m alt ys) (B1 B2 B V:Bool)
  (hB:∀m',ae m m' ->aK 142 [.v (.slice a l cp),.v (.bool false)] m' (.bool B1)) (hA:∀m',ae m m' ->aK 142 [.v (.slice b l2 cp2),.v (.bool false)] m' (.bool B2)) (iF:B=(B1&&B2))
  (e0:V=(np ex&&dq (St.mk 11 nm ty tg ex body alt) (St.mk 11 [] ai zE ex [] []))):aK 201 [.v (.agg ⟨Sd.cs ⟨11,nm,ty,tN,eN,a,l,cp,b,l2,cp2⟩⟩)] m (.bool V):=by
 have hQ:∀m',ae m m' ->aK 236 [.v (.agg ⟨Sd.cs ⟨11,nm,ty,tN,eN,a,l,cp,b,l2,cp2⟩⟩),.v (.agg ⟨Sd.cs ⟨11,[],ai,bj,eN,none,0,0,none,0,0⟩⟩)] m' (.bool (dq (St.mk 11 nm ty tg ex body alt) (St.mk 11 [] ai zE ex [] []))):=fun m' hle=>
  pD _ _ _ _ _ m' (av _) (jW (m:=m') (⟨11,nm,ty,tN,eN,a,l,cp,b,l2,cp2⟩:Sd) (bq hle dn) (bq hle hex) hl ba ct eb au (ay hle r1) (ay hle r2) (dw hle s1) (dw hle s2))
   (jW (m:=m') (⟨11,[],ai,bj,eN,none,0,0,none,0,0⟩:Sd) iH (bq hle hex) rfl (av _) rfl (av _) ⟨au.k,aD _,tK,aD _,aD _⟩ lT lT nS nS)
 have hX:=fun m' (hle:ae m m')=>XH ex eN.cs m' (hg.upM hle) (bq hle hex)
 clear s1 s2 r1 r2;refine enter qk qc Tryz.func201 rfl rfl (by kernel_rfl) rfl ?_ ?_
 ·simp only[go_sem,Sd.cs,Nd.cs,bj,ai,Int.reduceEq,ao,ar]
 ·simp only[go_sem,Sd.cs,Nd.cs,bj,ai,Int.reduceEq,ao,ar];refine ab ((hB m (.inl rfl)).mono ?_);clear hB;rintro r H' m1 aN ⟨l1,rfl,rfl⟩;simp only[go_sem,Sd.cs,Nd.cs,bj,ai,Int.reduceEq,ao,ar];refine⟨fun b1=>ab ((hA m1 l1).mono ?_),fun b1=> ?_⟩
  ·clear hA;rintro r H' m2 aH ⟨dV,rfl,rfl⟩;have cZ:=aa l1 dV;simp only[go_sem,Sd.cs,Nd.cs,bj,ai,Int.reduceEq,ao,ar];refine ab ((aP (hX m2 cZ) (fun V=>rfl)).mono ?_);clear hX;rintro r H' w1 ug ⟨eG,rfl,rfl⟩;simp only[go_sem,Sd.cs,Nd.cs,bj,ai,Int.reduceEq,ao,ar];refine⟨fun c1=> ?_,fun c1=> ?_⟩
   ·refine ab ((aP (hQ w1 (aa cZ eG)) (fun V=>rfl)).mono ?_);clear hQ;rintro r H' w2 ue ⟨kO,rfl,rfl⟩;simp only[go_sem,Sd.cs,Nd.cs,bj,ai,Int.reduceEq,ao,ar];refine⟨aa (aa cZ eG) kO,?_⟩;rw[e0,c1];rfl
   ·refine⟨(aa cZ eG),?_⟩;rw[e0,c1];rfl
  ·clear hA;refine ab ((aP (hX m1 l1) (fun V=>rfl)).mono ?_);clear hX;rintro r H' w3 nb ⟨lJ,rfl,rfl⟩;simp only[go_sem,Sd.cs,Nd.cs,bj,ai,Int.reduceEq,ao,ar];refine⟨fun c3=> ?_,fun c3=> ?_⟩
   ·refine ab ((aP (hQ w3 (aa l1 lJ)) (fun V=>rfl)).mono ?_);clear hQ;rintro r H' w4 kv ⟨oz,rfl,rfl⟩;simp only[go_sem,Sd.cs,Nd.cs,bj,ai,Int.reduceEq,ao,ar];refine⟨aa (aa l1 lJ) oz,?_⟩;rw[e0,c3];rfl
   ·refine⟨(aa l1 lJ),?_⟩;rw[e0,c3];rfl
theorem aiV (k:Int) (nm:List UInt8) (ty:Ty) (tN eN:Nd) (a:Option Addr) (l cp:Nat) (b:Option Addr) (l2 cp2:Nat) (m:Mem) (B1 B2:Bool) (e:∀j:Int,1<=j->j<=11->(k=j)=False)
  (hB:∀m',ae m m' ->aK 142 [.v (.slice a l cp),.v (.bool false)] m' (.bool B1)) (hA:∀m',ae m m' ->aK 142 [.v (.slice b l2 cp2),.v (.bool false)] m' (.bool B2)):
  aK 201 [.v (.agg ⟨Sd.cs ⟨k,nm,ty,tN,eN,a,l,cp,b,l2,cp2⟩⟩)] m (.bool false):=by
 have e1:=e 1 (by decide) (by decide);have e2:=e 2 (by decide) (by decide);have e3:=e 3 (by decide) (by decide);have e4:=e 4 (by decide) (by decide);have e5:=e 5 (by decide) (by decide);have e6:=e 6 (by decide) (by decide);have e7:=e 7 (by decide) (by decide);have e8:=e 8 (by decide) (by decide);have e9:=e 9 (by decide) (by decide);have jg:=e 10 (by decide) (by decide);have mq:=e 11 (by decide) (by decide);refine enter qk qc Tryz.func201 rfl rfl (by kernel_rfl) rfl ?_ ?_
 ·simp only[go_sem,Sd.cs,Nd.cs]
 ·simp only[go_sem,Sd.cs,Nd.cs];refine ab ((hB m (.inl rfl)).mono ?_);clear hB;rintro r H' m1 aN ⟨l1,rfl,rfl⟩;simp only[go_sem,Sd.cs,Nd.cs,e1,e2,e3,e4,e5,e6,e7,e8,e9,jg,mq,ar];refine⟨fun b1=>ab ((hA m1 l1).mono ?_),fun b1=>l1⟩;clear hA;rintro r H' m2 aH ⟨dV,rfl,rfl⟩;simp only[go_sem,Sd.cs,Nd.cs,e1,e2,e3,e4,e5,e6,e7,e8,e9,jg,mq,ar];exact aa l1 dV
theorem QF {k:Int}:(k=1\/k=2\/k=3\/k=4\/k=5\/k=6\/k=7\/k=8\/k=9\/k=10\/k=11)\/∀j:Int,1<=j->j<=11->(k=j)=False:=by
 by_cases h:1<=k/\k<=11
 ·left;omega
 ·right;intro j h1 h2;exact eq_false fun e=>h (by omega)
theorem Ij:∀(h:Nat) (e:St) (cs:List Value) (m:Mem),eT e<=h->Glob m->eX m e cs->aK 201 [.v (.agg ⟨cs⟩)] m (.bool (fv e))
 |0,.mk k nm ty tg ex body alt,cs,m,hd,_,_=>by simp [eT] at hd
 |h+1,.mk k nm ty tg ex body alt,cs,m,hd,hg,he=>by
  obtain⟨⟨k,nm,ty,tN,eN,a,l,cp,b,l2,cp2⟩,rfl,rfl,rfl,rfl,dn,hex,hl,ba,ct,eb,au,xs,ys,r1,r2,s1,s2⟩:=rB he;simp only[eT] at hd;simp only at dn hex hl ba ct eb au r1 r2;have hB:=fun m' (hle:ae m m')=>Ix false body a l cp xs m' hl (ay hle r1) (dw hle s1) (by rw[hl];exact au.l) fun e he cs m2 aY aT=>Ij h e cs m2 (by have:=my he;omega) (hg.upM (aa hle aY)) aT
  have hA:=fun m' (hle:ae m m')=>Ix false alt b l2 cp2 ys m' ct (ay hle r2) (dw hle s2) (by rw[ct];exact au.l2) fun e he cs m2 aY aT=>Ij h e cs m2 (by have:=my he;omega) (hg.upM (aa hle aY)) aT
  simp only;rcases QF (k:=k) with hk |hk
  ·rcases hk with rfl |rfl |rfl |rfl |rfl |rfl |rfl |rfl |rfl |rfl |rfl
   ·exact aiU nm ty tN eN a l cp b l2 cp2 tg ex body alt xs ys m hg dn hex hl ba ct eb au r1 r2 s1 s2 _ _ _ _ hB hA rfl (by simp only[fv,iB,jV,Int.reduceEq,or_false,or_true,false_or,true_or,if_true,if_false])
   ·exact aiT nm ty tN eN a l cp b l2 cp2 tg ex body alt xs ys m hg dn hex hl ba ct eb au r1 r2 s1 s2 _ _ _ _ hB hA rfl (by simp only[fv,iB,jV,Int.reduceEq,or_false,or_true,false_or,true_or,if_true,if_false])
   ·exact aiS nm ty tN eN a l cp b l2 cp2 tg ex body alt xs ys m hg dn hex hl ba ct eb au r1 r2 s1 s2 _ _ _ _ hB hA rfl (by simp only[fv,iB,jV,Int.reduceEq,or_false,or_true,false_or,true_or,if_true,if_false])
   ·exact aiR nm ty tN eN a l cp b l2 cp2 tg ex body alt xs ys m hg dn hex hl ba ct eb au r1 r2 s1 s2 _ _ _ _ hB hA rfl (by simp only[fv,iB,jV,Int.reduceEq,or_false,or_true,false_or,true_or,if_true,if_false])
   ·exact aiQ nm ty tN eN a l cp b l2 cp2 tg ex body alt xs ys m hg dn hex hl ba ct eb au r1 r2 s1 s2 _ _ _ _ hB hA rfl (by simp only[fv,iB,jV,Int.reduceEq,or_false,or_true,false_or,true_or,if_true,if_false])
   ·exact aiP nm ty tN eN a l cp b l2 cp2 tg ex body alt xs ys m hg dn hex hl ba ct eb au r1 r2 s1 s2 _ _ _ _ hB hA rfl (by simp only[fv,iB,jV,Int.reduceEq,or_false,or_true,false_or,true_or,if_true,if_false])
   ·exact aiO nm ty tN eN a l cp b l2 cp2 tg ex body alt xs ys m hg dn hex hl ba ct eb au r1 r2 s1 s2 _ _ _ _ hB hA rfl (by simp only[fv,iB,jV,Int.reduceEq,or_false,or_true,false_or,true_or,if_true,if_false])
   ·exact aiN nm ty tN eN a l cp b l2 cp2 tg ex body alt xs ys m hg dn hex hl ba ct eb au r1 r2 s1 s2 _ _ _ _ hB hA rfl (by simp only[fv,iB,jV,Int.reduceEq,or_false,or_true,false_or,true_or,if_true,if_false])
   ·exact aiM nm ty tN eN a l cp b l2 cp2 tg ex body alt xs ys m hg dn hex hl ba ct eb au r1 r2 s1 s2 _ _ _ _ hB hA rfl (by simp only[fv,iB,jV,Int.reduceEq,or_false,or_true,false_or,true_or,if_true,if_false])
   ·exact af7 nm ty tN eN a l cp b l2 cp2 tg ex body alt xs ys m hg dn hex hl ba ct eb au r1 r2 s1 s2 _ _ _ _ hB hA rfl (by simp only[fv,iB,jV,Int.reduceEq,or_false,or_true,false_or,true_or,if_true,if_false])
   ·exact af6 nm ty tN eN a l cp b l2 cp2 tg ex body alt xs ys m hg dn hex hl ba ct eb au r1 r2 s1 s2 _ _ _ _ hB hA rfl (by simp only[fv,iB,jV,Int.reduceEq,or_false,or_true,false_or,true_or,if_true,if_false])
  ·have hv:=aiV k nm ty tN eN a l cp b l2 cp2 m _ _ hk hB hA;have:fv (.mk k nm ty tg ex body alt)=false:=by
    have e:∀j:Int,1<=j->j<=11->¬k=j:=fun j h1 h2 h3=>by have:=hk j h1 h2;rw[this] at h3;exact h3
    simp only[fv,iB,hk 1 (by decide) (by decide),hk 2 (by decide) (by decide),hk 3 (by decide) (by decide),hk 4 (by decide) (by decide),hk 5 (by decide) (by decide),hk 6 (by decide) (by decide),hk 7 (by decide) (by decide),hk 8 (by decide) (by decide),hk 9 (by decide) (by decide),hk 10 (by decide) (by decide),hk 11 (by decide) (by decide),or_false,if_false,Bool.false_and]
   rw[this];exact hv
theorem Px (sup:Bool) (l:List St) (a:Option Addr) (n c:Nat) (xs:List Value) (m:Mem) (hg:Glob m) (hl:n=l.length) (hr:aX m a n 23 xs) (hs:bS m l xs) (hn:n<=aq):
  aK 142 [.v (.slice a n c),.v (.bool sup)] m (.bool (eE sup l)):=
 Ix sup l a n c xs m hl hr hs hn fun e _ cs m' hle aT=>Ij _ e cs m' (av _) (hg.upM hle) aT
def hasB (fl m:Int):Bool:= !decide (bits .and .i64 fl m=0)
def lf (fl:Int):Bool:=decide (bits .and .i64 fl 7=0)||decide (bits .and .i64 fl 7=1)||decide (bits .and .i64 fl 7=2)||decide (bits .and .i64 fl 7=4)
def fx (fl al:Int):Bool:=decide (bits .andNot .i64 fl al=0)
def oH (fl:Int):Bool:=lf fl&&fx fl 1087&& !(hasB fl 1024&&hasB fl 58)&&(!hasB fl 32|| !hasB fl 8)
def jU (f:Fc):Bool:=dD f.ty.dim f.ty.base f.ty.name&&du f.name&&lf f.fl&&fx f.fl 31
def ib (p:Pc):Bool:=dD p.ty.dim p.ty.base p.ty.name&&du p.name
def nl (t:Ty):Bool:=decide (t.dim=0)&&(decide (t.base=86)&&decide (t.name=[]))
def ny (m:Md):Bool:=if m.name=eK then nl m.res&&m.hb&&fx m.fl 7 else du m.name&&(nl m.res||dD m.res.dim m.res.base m.res.name)
def rZ (m:Md):Bool:=oH m.fl&& !(m.hb==hasB m.fl 1024)&&(m.hb||decide (m.body.length=0))&&decide (m.params.length<=16)
def gm (m:Md):Bool:=ny m&&rZ m&& !(m.params.any fun p=> !ib p)&&eE (decide (m.name=eK)) m.body
def kH:List UInt8:=[108,97,110,103,47,79,98,106,101,99,116]
def vB (m:Md):Bool:= !decide (m.fl=1)&& !decide (m.fl=1025)||decide (m.name=eK)
def As (d:Cd):Bool:=fx d.fl 1537&&hasB d.fl 1024&&decide (d.super=kH)&&decide (d.fields.length+d.init.length=0)&& !(d.methods.any vB)
def oX (d:Cd):Bool:=if hasB d.fl 512=true then As d else fx d.fl 1041&& !(hasB d.fl 16&&hasB d.fl 1024)
def mG (d:Cd):Bool:=dh d.name&&dh d.super&&decide (d.ifs.length<=8)
def pW (d:Cd):Bool:=decide (d.fields.length<=64)&&decide (d.methods.length<=64)
def iA (d:Cd):Bool:=oX d&&(mG d&& !(d.ifs.any fun s=> !dh s)&&pW d&& !(d.fields.any fun f=> !jU f)&& !(d.methods.any fun f=> !gm f)&&eE false d.init)
def xh (F:Int->Bool):List Value->Option (Prop×Value)
 |[.int .i64 c]=>some (True,.bool (F c))
 |_=>none
theorem CG {P:Program} {f:FuncId} {F:Int->Bool} (h:∀c m,FnH P f [.v (.int .i64 c)] ⟨[],[]⟩ m fun r H' _=>r= .v (.bool (F c))/\H' =⟨[],[]⟩):qH P f (xh F):=fun fy y hy _ m=>by
 unfold xh at hy;split at hy
 ·cases hy;exact h _ m
 ·cases hy
def xg (F:Int->Int->Bool):List Value->Option (Prop×Value)
 |[.int .i64 c,.int .i64 d]=>some (True,.bool (F c d))
 |_=>none
theorem CF {P:Program} {f:FuncId} {F:Int->Int->Bool} (h:∀c d m,FnH P f [.v (.int .i64 c),.v (.int .i64 d)] ⟨[],[]⟩ m fun r H' _=>r= .v (.bool (F c d))/\H' =⟨[],[]⟩):qH P f (xg F):=fun fy y hy _ m=>by
 unfold xg at hy;split at hy
 ·cases hy;exact h _ _ m
 ·cases hy
attribute [go_sem] xh xg
theorem ZY (fl:Int) (m:Mem):FnH Tryz.prog 194 [.v (.int .i64 fl)] ⟨[],[]⟩ m fun r H' _=>r= .v (.bool (lf fl))/\H' =⟨[],[]⟩:=by
 refine aR aB Tryz.func194 ?_
 ·simp only[go_sem];refine⟨fun a=>⟨fun _=>by simp [lf,a],fun n=>absurd a n⟩,fun a=>⟨fun b=>⟨fun _=>by simp [lf,b],fun n=>absurd b n⟩,fun b=>⟨fun c=>⟨fun _=>by simp [lf,c],fun n=>absurd c n⟩,fun c=>⟨fun d=>by simp [lf,d],fun d=>by simp [lf,a,b,c,d]⟩⟩⟩⟩
theorem OQ (fl al:Int) (m:Mem):FnH Tryz.prog 132 [.v (.int .i64 fl),.v (.int .i64 al)] ⟨[],[]⟩ m fun r H' _=>r= .v (.bool (fx fl al))/\H' =⟨[],[]⟩:=by
 refine aR aB Tryz.func132 ?_
 ·simp only[go_sem];rfl
abbrev zo:Cfg:=gL (fun _=>false) [(194,xh lf),(132,xg fx),(155,ft BL fun s=> .bool (du s)),(157,sI dD),(134,ft BL fun s=> .bool (dh s))]
theorem xe:dO zo Tryz.prog:=pure_cons (by kernel_rfl) (CG ZY) (pure_cons (by kernel_rfl) (CF OQ) (pure_cons (by kernel_rfl) (fL It) (pure_cons (by kernel_rfl) (we Ii) (pure_cons (by kernel_rfl) (fL BC) pure_nil))))
theorem Xp (fl:Int) (m:Mem):FnH Tryz.prog 195 [.v (.int .i64 fl)] ⟨[],[]⟩ m fun r H' _=>r= .v (.bool (oH fl))/\H' =⟨[],[]⟩:=by
 refine aR xe Tryz.func195 ?_
 ·simp only[go_sem];refine⟨fun h=> ?_,fun h=>⟨fun g=> ?_,fun g=> ?_⟩⟩
  ·rcases h with h |h<;>simp [oH,h]
  ·simp [oH,hasB,g.1,g.2]
  ·rcases g with g |g<;>simp [oH,hasB,h.1,h.2,g]
theorem Yt (f:Fc) (m:Mem) (h:FcOk f):aK 136 [.v (.agg ⟨f.cs⟩)] m (.bool (jU f)):=by
 have h1:BL f.name:=cX h.name (by decide);have h2:BL f.ty.name:=cX h.ty.2.2 (by decide);refine enter zo xe Tryz.func136 rfl rfl (by kernel_rfl) rfl ?_ ?_
 ·simp only[go_sem,Fc.cs]
 ·simp only[go_sem,Fc.cs];exact⟨h2,fun _=>h1,rfl⟩
theorem ZO (f:Fc) (m:Mem) (h:FcOk f):aK 135 [.v (.agg ⟨f.cs⟩)] m (.bool (!jU f)):=by
 have hF:=Yt f m h;refine enter zo xe Tryz.func135 rfl rfl (by kernel_rfl) rfl ?_ ?_
 ·simp only[go_sem,Fc.cs]
 ·simp only[go_sem,Fc.cs];refine ab ((aP hF (fun V=>rfl)).mono ?_);rintro r H' m2 aH ⟨aY,rfl,rfl⟩;simp only[go_sem];exact aY
theorem ZK (s:List UInt8) (m:Mem) (h:BL s):aK 133 [.v (.string (bs s))] m (.bool (!dh s)):=by
 refine aR xe Tryz.func133 ?_
 ·simp only[go_sem];exact h
theorem ZL (f:Pc) (m:Mem) (h:PcOk f):aK 196 [.v (.agg ⟨f.cs⟩)] m (.bool (!ib f)):=by
 have h1:BL f.name:=cX h.name (by decide);have h2:BL f.ty.name:=cX h.ty.2.2 (by decide);refine enter zo xe Tryz.func196 rfl rfl (by kernel_rfl) rfl ?_ ?_
 ·simp only[go_sem,Pc.cs]
 ·simp only[go_sem,Pc.cs];exact⟨h2,fun _=>h1,by rw[ib,Bool.not_and]⟩
theorem ZN (x:Mc) (m:Mem):aK 191 [.v (.agg ⟨x.cs⟩)] m (.bool (!decide (x.fl=1)&& !decide (x.fl=1025)||decide (x.name=eK))):=by
 refine enter zo xe Tryz.func191 rfl rfl (by kernel_rfl) rfl ?_ ?_
 ·simp only[go_sem,Mc.cs]
 ·simp only[go_sem,Mc.cs];rfl
theorem F9 {α:Type} {p:α->Bool} {l:List α} {n:Nat} (hn:n=l.length) {B:Nat->Bool} (h:∀i (hi:i<l.length),B i=p l[i]):lr n B=l.any p:=by
 subst hn;exact Pz p l B h
def Bl {α:Type} (p:α->Bool) (l:List α) (i:Nat):Bool:=match l[i]? with |some a=>p a |none=>false
theorem wv {α:Type} {p:α->Bool} {l:List α} {i:Nat} (h:i<l.length):Bl p l i=p l[i]:=by simp only[Bl,List.getElem?_eq_getElem h]
theorem aa1 {m:Mem} {d:Md} {cs:List Value} (h:gJ m d cs):∃x:Mc,(cs=x.cs/\x.fl=d.fl/\x.res=d.res/\x.name=d.name/\x.hb=d.hb)/\(x.pl=d.params.length/\x.pl<=x.pc/\x.l=d.body.length/\x.l<=x.cp)/\MdOk d/\aX m x.pa x.pl 4 (flat Pc.cs d.params)/\∃xs,aX m x.a x.l 23 xs/\bS m d.body xs:=h
theorem Xq (d:Md) (cs:List Value) (m:Mem) (hg:Glob m) (h:gJ m d cs):aK 138 [.v (.agg ⟨cs⟩)] m (.bool (gm d)):=by
 obtain⟨fl,res,name,params,hb,body⟩:=d;obtain⟨x,⟨rfl,rfl,rfl,rfl,rfl⟩,⟨j6,xp,hl,ba⟩,au,r1,xs,r2,s2⟩:=h;simp only at j6 hl r1 s2;have h1:BL x.name:=cX au.name (by decide);have h2:BL x.res.name:=cX au.res.2.2 (by decide);have hP:∀m',ae m m' ->aK 197 [.v (.slice x.pa x.pl x.pc),.v (.func (.func 196) ⟨[]⟩ ⟨[]⟩)] m' (.bool (params.any fun p=> !ib p)):=fun m' hle=>by
  have:=ah2 196 (Bl (fun p=> !ib p) params) x.pa x.pl x.pc _ m' (ay hle r1) (by rw[j6];exact au.pl) (by kernel_rfl) fun i hi=>⟨params[i]'(by omega),oJ (f:=Pc.cs) (sz:=4) (fun _=>rfl) (by omega),fun m2 _=>by
   rw[wv (by omega)];exact ZL _ m2 (au.ps _ (List.getElem_mem _))⟩
  rw[F9 j6 (p:=fun p=> !ib p) fun i hi=>wv hi] at this;exact this
 have hB:=fun m' (hle:ae m m')=>Px (decide (x.name=eK)) body x.a x.l x.cp xs m' (hg.upM hle) hl (ay hle r2) (dw hle s2) (by rw[hl];exact au.l)
 clear s2;refine enter (gL (fun _=>false) [(195,xh oH),(132,xg fx),(155,ft BL fun s=> .bool (du s)),(157,sI dD)])
  (pure_cons (by kernel_rfl) (CG Xp) (pure_cons (by kernel_rfl) (CF OQ) (pure_cons (by kernel_rfl) (fL It) (pure_cons (by kernel_rfl) (we Ii) pure_nil)))) Tryz.func138 rfl rfl (by kernel_rfl) rfl ?_ ?_
 ·simp only[go_sem,Mc.cs]
 ·simp only[go_sem,Mc.cs,qG];have e1:∀(d:Md),ny d=true->rZ d=true->gm d=(!(d.params.any fun p=> !ib p)&&eE (decide (d.name=eK)) d.body):=fun d a b=>by rw[gm,a,b];rfl
  have g0:∀(d:Md),((oH d.fl=false\/(d.hb== !decide (bits .and .i64 d.fl 1024=0))=true)\/d.hb=false/\0<d.body.length)\/16<d.params.length->false=gm d:=fun d g=>by
   have:rZ d=false:=by
    rcases g with ((g |g) |g) |g
    ·simp [rZ,g]
    ·simp only[rZ,hasB,g,Bool.not_true,Bool.and_false,Bool.false_and]
    ·simp only[rZ,g.1,Bool.false_or,dr (by omega:¬d.body.length=0),Bool.and_false,Bool.false_and]
    ·simp only[rZ,dr (by omega:¬d.params.length<=16),Bool.and_false]
   rw[gm,this,Bool.and_false];rfl
  have g1:∀(d:Md),((oH d.fl=true/\(d.hb== !decide (bits .and .i64 d.fl 1024=0))=false)/\(d.hb=true\/¬0<d.body.length))/\¬16<d.params.length->rZ d=true:=fun d g=>by
   simp only[rZ,hasB,g.1.1.1,g.1.1.2,eH (by omega:d.params.length<=16),Bool.not_false,Bool.and_true,Bool.true_and];rcases g.1.2 with h |h
   ·rw[h];rfl
   ·rw[eH (by omega:d.body.length=0),Bool.or_true]
  have ML:=g0 ⟨x.fl,x.res,x.name,params,x.hb,body⟩;have MK:=g1 ⟨x.fl,x.res,x.name,params,x.hb,body⟩;have MZ:=e1 ⟨x.fl,x.res,x.name,params,x.hb,body⟩;clear g0 g1 e1;simp only at ML MK MZ;have gx:∀{A B:Prop},(A\/B/\0<(x.l:Int))\/16<(x.pl:Int)->(A\/B/\0<body.length)\/16<params.length:=fun g=>by
   clear hP hB;rcases g with (g |g) |g
   ·exact .inl (.inl g)
   ·exact .inl (.inr ⟨g.1,by omega⟩)
   ·exact .inr (by omega)
  have gy:∀{A B:Prop},(A/\(B\/¬0<(x.l:Int)))/\¬16<(x.pl:Int)->(A/\(B\/¬0<body.length))/\¬16<params.length:=fun g=>by
   clear hP hB;refine⟨⟨g.1.1,?_⟩,by omega⟩;rcases g.1.2 with h |h
   ·exact .inl h
   ·exact .inr (by omega)
  refine⟨fun hn=>⟨fun c=> ?_,fun c=>⟨by kernel_rfl,fun g=>ML (gx g),fun g=>ab ((hP m (.inl rfl)).mono ?_)⟩⟩,
   fun hn=>⟨h1,fun _=>h2,fun c=> ?_,fun c=>⟨by kernel_rfl,fun g=>ML (gx g),fun g=>ab ((hP m (.inl rfl)).mono ?_)⟩⟩⟩
  ·clear hP hB;have:ny ⟨x.fl,x.res,x.name,params,x.hb,body⟩=false:=by
    simp only[ny,nl];rw[ah (show x.name=eK from hn)];rcases c with ((c |c |c) |c) |c<;>simp [c]
   rw[gm,this];rfl
  ·have g2:=MK (gy g);have hh:ny ⟨x.fl,x.res,x.name,params,x.hb,body⟩=true:=by
    clear hP hB;simp only[ny,nl];rw[ah (show x.name=eK from hn)];simp [c.1.1.1,c.1.1.2.1,c.1.1.2.2,c.1.2,c.2]
   have e2:=MZ hh g2;clear hP;rintro r H' m2 aH ⟨aY,rfl,rfl⟩;simp only[go_sem,Mc.cs];refine⟨fun b1=>ab ((hB m2 aY).mono ?_),fun b1=> ?_⟩
   ·clear hB;rintro r H' m3 bI ⟨lH,rfl,rfl⟩;simp only[go_sem,Mc.cs];refine⟨aa aY lH,?_⟩;rw[e2,b1];rfl
   ·refine⟨aY,?_⟩;rw[e2,b1];rfl
  ·clear hP hB;have:ny ⟨x.fl,x.res,x.name,params,x.hb,body⟩=false:=by
    simp only[ny,nl];rw[af (show ¬x.name=eK from hn)];rcases c with c |c
    ·simp [c]
    ·rw[c.2];rcases c.1 with c |c |c<;>simp [c]
   rw[gm,this];rfl
  ·have g2:=MK (gy g);have hh:ny ⟨x.fl,x.res,x.name,params,x.hb,body⟩=true:=by
    clear hP hB;simp only[ny,nl];rw[af (show ¬x.name=eK from hn),c.1];rcases c.2 with c |c<;>simp [c]
   have e2:=MZ hh g2;clear hP;rintro r H' m2 aH ⟨aY,rfl,rfl⟩;simp only[go_sem,Mc.cs];refine⟨fun b1=>ab ((hB m2 aY).mono ?_),fun b1=> ?_⟩
   ·clear hB;rintro r H' m3 bI ⟨lH,rfl,rfl⟩;simp only[go_sem,Mc.cs];refine⟨aa aY lH,?_⟩;rw[e2,b1];rfl
   ·refine⟨aY,?_⟩;rw[e2,b1];rfl
theorem ZM (d:Md) (cs:List Value) (m:Mem) (hg:Glob m) (h:gJ m d cs):aK 137 [.v (.agg ⟨cs⟩)] m (.bool (!gm d)):=by
 have hM:=Xq d cs m hg h;obtain⟨x,rfl⟩:=B7 h;refine enter gY aB Tryz.func137 rfl rfl (by kernel_rfl) rfl ?_ ?_
 ·simp only[go_sem,Mc.cs]
 ·simp only[go_sem,Mc.cs];refine ab ((aP hM (fun V=>rfl)).mono ?_);rintro r H' m2 aH ⟨aY,rfl,rfl⟩;simp only[go_sem];exact aY
theorem aee (d:Md) (cs:List Value) (m m' :Mem) (h:gJ m d cs):aK 191 [.v (.agg ⟨cs⟩)] m' (.bool (vB d)):=by
 obtain⟨x,⟨rfl,h1,h2,h3,h4⟩,_⟩:=h;have:=ZN x m';rw[h1,h3] at this;exact this
theorem Wk (f:FuncId) (p:Md->Bool) (l:List Md) (a:Option Addr) (n c:Nat) (xs:List Value) (m:Mem) (hl:n=l.length) (hr:aX m a n 8 xs) (hs:nz (gJ m) 8 l xs) (hn:n<=aq) (au:jv Tryz.prog f=true)
  (hf:∀d∈l,∀cs m',ae m m' ->gJ m' d cs->aK f [.v (.agg ⟨cs⟩)] m' (.bool (p d))):
  aK 141 [.v (.slice a n c),.v (.func (.func f) ⟨[]⟩ ⟨[]⟩)] m (.bool (l.any p)):=by
 have:=ah3 f (Bl p l) a n c xs m hr hn au fun i hi=>by
  have dv:i<l.length:=by omega
  have aT:=nZ hs dv;obtain⟨X,hX⟩:=B7 aT;rw[hX] at aT;refine⟨X,hX,fun m' hle=> ?_⟩;rw[wv dv];exact hf _ (List.getElem_mem dv) _ m' hle (qp hle aT)
 rw[F9 hl (p:=p) fun i hi=>wv hi] at this;exact this
theorem ctF (f:FuncId) (p:Fc->Bool) (l:List Fc) (a:Option Addr) (n c:Nat) (m:Mem) (hl:n=l.length) (hr:aX m a n 5 (flat Fc.cs l)) (hn:n<=aq) (au:jv Tryz.prog f=true)
  (hf:∀d∈l,∀m',ae m m' ->aK f [.v (.agg ⟨d.cs⟩)] m' (.bool (p d))):
  aK 140 [.v (.slice a n c),.v (.func (.func f) ⟨[]⟩ ⟨[]⟩)] m (.bool (l.any p)):=by
 have:=ah4 f (Bl p l) a n c _ m hr hn au fun i hi=>by
  have dv:i<l.length:=by omega
  refine⟨l[i],oJ (f:=Fc.cs) (sz:=5) (fun _=>rfl) dv,fun m' hle=> ?_⟩;rw[wv dv];exact hf _ (List.getElem_mem dv) m' hle
 rw[F9 hl (p:=p) fun i hi=>wv hi] at this;exact this
theorem ctS (f:FuncId) (p:List UInt8->Bool) (l:List (List UInt8)) (a:Option Addr) (n c:Nat) (m:Mem) (hl:n=l.length) (hr:aX m a n 1 (strs l)) (hn:n<=aq) (au:jv Tryz.prog f=true)
  (hf:∀d∈l,∀m',ae m m' ->aK f [.v (.string (bs d))] m' (.bool (p d))):
  aK 139 [.v (.slice a n c),.v (.func (.func f) ⟨[]⟩ ⟨[]⟩)] m (.bool (l.any p)):=by
 have:=ak9 f (Bl p l) a n c _ m hr hn au fun i hi=>by
  have dv:i<l.length:=by omega
  refine⟨l[i],?_,fun m' hle=> ?_⟩
  ·rw[strs,List.getElem?_map,List.getElem?_eq_getElem dv];rfl
  ·rw[wv dv];exact hf _ (List.getElem_mem dv) m' hle
 rw[F9 hl (p:=p) fun i hi=>wv hi] at this;exact this
theorem Yo (d:Cd) (cs:List Value) (m:Mem) (h:jL m d cs):aK 131 [.v (.agg ⟨cs⟩)] m (.bool (As d)):=by
 obtain⟨fl,name,super,ifs,fields,methods,init⟩:=d;obtain⟨x,⟨rfl,rfl,rfl,rfl⟩,⟨dv,hic,gC,hfc,hml,hmc,fG,hsc⟩,au,r1,r2,xs,ys,r3,s3,r4,s4⟩:=h;simp only at dv gC hml fG r1 r2 s3 s4;have hM:=Wk 191 vB methods x.ma x.ml x.mc xs m hml r3 s3 (by rw[hml];exact au.ml) (by kernel_rfl) fun d _ cs m' hle aT=>aee d cs m' m' aT
 have b1:=au.fn;have b2:=au.l;clear s3 s4;refine enter zo xe Tryz.func131 rfl rfl (by kernel_rfl) rfl ?_ ?_
 ·simp only[go_sem,Cc.cs]
 ·simp only[go_sem,Cc.cs];have e0:As ⟨x.fl,x.name,x.super,ifs,fields,methods,init⟩=(fx x.fl 1537&&hasB x.fl 1024&&decide (x.super=kH)&&decide (fields.length+init.length=0)&& !(methods.any vB)):=rfl;simp only at b1 b2;refine⟨fun _=>by clear hM;unfold aF;simp only[aq] at b1 b2;omega,fun c=>ab (hM.mono ?_),fun c=> ?_⟩
  ·have g:fields.length+init.length=0:=by clear hM;omega
   clear hM;rintro r H' m2 aH ⟨aY,rfl,rfl⟩;simp only[go_sem,Cc.cs];refine⟨aY,?_⟩;rw[e0,c.1.1.1,hasB,dr c.1.1.2,eH (show x.super=kH from c.1.2),eH g];rfl
  ·clear hM;rw[e0];rcases c with ((c |c) |c) |c
   ·simp [c]
   ·simp [hasB,c]
   ·rw[dr (show ¬x.super=kH from c)];simp
   ·rw[dr (by omega:¬fields.length+init.length=0)];simp
theorem Xy (d:Cd) (cs:List Value) (m:Mem) (hg:Glob m) (h:jL m d cs):aK 54 [.v (.agg ⟨cs⟩)] m (.bool (iA d)):=by
 have hI:=Yo d cs m h;obtain⟨fl,name,super,ifs,fields,methods,init⟩:=d;obtain⟨x,⟨rfl,rfl,rfl,rfl⟩,⟨dv,hic,gC,hfc,hml,hmc,fG,hsc⟩,au,r1,r2,xs,ys,r3,s3,r4,s4⟩:=h;simp only at dv gC hml fG r1 r2 s3 s4;have hM:=fun m' (hle:ae m m')=>Wk 137 (fun d=> !gm d) methods x.ma x.ml x.mc xs m' hml (ay hle r3) (wD (fun _ _=>qp hle) s3) (by rw[hml];exact au.ml) (by kernel_rfl) fun d _ cs m2 aY aT=>ZM d cs m2 (hg.upM (aa hle aY)) aT
 have hF:=fun m' (hle:ae m m')=>ctF 135 (fun d=> !jU d) fields x.fa x.fn x.fc m' gC (ay hle r2) (by rw[gC];exact au.fn) (by kernel_rfl) fun d hd m2 aY=>ZO d m2 (au.fs d hd)
 have hS:=fun m' (hle:ae m m')=>ctS 133 (fun d=> !dh d) ifs x.ia x.il x.ic m' dv (ay hle r1) (by rw[dv];exact au.il) (by kernel_rfl) fun d hd m2 aY=>ZK d m2 (cX (au.ifs d hd) (by decide))
 have hB:=fun m' (hle:ae m m')=>Px false init x.sa x.sl x.sc ys m' (hg.upM hle) fG (ay hle r4) (dw hle s4) (by rw[fG];exact au.l)
 have h1:BL x.name:=cX au.name (by decide);have h2:BL x.super:=cX au.super (by decide);clear s3 s4;refine enter zo xe Tryz.func54 rfl rfl (by kernel_rfl) rfl ?_ ?_
 ·simp only[go_sem,Cc.cs]
 ·simp only[go_sem,Cc.cs];have e0:oX ⟨x.fl,x.name,x.super,ifs,fields,methods,init⟩=true->iA ⟨x.fl,x.name,x.super,ifs,fields,methods,init⟩=(mG ⟨x.fl,x.name,x.super,ifs,fields,methods,init⟩&& !(ifs.any fun s=> !dh s)&&pW ⟨x.fl,x.name,x.super,ifs,fields,methods,init⟩&& !(fields.any fun f=> !jU f)&& !(methods.any fun f=> !gm f)&&eE false init):=fun h=>by rw[iA,h];rfl
  refine⟨fun b=>ab ((aP hI (fun V=>rfl)).mono ?_),fun b=>⟨fun c=> ?_,fun c=> ?_⟩⟩
  ·clear hI;rintro r H' m1 aN ⟨l1,rfl,rfl⟩;simp only[go_sem,Cc.cs];have g:hasB x.fl 512=true:=by rw[hasB,dr b];rfl
   refine⟨fun c=> ?_,fun c=> ?_⟩
   ·refine⟨l1,?_⟩;rw[iA,oX,ah g,c];rfl
   ·have hH:oX ⟨x.fl,x.name,x.super,ifs,fields,methods,init⟩=true:=by rw[oX,ah g,c]
    refine⟨h1,fun _=>h2,fun c=>ab ((hS m1 l1).mono ?_),fun c=> ?_⟩
    ·clear hS;rintro r H' n1 xq ⟨k1,rfl,rfl⟩;simp only[go_sem,Cc.cs];have hN:mG ⟨x.fl,x.name,x.super,ifs,fields,methods,init⟩=true:=by clear hF hM hB;simp only[mG,c.1.1,c.1.2,eH (by omega:ifs.length<=8)];rfl
     refine⟨fun d=>ab ((hF n1 (aa l1 k1)).mono ?_),fun d=> ?_⟩
     ·clear hF;rintro r H' n2 Hm ⟨k2,rfl,rfl⟩;simp only[go_sem,Cc.cs];have hL:pW ⟨x.fl,x.name,x.super,ifs,fields,methods,init⟩=true:=by clear hM hB;simp only[pW,eH (by omega:fields.length<=64),eH (by omega:methods.length<=64)];rfl
      refine⟨fun e=>ab ((hM n2 (aa (aa l1 k1) k2)).mono ?_),fun e=> ?_⟩
      ·clear hM;rintro r H' n3 VI ⟨k3,rfl,rfl⟩;simp only[go_sem,Cc.cs];refine⟨fun f=>ab ((hB n3 (aa (aa (aa l1 k1) k2) k3)).mono ?_),fun f=> ?_⟩
       ·clear hB;rintro r H' n4 VH ⟨k4,rfl,rfl⟩;simp only[go_sem,Cc.cs];refine⟨aa (aa (aa (aa l1 k1) k2) k3) k4,?_⟩;rw[e0 hH,hN,d.1.1,hL,e,f];rfl
       ·refine⟨aa (aa (aa l1 k1) k2) k3,?_⟩;rw[e0 hH,f];simp
      ·refine⟨aa (aa l1 k1) k2,?_⟩;rw[e0 hH,e];simp
     ·refine⟨aa l1 k1,?_⟩;clear hF hM hB;rw[e0 hH];rcases d with (d |d) |d
      ·rw[d];simp
      ·simp only[pW,dr (by omega:¬fields.length<=64),Bool.false_and,Bool.and_false]
      ·simp only[pW,dr (by omega:¬methods.length<=64),Bool.false_and,Bool.and_false]
    ·clear hS hF hM hB;refine⟨l1,?_⟩;rw[e0 hH];rcases c with (c |c) |c
     ·simp only[mG,c,Bool.false_and]
     ·simp only[mG,c,Bool.false_and,Bool.and_false]
     ·simp only[mG,dr (by omega:¬ifs.length<=8),Bool.false_and,Bool.and_false]
  ·clear hI hM hF hS hB;have g:¬hasB x.fl 512=true:=by rw[hasB,eH b];decide
   have:oX ⟨x.fl,x.name,x.super,ifs,fields,methods,init⟩=false:=by
    rw[oX,af g];rcases c with c |c
    ·simp [c]
    ·simp [hasB,c]
   rw[iA,this];rfl
  ·clear hI;have g:¬hasB x.fl 512=true:=by rw[hasB,eH b];decide
   have hH:oX ⟨x.fl,x.name,x.super,ifs,fields,methods,init⟩=true:=by
    clear hM hF hS hB;rw[oX,af g];rcases c with ⟨c1,c |c⟩<;>simp [hasB,c1,c]
   clear c;refine⟨h1,fun _=>h2,fun c=>ab ((hS m (.inl rfl:ae m m)).mono ?_),fun c=> ?_⟩
   ·clear hS;rintro r H' n1 xq ⟨k1,rfl,rfl⟩;simp only[go_sem,Cc.cs];have hN:mG ⟨x.fl,x.name,x.super,ifs,fields,methods,init⟩=true:=by clear hF hM hB;simp only[mG,c.1.1,c.1.2,eH (by omega:ifs.length<=8)];rfl
    refine⟨fun d=>ab ((hF n1 (aa (.inl rfl:ae m m) k1)).mono ?_),fun d=> ?_⟩
    ·clear hF;rintro r H' n2 Hm ⟨k2,rfl,rfl⟩;simp only[go_sem,Cc.cs];have hL:pW ⟨x.fl,x.name,x.super,ifs,fields,methods,init⟩=true:=by clear hM hB;simp only[pW,eH (by omega:fields.length<=64),eH (by omega:methods.length<=64)];rfl
     refine⟨fun e=>ab ((hM n2 (aa (aa (.inl rfl:ae m m) k1) k2)).mono ?_),fun e=> ?_⟩
     ·clear hM;rintro r H' n3 VI ⟨k3,rfl,rfl⟩;simp only[go_sem,Cc.cs];refine⟨fun f=>ab ((hB n3 (aa (aa (aa (.inl rfl:ae m m) k1) k2) k3)).mono ?_),fun f=> ?_⟩
      ·clear hB;rintro r H' n4 VH ⟨k4,rfl,rfl⟩;simp only[go_sem,Cc.cs];refine⟨aa (aa (aa (aa (.inl rfl:ae m m) k1) k2) k3) k4,?_⟩;rw[e0 hH,hN,d.1.1,hL,e,f];rfl
      ·refine⟨aa (aa (aa (.inl rfl:ae m m) k1) k2) k3,?_⟩;rw[e0 hH,f];simp
     ·refine⟨aa (aa (.inl rfl:ae m m) k1) k2,?_⟩;rw[e0 hH,e];simp
    ·refine⟨aa (.inl rfl:ae m m) k1,?_⟩;clear hF hM hB;rw[e0 hH];rcases d with (d |d) |d
     ·rw[d];simp
     ·simp only[pW,dr (by omega:¬fields.length<=64),Bool.false_and,Bool.and_false]
     ·simp only[pW,dr (by omega:¬methods.length<=64),Bool.false_and,Bool.and_false]
   ·clear hS hF hM hB;rw[e0 hH];rcases c with (c |c) |c
    ·simp only[mG,c,Bool.false_and]
    ·simp only[mG,c,Bool.false_and,Bool.and_false]
    ·simp only[mG,dr (by omega:¬ifs.length<=8),Bool.false_and,Bool.and_false]
def yp:Ex->Nat | .mk _ _ _ _ _ args=>kW args
mutual
def pU:St->Nat
 | .mk k _ _ tg ex body alt=>max (max (ef body) (ef alt)) (max (bU tg) (if k=11 then yp ex else bU ex))
def ef:List St->Nat
 |[]=>0
 |e::r=>max (pU e) (ef r)
end
theorem Br:∀{l:List St} {k:Nat} (hk:k<l.length),dy (l.take (k+1))=max (dy (l.take k)) (eT l[k])
 |[],_,hk=>absurd hk (Nat.not_lt_zero _)
 |e::r,0,_=>by simp [dy]
 |e::r,k+1,hk=>by
  have:=Br (l:=r) (k:=k) (by simpa using hk);simp only[List.take_succ_cons,dy,this,List.getElem_cons_succ,Nat.max_assoc]
theorem Nx:∀{l:List St} {k:Nat} (hk:k<l.length),ef (l.take (k+1))=max (ef (l.take k)) (pU l[k])
 |[],_,hk=>absurd hk (Nat.not_lt_zero _)
 |e::r,0,_=>by simp [ef]
 |e::r,k+1,hk=>by
  have:=Nx (l:=r) (k:=k) (by simpa using hk);simp only[List.take_succ_cons,ef,this,List.getElem_cons_succ,Nat.max_assoc]
theorem EO:∀(l:List St) (k:Nat),dy (l.take k)<=dy l
 |[],k=>by simp
 |e::r,0=>by simp [dy]
 |e::r,k+1=>by
  have:=EO r k;simp only[List.take_succ_cons,dy];omega
theorem IY:∀(l:List St) (k:Nat),ef (l.take k)<=ef l
 |[],k=>by simp
 |e::r,0=>by simp [ef]
 |e::r,k+1=>by
  have:=IY r k;simp only[List.take_succ_cons,ef];omega
theorem Oe:∀{l:List St} {e:St},e∈l->pU e<=ef l
 |[],e,he=>by cases he
 |x::r,e,he=>by
  simp only[ef];rcases List.mem_cons.1 he with rfl |he
  ·omega
  ·have:=Oe he;omega
def DB (args:List SV) (m:Mem) (v1 v2:Nat):Prop:=FnH Tryz.prog 143 args ⟨[],[]⟩ m fun r H' m' =>ae m m' /\H' =⟨[],[]⟩/\r= .tup [.v (.int .i64 v1),.v (.int .i64 v2)]
structure DepN where
 b1:Nat
 b2:Nat
 a1:Nat
 a2:Nat
 t:Nat
 x:Nat
 dl:Nat->Nat
structure DepIt (X:Sd) (N:DepN) (mm:Mem):Prop where
 body:∀m',ae mm m' ->DB [.v (.slice X.a X.l X.cp)] m' N.b1 N.b2
 alt:∀m',ae mm m' ->DB [.v (.slice X.b X.l2 X.cp2)] m' N.a1 N.a2
 tg:∀m',ae mm m' ->aK 34 [.v (.agg ⟨X.tg.cs⟩)] m' (.int .i64 N.t)
 ex:¬X.k=11->∀m',ae mm m' ->aK 34 [.v (.agg ⟨X.ex.cs⟩)] m' (.int .i64 N.x)
 arg:X.k=11->∀m',ae mm m' ->∀j,j<X.ex.l->∃(Y:Nd) (d:Nat),(Rd m' (cO X.ex.a (j * 8)) Y.cs/\X.ex.a≠none)/\aK 34 [.v (.agg ⟨Y.cs⟩)] m' (.int .i64 d)/\N.dl (j+1)=max (N.dl j) d
 dl0:N.dl 0=0
 ln:X.ex.l<=aq
theorem afM {h:Nat} (ih:∀h',h' <h->∀(l:List St) (a:Option Addr) (n c:Nat) (xs:List Value) (m:Mem),dy l<=h' ->h' <=aq->ef l<=aq->n=l.length->n<=aq->aX m a n 23 xs->bS m l xs->DB [.v (.slice a n c)] m (dy l) (ef l))
  {e:St} {cs:List Value} {mm:Mem} (hd:eT e<=h) (hb:h<=aq) (hx:pU e<=aq) (aT:eX mm e cs):
  ∃(X:Sd) (N:DepN),cs=X.cs/\DepIt X N mm/\eT e=max N.b1 N.a1+1/\pU e=max (max N.b2 N.a2) (max N.t (if X.k=11 then N.dl X.ex.l else N.x)):=by
 cases e with
 |mk k nm ty tg ex body alt=>
  obtain⟨X,rfl,rfl,rfl,rfl,dn,hex,hl,ba,ct,eb,au,xs,ys,r1,r2,s1,s2⟩:=rB aT;simp only[eT] at hd;simp only[pU] at hx;cases ex with
  |mk xk xn xss xc xty args=>
   obtain⟨y,hy,h1,h2,h3,h4,h5,h6,h7,h8,zs,r3,s3⟩:=rD hex;have hy:=Ar hy;subst hy;refine⟨X,⟨dy body,ef body,dy alt,ef alt,bU tg,bU (.mk xk xn xss xc xty args),fun j=>kW (args.take j)⟩,rfl,⟨fun m' hle=> ?_,fun m' hle=> ?_,fun m' hle=> ?_,fun hk m' hle=> ?_,fun hk m' hle j hj=> ?_,by simp [kW],h8⟩,by simp only[eT],?_⟩
   ·exact ih (dy body) (by omega) body X.a X.l X.cp xs m' (av _) (by omega) (by omega) hl (by rw[hl];exact au.l) (ay hle r1) (dw hle s1)
   ·exact ih (dy alt) (by omega) alt X.b X.l2 X.cp2 ys m' (av _) (by omega) (by omega) ct (by rw[ct];exact au.l2) (ay hle r2) (dw hle s2)
   ·exact BS _ tg _ m' (av _) (by omega) (bq hle dn)
   ·rw[af hk] at hx;exact BS _ _ _ m' (av _) (by omega) (bq hle hex)
   ·rw[ah hk] at hx;simp only[yp] at hx;have Mv:j<args.length:=by omega
    have KI:=bq hle (rQ s3 Mv);obtain⟨Y,hY⟩:=mC KI;have bW:=dH (ay hle r3) hj;rw[hY] at bW KI;exact⟨Y,bU args[j],bW,BS _ _ _ m' (av _) (by have:=zQ Mv;omega) KI,EN Mv⟩
   ·simp only[pU,yp];rw[fj (by omega:args.length<=X.ex.l)]
theorem Og:∀(h:Nat) (l:List St) (a:Option Addr) (n c:Nat) (xs:List Value) (m:Mem),dy l<=h->h<=aq->ef l<=aq->n=l.length->n<=aq->aX m a n 23 xs->bS m l xs->DB [.v (.slice a n c)] m (dy l) (ef l):=by
 intro h;induction h using Nat.strongRecOn with
 |ind h ih=>
  intro l a n c xs m hd hb hx hl hn hr hs;refine aR aB Tryz.func143 ?_
  ·simp only[go_sem];refine dA aB (fun x:Nat×Int×Int×Mem=>⟨[⟨4,[],.v (.int .i64 x.2.1)⟩,⟨5,[],.v (.int .i64 x.2.2.1)⟩,⟨14,[],.v (.slice a n c)⟩,⟨15,[],.v (.int .i64 n)⟩,⟨16,[],.v (.int .i64 x.1)⟩],[],[],[],0,x.2.2.2⟩)
    (fun x=>ae m x.2.2.2/\x.1<=n/\x.2.1=dy (l.take x.1)/\x.2.2.1=ef (l.take x.1)) (fun x=>n - x.1) (0,0,0,m) (fun _ _=>av _) (fun x hx=>hx.1) ?_ ?_ ?_
   ·simp only[go_sem];rfl
   ·exact⟨.inl rfl,aD _,by simp [dy],by simp [ef]⟩
   ·rintro⟨k,s,e,mm⟩ ⟨h1,h2,h3,h4⟩;simp only at h1 h2 h3 h4;have hy:∀(hk:k<l.length),∃(X:Sd) (N:DepN),(Rd mm (cO a (k * 23)) X.cs/\a≠none)/\DepIt X N mm/\eT l[k]=max N.b1 N.a1+1/\pU l[k]=max (max N.b2 N.a2) (max N.t (if X.k=11 then N.dl X.ex.l else N.x)):=fun hk=>by
     have aT:=td h1 (qw hs hk);have q1:=my (List.getElem_mem hk);have q2:=Oe (List.getElem_mem hk);obtain⟨X,N,hX,hD,e1,e2⟩:=afM ih (by omega) hb (by omega) aT;have bW:=dH (ay h1 hr) (by omega:k<n);rw[hX] at bW;exact⟨X,N,bW,hD,e1,e2⟩
    have dF:=EO l k;have fQ:=IY l k;have nc:∀(hk:k<l.length),dy (l.take (k+1))=max (dy (l.take k)) (eT l[k])/\dy (l.take (k+1))<=dy l:=fun hk=>⟨Br hk,EO l _⟩
    have sQ:∀(hk:k<l.length),ef (l.take (k+1))=max (ef (l.take k)) (pU l[k])/\ef (l.take (k+1))<=ef l:=fun hk=>⟨Nx hk,IY l _⟩
    clear ih;simp only[go_sem];refine⟨fun aw=> ?_,fun cg=> ?_⟩
    ·have hk:k<l.length:=by clear hy;omega
     have g3:=nc hk;have g4:=sQ hk;refine Exists.elim (hy hk) fun X bt=>Exists.elim bt fun N ju=>⟨⟨by clear hy bt ju;omega,aw,ju.1.2⟩,X.cs,⟨ju.1.1,rfl⟩,?_⟩
     clear hy bt;have hD:=ju.2.1;have e1:=ju.2.2.1;have e2:=ju.2.2.2;rw[e1] at g3;rw[e2] at g4;clear ju e1 e2;simp only[go_sem,Sd.cs,Nd.cs];refine ab ((hD.body mm (.inl rfl)).mono ?_);rintro r H' n1 xq ⟨k1,rfl,rfl⟩;simp only[go_sem,Sd.cs,Nd.cs];refine ab ((hD.alt n1 k1).mono ?_);rintro r H' n2 Hm ⟨k2,rfl,rfl⟩;have Vo:=aa k1 k2;simp only[go_sem,Sd.cs,Nd.cs];refine⟨by clear hD;unfold aF;simp only[aq] at hb;split<;>omega,by kernel_rfl,bo ((aP (hD.tg n2 Vo) (fun V=>rfl)).mono ?_)⟩;rintro r H' n3 VI ⟨k3,rfl,rfl⟩;have Ha:=aa Vo k3;simp only[go_sem,Sd.cs,Nd.cs];have hS:(if s<1+(if(N.b1:Int)<N.a1 then(N.a1:Int) else N.b1) then 1+(if(N.b1:Int)<N.a1 then(N.a1:Int) else N.b1) else s)=((dy (l.take (k+1)):Nat):Int):=by
      clear hD nc sQ;rw[g3.1,h3];split<;>split<;>omega
     have jR:mx (mx (mx e N.b2) N.a2) N.t=((max (max (max (ef (l.take k)) N.b2) N.a2) N.t:Nat):Int):=by
      clear hD nc sQ hS;simp only[mx,h4]
      (repeat' split)<;>omega
     refine Exists.elim (Exists.intro (max (max (max (ef (l.take k)) N.b2) N.a2) N.t) rfl:∃B0:Nat,max (max (max (ef (l.take k)) N.b2) N.a2) N.t=B0) fun B0 hB=> ?_
     rw[hB] at jR;refine⟨fun Dv=> ?_,fun Dv=> ?_⟩
     ·refine ab ((aP (hD.ex Dv n3 Ha) (fun V=>rfl)).mono ?_);clear hD;rintro r H' n4 VH ⟨k4,rfl,rfl⟩;simp only[go_sem,Sd.cs,Nd.cs];rw[af Dv] at g4;refine⟨by unfold aF;simp only[aq] at hn;omega,(k+1,((dy (l.take (k+1)):Nat):Int),((ef (l.take (k+1)):Nat):Int),n4),⟨⟨hS,?_,by simp⟩,.inl rfl⟩,⟨aa h1 (aa Ha k4),by simp only;omega,rfl,rfl⟩,by simp only;omega⟩;simp only;rw[jR,g4.1];clear hS jR nc sQ g3 h3 h4;split<;>omega
     ·rw[ah Dv] at g4;refine dA aB (fun x' :Nat×Int×Mem=>⟨[⟨4,[],.v (.int .i64 (dy (l.take (k+1)):Nat))⟩,⟨5,[],.v (.int .i64 x'.2.1)⟩,⟨14,[],.v (.slice a n c)⟩,⟨15,[],.v (.int .i64 n)⟩,⟨16,[],.v (.int .i64 k)⟩,⟨55,[],.v (.slice X.ex.a X.ex.l X.ex.cp)⟩,⟨56,[],.v (.int .i64 X.ex.l)⟩,⟨57,[],.v (.int .i64 x'.1)⟩],[],[],[],1,x'.2.2⟩)
       (fun x' =>ae n3 x'.2.2/\x'.1<=X.ex.l/\x'.2.1=((max B0 (N.dl x'.1):Nat):Int)) (fun x' =>X.ex.l - x'.1) (0,(B0:Int),n3) (fun _ _=>av _) (fun x hx=>hx.1) ?_ ?_ ?_
      ·simp only[go_sem];exact⟨hS,jR,rfl⟩
      ·exact⟨.inl rfl,aD _,by rw[hD.dl0,Nat.max_zero]⟩
      ·rintro⟨j,e',mj⟩ ⟨q1,q2,q3⟩;simp only at q1 q2 q3;have hz:=hD.arg Dv mj (aa Ha q1) j;have Be:=hD.ln;clear hD;simp only[go_sem];refine⟨fun Lp=> ?_,fun apn=> ?_⟩
       ·refine Exists.elim (hz (by clear hz;omega)) fun Y ud=>Exists.elim ud fun dj vJ=>⟨⟨by clear hz ud vJ;omega,Lp,vJ.1.2⟩,Y.cs,⟨vJ.1.1,rfl⟩,?_⟩
        clear hz ud;have V4:=vJ.2.1;have hdj:=vJ.2.2;clear vJ;simp only[go_sem,Nd.cs];refine ab ((aP V4 (fun V=>rfl)).mono ?_);clear V4;rintro r H' n5 hn5 ⟨k5,rfl,rfl⟩;simp only[go_sem];refine⟨by unfold aF;simp only[aq] at Be;omega,(j+1,((max B0 (N.dl (j+1)):Nat):Int),n5),⟨⟨?_,by simp⟩,.inl rfl⟩,⟨aa q1 k5,by simp only;omega,by simp only[Nat.max_def]⟩,by simp only;omega⟩;simp only;rw[hdj,q3];clear hS jR nc sQ g3 g4 h3 h4 hB
        (repeat' split)<;>omega
       ·clear hz;have hj:j=X.ex.l:=by omega
        refine⟨by unfold aF;simp only[aq] at hn;omega,(k+1,((dy (l.take (k+1)):Nat):Int),((ef (l.take (k+1)):Nat):Int),mj),⟨⟨rfl,?_,by simp⟩,.inl rfl⟩,⟨aa h1 (aa Ha q1),by simp only;omega,rfl,rfl⟩,by simp only;omega⟩;simp only;rw[q3,g4.1,hj];clear hS jR nc sQ g3 h3 h4
        (repeat' split)<;>omega
    ·clear hy nc sQ;have:l.take k=l:=fj (by omega);rw[this] at h3 h4;rw[h3,h4];exact⟨h1,rfl⟩
def kI:List Md->Nat
 |[]=>0
 |e::r=>max (dy e.body) (kI r)
def kJ:List Md->Nat
 |[]=>0
 |e::r=>max (ef e.body) (kJ r)
def tH (d:Cd):Bool:=decide (24<max (dy d.init) (kI d.methods))||decide (24<max (ef d.init) (kJ d.methods))
structure CdB (d:Cd):Prop where
 s:dy d.init<=aq
 e:ef d.init<=aq
 ms:kI d.methods<=aq
 me:kJ d.methods<=aq
theorem OV:∀{l:List Md} {k:Nat} (hk:k<l.length),kI (l.take (k+1))=max (kI (l.take k)) (dy l[k].body)
 |[],_,hk=>absurd hk (Nat.not_lt_zero _)
 |e::r,0,_=>by simp [kI]
 |e::r,k+1,hk=>by
  have:=OV (l:=r) (k:=k) (by simpa using hk);simp only[List.take_succ_cons,kI,this,List.getElem_cons_succ,Nat.max_assoc]
theorem OW:∀{l:List Md} {k:Nat} (hk:k<l.length),kJ (l.take (k+1))=max (kJ (l.take k)) (ef l[k].body)
 |[],_,hk=>absurd hk (Nat.not_lt_zero _)
 |e::r,0,_=>by simp [kJ]
 |e::r,k+1,hk=>by
  have:=OW (l:=r) (k:=k) (by simpa using hk);simp only[List.take_succ_cons,kJ,this,List.getElem_cons_succ,Nat.max_assoc]
theorem Qy:∀{l:List Md} {e:Md},e∈l->dy e.body<=kI l
 |[],e,he=>by cases he
 |x::r,e,he=>by
  simp only[kI];rcases List.mem_cons.1 he with rfl |he
  ·omega
  ·have:=Qy he;omega
theorem Qz:∀{l:List Md} {e:Md},e∈l->ef e.body<=kJ l
 |[],e,he=>by cases he
 |x::r,e,he=>by
  simp only[kJ];rcases List.mem_cons.1 he with rfl |he
  ·omega
  ·have:=Qz he;omega
theorem ZD (d:Cd) (cs:List Value) (m:Mem) (hB:CdB d) (h:jL m d cs):aK 55 [.v (.agg ⟨cs⟩)] m (.bool (tH d)):=by
 obtain⟨fl,name,super,ifs,fields,methods,init⟩:=d;obtain⟨x,⟨rfl,rfl,rfl,rfl⟩,⟨dv,hic,gC,hfc,hml,hmc,fG,hsc⟩,au,r1,r2,xs,ys,r3,s3,r4,s4⟩:=h;simp only at dv gC hml fG r1 r2 s3 s4;obtain⟨b1,b2,b3,b4⟩:=hB;simp only at b1 b2 b3 b4;have hI:=Og (dy init) init x.sa x.sl x.sc ys m (av _) b1 b2 fG (by rw[fG];exact au.l) r4 s4;have Mq:x.ml<=aq:=by rw[hml];exact au.ml
 refine enter gY aB Tryz.func55 rfl rfl (by kernel_rfl) rfl ?_ ?_
 ·simp only[go_sem,Cc.cs]
 ·simp only[go_sem,Cc.cs];refine ab (hI.mono ?_);clear hI;rintro r H' m1 aN ⟨l1,rfl,rfl⟩;simp only[go_sem,Cc.cs];refine dA aB (fun x' :Nat×Int×Int×Mem=>⟨[⟨3,[],.v (.int .i64 x'.2.1)⟩,⟨4,[],.v (.int .i64 x'.2.2.1)⟩,⟨16,[],.v (.slice x.ma x.ml x.mc)⟩,⟨17,[],.v (.int .i64 x.ml)⟩,⟨18,[],.v (.int .i64 x'.1)⟩],[],[],[],1,x'.2.2.2⟩)
   (fun x' =>ae m1 x'.2.2.2/\x'.1<=x.ml/\x'.2.1=max (dy init) (kI (methods.take x'.1))/\x'.2.2.1=max (ef init) (kJ (methods.take x'.1))) (fun x' =>x.ml - x'.1) (0,dy init,ef init,m1) (fun _ _=>av _) (fun x hx=>hx.1) ?_ ?_ ?_
  ·simp only[go_sem];rfl
  ·exact⟨.inl rfl,aD _,by simp [kI],by simp [kJ]⟩
  ·rintro⟨k,s,e,mm⟩ ⟨h1,h2,h3,h4⟩;simp only at h1 h2 h3 h4;have hy:∀(hk:k<methods.length),∃(X:Mc) (v1 v2:Nat),(Rd mm (cO x.ma (k * 8)) X.cs/\x.ma≠none)/\DB [.v (.slice X.a X.l X.cp)] mm v1 v2/\(kI (methods.take (k+1))=max (kI (methods.take k)) v1/\kJ (methods.take (k+1))=max (kJ (methods.take k)) v2)/\v1<=aq/\v2<=aq:=fun hk=>by
    have aT:=qp (aa l1 h1) (nZ s3 hk);have q1:=Qy (List.getElem_mem hk);have q2:=Qz (List.getElem_mem hk);have bW:=dH (ay (aa l1 h1) r3) (by omega:k<x.ml);have t1:=OV hk;have t2:=OW hk;obtain⟨X,⟨e1,_⟩,⟨e2,e3,e4,e5⟩,vK,_,zs,r5,s5⟩:=aa1 aT;rw[e1] at bW;exact⟨X,_,_,bW,Og _ _ X.a X.l X.cp zs mm (av _) (by omega) (by omega) e4 (by rw[e4];exact vK.l) r5 s5,⟨t1,t2⟩,by omega,by omega⟩
   simp only[go_sem];refine⟨fun aw=> ?_,fun cg=> ?_⟩
   ·have hk:k<methods.length:=by clear hy;omega
    refine Exists.elim (hy hk) fun X fW=>Exists.elim fW fun v1 fF=>Exists.elim fF fun v2 xj=>⟨⟨by clear hy fW fF xj;omega,aw,xj.1.2⟩,X.cs,⟨xj.1.1,rfl⟩,?_⟩
    clear hy fW fF;have hD:=xj.2.1;have e1:=xj.2.2.1.1;have e2:=xj.2.2.1.2;clear xj;simp only[go_sem,Mc.cs];refine ab (hD.mono ?_);clear hD;rintro r H' m2 aH ⟨l2,rfl,rfl⟩;simp only[go_sem];refine⟨by unfold aF;simp only[aq] at Mq;omega,(k+1,((max (dy init) (kI (methods.take (k+1))):Nat):Int),((max (ef init) (kJ (methods.take (k+1))):Nat):Int),m2),⟨⟨?_,?_,by simp⟩,.inl rfl⟩,⟨aa h1 l2,by simp only;omega,by simp only[Nat.max_def],by simp only[Nat.max_def]⟩,by simp only;omega⟩
    ·simp only;rw[e1,h3];clear h3 h4 e1 e2
     (repeat' split)<;>omega
    ·simp only;rw[e2,h4];clear h3 h4 e1 e2
     (repeat' split)<;>omega
   ·clear hy;have:methods.take k=methods:=fj (by omega);rw[this] at h3 h4;have e0:tH ⟨x.fl,x.name,x.super,ifs,fields,methods,init⟩=(decide (24<max (dy init) (kI methods))||decide (24<max (ef init) (kJ methods))):=rfl;refine⟨aa l1 h1,?_⟩;rw[e0];congr 1
    ·rw[decide_eq_decide];omega
    ·rw[decide_eq_decide];omega
def jx {α:Type} [BEq α]:List α->List α->Bool
 |_,[]=>false
 |seen,a::r=>seen.contains a||jx (seen++[a]) r
def nL (d:Cd):Bool:=jx [] d.ifs||jx [] (d.fields.map (·.name))||jx [] (d.methods.map fun m=>(m.name,m.params.length))
def vA (l:List (List UInt8)):List Value:=(l.map fun s=>[.string (bs s),.bool true]).flatten
theorem BA:∀(l:List Value),nq (l.map .v)=some l
 |[]=>rfl
 |x::r=>by simp [nq,plain,BA r]
theorem FG {n:Nat} {vc:List Vc}:∀(l:List Value),fO n vc (l.map .v)=True
 |[]=>rfl
 |x::r=>by simp [fO,mf,FG r]
theorem S0 {a b:List UInt8}:(Value.string (bs a)=Value.string (bs b))=(a=b):=propext ⟨fun h=>Au (Value.string.inj h),fun h=>by rw[h]⟩
theorem EM (s:List UInt8):∀(l:List (List UInt8)),DP (mP (vA l) (.string (bs s)))=l.contains s
 |[]=>rfl
 |a::r=>by
  have e:vA (a::r)= .string (bs a):: .bool true::vA r:=rfl;rw[e,mP,S0,List.contains_cons];by_cases h:a=s
  ·rw[ah h];subst h;simp [DP]
  ·rw[af h,EM s r,(beq_eq_false_iff_ne.2 fun e=>h e.symm:(s==a)=false),Bool.false_or]
theorem Jf (s:List UInt8):∀(l:List (List UInt8)),l.contains s=false->wN (vA l) (.string (bs s)) (.bool true)=vA (l++[s])
 |[],_=>rfl
 |a::r,h=>by
  have e:vA (a::r)= .string (bs a):: .bool true::vA r:=rfl;rw[List.contains_cons,Bool.or_eq_false_iff] at h;have hn:¬a=s:=fun e=>(beq_eq_false_iff_ne.1 h.1) e.symm
  rw[e,wN,S0,af hn,Jf s r h.2];rfl
abbrev wX:=List UInt8×Nat
def tR (k:wX):Value:= .agg ⟨[.string (bs k.1),.int .i64 k.2]⟩
theorem ae2 (k:wX):gW 1000001 (tR k)=True:=Tr _ _
def wV (l:List wX):List Value:=(l.map fun k=>[tR k,.bool true]).flatten
theorem Sg {a b:wX}:(tR a=tR b)=(a=b):=propext ⟨fun h=>by
 obtain⟨a1,a2⟩:=a;obtain⟨b1,b2⟩:=b;simp only[tR,Value.agg.injEq,Array.mk.injEq,List.cons.injEq,Value.string.injEq,Value.int.injEq,true_and,and_true] at h
 rw[Au h.1,show a2=b2 by omega],fun h=>by rw[h]⟩
theorem Oc (k:wX):∀(l:List wX),DP (mP (wV l) (tR k))=l.contains k
 |[]=>rfl
 |a::r=>by
  have e:wV (a::r)=tR a:: .bool true::wV r:=rfl;rw[e,mP,Sg,List.contains_cons];by_cases h:a=k
  ·rw[ah h];subst h;simp [DP]
  ·rw[af h,Oc k r,(beq_eq_false_iff_ne.2 fun e=>h e.symm:(k==a)=false),Bool.false_or]
theorem OG (k:wX):∀(l:List wX),l.contains k=false->wN (wV l) (tR k) (.bool true)=wV (l++[k])
 |[],_=>rfl
 |a::r,h=>by
  have e:wV (a::r)=tR a:: .bool true::wV r:=rfl;rw[List.contains_cons,Bool.or_eq_false_iff] at h;have hn:¬a=k:=fun e=>(beq_eq_false_iff_ne.1 h.1) e.symm
  rw[e,wN,Sg,af hn,OG k r h.2];rfl
theorem aca {m:Mem} {a:Option Addr} {n k c:Nat} {l:List (List UInt8)} (h:aX m a n 1 (strs l)) (hk:k<=n):aX m (if c=0 then a else a.map (·.add (0 * 1))) (k - 0) 1 (strs (l.take k)):=by
 have hl:=h.1;simp only[strs,List.length_map,Nat.mul_one] at hl;refine⟨by simp [strs];omega,fun h0=> ?_⟩;obtain⟨ad,rfl,hs,jJ⟩:=h.2 (by omega);have e:(if c=0 then some ad else(some ad).map (·.add (0 * 1)))=some ad:=by
  by_cases hc:c=0
  ·rw[ah hc]
  ·rw[af hc];rfl
 refine⟨ad,e,hs,fun j hj=> ?_⟩;obtain⟨h1,h2⟩:=jJ j (by omega);refine⟨?_,h2⟩;rw[h1];simp only[strs,List.getElem?_map,List.getElem?_take];rw[ah (by omega)]
theorem zY {α:Type} [BEq α] {l:List α} {k:Nat} (hk:k<l.length):jx (l.take k) (l.drop k)=((l.take k).contains l[k]||jx (l.take (k+1)) (l.drop (k+1))):=by
 rw[List.drop_eq_getElem_cons hk,jx,List.take_succ_eq_append_getElem hk]
/-! The types of the maps. -/
theorem Ka:js Tryz.prog 90=(1000000,none):=by kernel_rfl
theorem CJ:js Tryz.prog 151=(1000001,none):=by kernel_rfl
theorem ac8:wH Tryz.prog 90:=
 Zp (k:=9) (e:=4) (by kernel_rfl) (by kernel_rfl) (by rw[Ka];decide) fun w=>by
  rw[Ka];exact On (i:=(Tryz.prog.info? 4).getD default) (by kernel_rfl) (by kernel_rfl) w
theorem J1:fC Tryz.prog 153=some [.v (.string (bs [])),.v (.int .i64 0)]:=by kernel_rfl
theorem aiv:eU Tryz.prog 153=some (some 2):=by kernel_rfl
theorem ai3:bZ Tryz.prog 153=2:=by kernel_rfl
theorem adr:dc Tryz.prog 153 0=some (0,none,1):=by kernel_rfl
theorem adq:dc Tryz.prog 153 1=some (1,none,1):=by kernel_rfl
theorem aik:oc Tryz.prog 153=true:=by kernel_rfl
theorem afK:vC Tryz.prog 153:=Sx J1 (by kernel_rfl) (by kernel_rfl) (by kernel_rfl) rfl (by kernel_rfl)
attribute [go_sem] Ka CJ J1 aiv ai3 adr adq aik
theorem aeB {a b:ByteArray}:tl a=tl b↔a=b:=⟨fun h=>by have:=congrArg bs h;rwa [kG,kG] at this,fun h=>by rw[h]⟩
theorem Su {s:ByteArray} {n:Int} (w:World):∀(es:List MapEntry) (i:Nat),(∀x∈es,∃a k,x.key= .agg ⟨[.string a,.int .i64 k]⟩)->
  (Instr.findAsking 153 (.agg ⟨[.string s,.int .i64 n]⟩) es i).run Tryz.prog w= .ok (xi es (.agg ⟨[.string s,.int .i64 n]⟩) i) w
 |[],_,_=>rfl
 |e::es,i,h=>by
  obtain⟨a,k,ha⟩:=h e (b6 ..);have ih:=Su (s:=s) (n:=n) w es (i+1) fun x hx=>h x (bR _ hx)
  have he:=(afK [.string s,.int .i64 n] [.string a,.int .i64 k] (decide (tl s=tl a)&&(decide (n=k)&&true)) w (.const undef) (.const undef) .eql rfl (by rw[J1];rfl)).2;simp only[Instr.findAsking,Sem.run_bind,ha,xi];rw[show(Array.mk [Value.string s,Value.int .i64 n])=[Value.string s,Value.int .i64 n].toArray from rfl,show(Array.mk [Value.string a,Value.int .i64 k])=[Value.string a,Value.int .i64 k].toArray from rfl,he];simp only[Result.andThen_ok];by_cases hk:(Value.agg [Value.string a,Value.int .i64 k].toArray=Value.agg [Value.string s,Value.int .i64 n].toArray)
  ·rw[ah (ha.trans hk)];simp only[Value.agg.injEq,Array.mk.injEq,List.cons.injEq,Value.string.injEq,Value.int.injEq,true_and,and_true] at hk;obtain⟨rfl,rfl⟩:=hk;simp
  ·rw[af fun e=>hk (ha.symm.trans e)];have:(decide (tl s=tl a)&&(decide (n=k)&&true))=false:=by
    simp only[Value.agg.injEq,Array.mk.injEq,List.cons.injEq,Value.string.injEq,Value.int.injEq,true_and,and_true] at hk;simp only[Bool.and_true,Bool.and_eq_false_iff,decide_eq_false_iff_not,aeB];by_cases h1:s=a
    ·exact .inr fun h2=>hk ⟨h1.symm,h2.symm⟩
    ·exact .inl h1
   rw[this];exact ih
theorem ac7:wH Tryz.prog 151:=by
 refine⟨by rw[CJ];decide,153,4,by kernel_rfl,fun w key em n hk=> ?_,fun w key es hk eo=> ?_,fun w=> ?_⟩
 ·rw[CJ] at hk;unfold gW at hk;rw[ah rfl] at hk;obtain⟨s,k,rfl⟩:=hk;have hu:Tryz.prog.underlying 153=some (.struct (Tryz.prog.fieldsOf 153)):=by kernel_rfl
  have qh:Tryz.prog.fieldsOf 153= #[(Tryz.prog.fieldsOf 153).getD 0 default,(Tryz.prog.fieldsOf 153).getD 1 default]:=by kernel_rfl
  rw[qh] at hu;have n0:((Tryz.prog.fieldsOf 153).getD 0 default).name= "name" :=by kernel_rfl
  have n1:((Tryz.prog.fieldsOf 153).getD 1 default).name= "params" :=by kernel_rfl
  have t0:((Tryz.prog.fieldsOf 153).getD 0 default).type=9:=by kernel_rfl
  have t1:((Tryz.prog.fieldsOf 153).getD 1 default).type=3:=by kernel_rfl
  have o0:((Tryz.prog.fieldsOf 153).getD 0 default).offset=0:=by kernel_rfl
  have o1:((Tryz.prog.fieldsOf 153).getD 1 default).offset=1:=by kernel_rfl
  have p0:=run_part_plain (P:=Tryz.prog) (w:=w) (e:=9) (by kernel_rfl) (xs:= #[.string s,.int .i64 k]) (off:=0) (v:= .string s) rfl;have p1:=run_part_plain (P:=Tryz.prog) (w:=w) (e:=3) (by kernel_rfl) (xs:= #[.string s,.int .i64 k]) (off:=1) (v:= .int .i64 k) rfl;have c0:=MapKept.run_checkKey (P:=Tryz.prog) (w:=w) (kt:=9) (d:= .string) (k:= .string s) (by kernel_rfl) (by simp [MapKept.IsKey]) em n;have c1:=MapKept.run_checkKey (P:=Tryz.prog) (w:=w) (kt:=3) (d:= .int .i64) (k:= .int .i64 k) (by kernel_rfl) (by simp [MapKept.IsKey]) em n;generalize (Tryz.prog.fieldsOf 153).getD 0 default=f0 at *
  generalize (Tryz.prog.fieldsOf 153).getD 1 default=f1 at *
  rw[Instr.checkKey];simp [run_underlying hu,Result.andThen,n0,n1,t0,t1,o0,o1,p0,p1,c0,c1]
 ·rw[CJ] at hk eo;unfold gW at hk eo;simp only[if_true] at hk eo;obtain⟨s,k,rfl⟩:=hk;rw[run_findKey_eq w (by kernel_rfl)];exact Su w es 0 eo
 ·rw[CJ];exact On (i:=(Tryz.prog.info? 4).getD default) (by kernel_rfl) (by kernel_rfl) w
attribute [go_sem] ac8 ac7
theorem abJ (d:Cd) (cs:List Value) (m:Mem) (h:jL m d cs):aK 56 [.v (.agg ⟨cs⟩)] m (.bool (nL d)):=by
 obtain⟨fl,name,super,ifs,fields,methods,init⟩:=d;obtain⟨x,⟨rfl,rfl,rfl,rfl⟩,⟨dv,hic,gC,hfc,hml,hmc,fG,hsc⟩,au,r1,r2,xs,ys,r3,s3,r4,s4⟩:=h;simp only at dv gC hml fG r1 r2 r3 s3 r4 s4;have VM:x.il<=aq:=by rw[dv];exact au.il
 have hfb:x.fn<=aq:=by rw[gC];exact au.fn
 have Mq:x.ml<=aq:=by rw[hml];exact au.ml
 clear r4 s4;refine enter gY aB Tryz.func56 rfl rfl (by kernel_rfl) rfl ?_ ?_
 ·simp only[go_sem,Cc.cs]
 ·simp only[go_sem,Cc.cs];refine ew aB (fun x' :Nat×Mem=>⟨[⟨1,[],.box 0 0⟩,⟨13,[],.v (.slice x.ia x.il x.ic)⟩,⟨14,[],.v (.int .i64 x.il)⟩,⟨15,[],.v (.int .i64 x'.1)⟩],[],[⟨0,59,x.cs.map .v⟩],[],1,x'.2⟩)
   (fun x' =>ae m x'.2/\x'.1<=x.il/\jx [] ifs=jx (ifs.take x'.1) (ifs.drop x'.1)) (fun x' =>x.il - x'.1) (0,m) (by kernel_rfl) (fun _ _=>av _) (fun x hx=>hx.1) (fun _=> ?_) ?_ ?_ ?_
  ·simp only[go_sem,Cc.cs]
  ·simp only[go_sem,Cc.cs];rfl
  ·exact⟨.inl rfl,aD _,rfl⟩
  ·rintro⟨k,mm⟩ ⟨h1,h2,h3⟩;simp only at h1 h2 h3;have hy:∀(hk:k<ifs.length),(Rd mm (cO x.ia k) [.string (bs ifs[k])]/\x.ia≠none)/\FnH Tryz.prog 144 [.v (LP x.ia x.ic 0 k 1),.v (.string (bs ifs[k]))] ⟨[],[]⟩ mm fun r H' _=>r= .v (.bool ((ifs.take k).contains ifs[k]))/\H' =⟨[],[]⟩:=fun hk=>
    ⟨Ac (ay h1 r1) hk,zy (ifs.take k) ifs[k] _ (k - 0) (x.ic - 0) mm (aca (ay h1 r1) (by omega)) (by simp only[aq] at VM;omega)⟩
   simp only[go_sem,Cc.cs];refine⟨fun aw=> ?_,fun cg=> ?_⟩
   ·have hk:k<ifs.length:=by clear hy;omega
    have bt:=hy hk;clear hy;refine⟨⟨by clear bt;omega,aw,bt.1.2⟩,_,bt.1.1,?_⟩;simp only[go_sem,Cc.cs];have kS:=zY hk;refine⟨⟨Int.le_refl _,by clear bt;omega,by clear bt;omega⟩,by kernel_rfl,bo (bt.2.mono ?_)⟩;clear bt;rintro r H' m2 aH ⟨rfl,rfl⟩;simp only[go_sem,Cc.cs];refine⟨fun hc=>⟨aa h1 (.inr aH),?_⟩,fun hc=>⟨by unfold aF;simp only[aq] at VM;omega,(k+1,m2),⟨by simp,.inl rfl⟩,⟨aa h1 (.inr aH),by simp only;omega,?_⟩,by simp only;omega⟩⟩
    ·simp only[nL,h3,kS,hc,Bool.true_or]
    ·simp only;rw[h3,kS,hc,Bool.false_or]
   ·clear hy;have hI:jx [] ifs=false:=by
     rw[h3,List.drop_of_length_le (by omega)];rfl
    refine ew aB (fun x' :Nat×Mem=>⟨[⟨1,[],.box 0 0⟩,⟨5,[],.mp 1⟩,⟨29,[],.v (.slice x.fa x.fn x.fc)⟩,⟨30,[],.v (.int .i64 x.fn)⟩,⟨31,[],.v (.int .i64 x'.1)⟩],[],[⟨1,1000000,(vA ((fields.map (·.name)).take x'.1)).map .v⟩,⟨0,59,x.cs.map .v⟩],[],2,x'.2⟩)
     (fun x' =>ae mm x'.2/\x'.1<=x.fn/\jx [] (fields.map (·.name))=jx ((fields.map (·.name)).take x'.1) ((fields.map (·.name)).drop x'.1)) (fun x' =>x.fn - x'.1) (0,mm) (by kernel_rfl) (fun _ _=>av _) (fun x hx=> ?_) (fun _=> ?_) ?_ ?_ ?_
    ·exact hx.1
    ·simp only[go_sem,Cc.cs,FG]
    ·simp only[go_sem,Cc.cs];exact⟨rfl,rfl⟩
    ·exact⟨.inl rfl,aD _,rfl⟩
    ·rintro⟨j,mj⟩ ⟨q1,q2,q3⟩;simp only at q1 q2 q3;have hy:∀(hj:j<fields.length),Rd mj (cO x.fa (j * 5)) (fields[j]).cs/\x.fa≠none:=fun hj=>by
      have:=dH (ay (aa h1 q1) r2) (by omega:j<x.fn);rw[oJ (f:=Fc.cs) (sz:=5) (fun _=>rfl) hj] at this;exact this
     simp only[go_sem,Cc.cs];refine⟨fun aw=> ?_,fun cg=> ?_⟩
     ·have hj:j<fields.length:=by omega
      refine⟨⟨by omega,aw,(hy hj).2⟩,(fields[j]).cs,⟨(hy hj).1,rfl⟩,?_⟩;simp only[go_sem,Cc.cs,Fc.cs,BA,EM];have oB:j<(fields.map (·.name)).length:=by simpa using hj
      have kS:=zY oB;have Dw:(fields.map (·.name))[j]=fields[j].name:=by simp
      rw[Dw] at kS;refine⟨fun hc=>⟨aa h1 q1,?_⟩,fun hc=>⟨by unfold aF;simp only[aq] at hfb;omega,(j+1,mj),⟨by simp,?_,.inl rfl⟩,⟨q1,by simp only;omega,?_⟩,by simp only;omega⟩⟩
      ·simp only[nL,q3,kS,hc,Bool.true_or,Bool.or_true]
      ·simp only;rw[Jf _ _ hc,List.take_succ_eq_append_getElem oB,Dw]
      ·simp only;rw[q3,kS,hc,Bool.false_or]
     ·have hF:jx [] (fields.map (·.name))=false:=by
       rw[q3,List.drop_of_length_le (by simp;omega)];rfl
      refine ew aB (fun x' :Nat×Mem=>⟨[⟨1,[],.box 0 0⟩,⟨8,[],.mp 2⟩,⟨45,[],.v (.slice x.ma x.ml x.mc)⟩,⟨46,[],.v (.int .i64 x.ml)⟩,⟨47,[],.v (.int .i64 x'.1)⟩],[],[⟨2,1000001,(wV ((methods.map fun m=>(m.name,m.params.length)).take x'.1)).map .v⟩,⟨0,59,x.cs.map .v⟩],[],3,x'.2⟩)
       (fun x' =>ae mj x'.2/\x'.1<=x.ml/\jx [] (methods.map fun m=>(m.name,m.params.length))=jx ((methods.map fun m=>(m.name,m.params.length)).take x'.1) ((methods.map fun m=>(m.name,m.params.length)).drop x'.1)) (fun x' =>x.ml - x'.1) (0,mj) (by kernel_rfl) (fun _ _=>av _) (fun x hx=>hx.1) (fun _=> ?_) ?_ ?_ ?_
      ·simp only[go_sem,Cc.cs,FG]
      ·simp only[go_sem,Cc.cs];exact⟨rfl,rfl⟩
      ·exact⟨.inl rfl,aD _,rfl⟩
      ·rintro⟨k,mk⟩ ⟨p1,p2,p3⟩;simp only at p1 p2 p3;have hy:∀(hj:k<methods.length),∃X:Mc,(Rd mk (cO x.ma (k * 8)) X.cs/\x.ma≠none)/\X.name=methods[k].name/\X.pl=methods[k].params.length:=fun hj=>by
        have aT:=qp (aa h1 (aa q1 p1)) (nZ s3 hj);have bW:=dH (ay (aa h1 (aa q1 p1)) r3) (by omega:k<x.ml);obtain⟨X,e1,e2,_⟩:=aT;rw[e1.1] at bW;exact⟨X,bW,e1.2.2.2.1,e2.1⟩
       simp only[go_sem,Cc.cs];refine⟨fun aw=> ?_,fun cg=> ?_⟩
       ·have hj:k<methods.length:=by omega
        refine Exists.elim (hy hj) fun X hX=>⟨⟨by clear hX hy;omega,aw,hX.1.2⟩,X.cs,⟨hX.1.1,rfl⟩,?_⟩
        clear hy;have sS:=hX.2.1;have j6:=hX.2.2;clear hX;have hkv:Value.agg ⟨[.string (bs X.name),.int .i64 X.pl]⟩=tR (X.name,X.pl):=rfl;simp only[go_sem,Cc.cs,Mc.cs,BA,hkv,ae2,Oc];have oB:k<(methods.map fun m=>(m.name,m.params.length)).length:=by simpa using hj
        have kS:=zY oB;have Dw:(methods.map fun m=>(m.name,m.params.length))[k]=(X.name,X.pl):=by simp [sS,j6]
        rw[Dw] at kS;refine⟨fun hc=>⟨aa h1 (aa q1 p1),?_⟩,fun hc=>⟨by unfold aF;simp only[aq] at Mq;omega,(k+1,mk),⟨by simp,?_,.inl rfl⟩,⟨p1,by simp only;omega,?_⟩,by simp only;omega⟩⟩
        ·simp only[nL,p3,kS,hc,Bool.true_or,Bool.or_true]
        ·simp only;rw[OG _ _ hc,List.take_succ_eq_append_getElem oB,Dw]
        ·simp only;rw[p3,kS,hc,Bool.false_or]
       ·have hM:jx [] (methods.map fun m=>(m.name,m.params.length))=false:=by
         rw[p3,List.drop_of_length_le (by simp;omega)];rfl
        exact⟨aa h1 (aa q1 p1),by simp only[nL,hI,hF,hM,Bool.or_false]⟩
end Go.Proofs.YtimddhkipjedcaaGreatDoor.E

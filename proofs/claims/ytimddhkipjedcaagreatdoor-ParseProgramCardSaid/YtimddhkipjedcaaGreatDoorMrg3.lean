/- Several texts in one. -/
import Derived.Lib.ParseIntB
import Derived.Shelf.LaysC
import Derived.Shelf.Strconv.ParseIntPublic10
import Derived.Laws.StructEq
import Derived.Test.YtimddhkipjedcaaGreatDoorMrg2
set_option linter.unusedSimpArgs false
set_option linter.unusedVariables false
set_option maxHeartbeats 4000000
set_option maxRecDepth 20000
namespace Go.Proofs.YtimddhkipjedcaaGreatDoor.E
open Go Go.RowKit
def cC (first:Bool):List UInt8->Nat
 |[]=>0
 |c::r=>if dm c.toNat||(!first&&dF c.toNat) then 1+cC false r else 0
theorem CM (c:Int) (m:Mem):FnH Tryz.prog 114 [.v (.int .u8 c)] ⟨[],[]⟩ m fun r H' _=>r= .v (.bool (dm c))/\H' =⟨[],[]⟩:=by
 refine aL nu Tryz.func114 ?_
 ·simp only[go_sem];rfl
theorem CU (c:Int) (m:Mem):FnH Tryz.prog 116 [.v (.int .u8 c)] ⟨[],[]⟩ m fun r H' _=>r= .v (.bool (dF c))/\H' =⟨[],[]⟩:=by
 refine aL nu Tryz.func116 ?_
 ·simp only[go_sem];rfl
def Bs (s:List UInt8) (i:Int) (b:List UInt8):Bool:=decide ((b.length:Int)<=s.length - i)&&decide (((s.take (i+b.length).toNat).drop i.toNat)=b)
theorem Nw (s b:List UInt8) (i:Int) (m:Mem) (h0:0<=i) (h1:i<=s.length) (hs:s.length<=4611686018427387904) (hb:b.length<=1000):
  FnH Tryz.prog 113 [.v (.string (bs s)),.v (.int .i64 i),.v (.string (bs b))] ⟨[],[]⟩ m fun r H' _=>r= .v (.bool (Bs s i b))/\H' =⟨[],[]⟩:=by
 refine aL nu Tryz.func113 ?_
 ·simp only[go_sem];have:∀h:(b.length:Int)<=s.length - i,az (i+b.length):=fun h=>by unfold az;omega
  exact⟨by unfold az;omega,this,fun h=>⟨h0,by omega,by omega⟩,rfl⟩
def iS (s:List UInt8):Int×Bool:=
 match Lib.parseIntB 64 s with
 | .ok v=>(v,true)
 | .range=>(Lib.intSat 64 s,false)
 |_=>(0,false)
def dn:Bool->List UInt8->Nat
 |_,[]=>0
 |true,c::r=>if c.toNat=10 then 1+dn false r else 1+dn true r
 |false,c::r=>if c.toNat=9\/c.toNat=10\/c.toNat=13\/c.toNat=32 then 1+dn false r else if c.toNat=47/\r.head?.map UInt8.toNat=some 47 then 1+dn true r else 0
theorem wD:∀(b:Bool) (l:List UInt8),dn b l<=l.length
 |_,[]=>by simp [dn]
 |true,c::r=>by
  have h1:=wD false r;have h2:=wD true r;simp only[dn,cv];split<;>omega
 |false,c::r=>by
  have h1:=wD false r;have h2:=wD true r;simp only[dn,cv];split
  ·omega
  ·split<;>omega
theorem CS {a b:List UInt8}:iU a b=true↔∃r,a=b++r:=by
 simp only[iU,cY,gz];constructor
 ·rintro⟨_,h⟩;exact⟨a.drop b.length,by conv=>lhs;rw[<- List.take_append_drop b.length a,h]⟩
 ·rintro⟨r,rfl⟩;exact⟨by rw[bM];omega,by simp⟩
theorem HJ {c:UInt8} {n:Nat} (h:c.toNat=n):c=UInt8.ofNat n:=by rw[<- h];simp
theorem ym {c:UInt8} {r:List UInt8}:iU (c::r) [47,47]=true↔c.toNat=47/\r.head?.map UInt8.toNat=some 47:=by
 rw[CS];constructor
 ·rintro⟨t,h⟩;simp only[jD,List.nil_append,List.cons.injEq] at h;rw[h.1,h.2];simp
 ·rintro⟨h1,h2⟩;cases r with
  |nil=>simp at h2
  |cons d r=>
   simp only[List.head?_cons,Option.map_some,dy] at h2;exact⟨r,by rw[HJ h1,HJ h2];rfl⟩
theorem AW (c:UInt8):∀(l:List UInt8),Lib.indexByte l c<l.length
 |[]=>by simp [Lib.indexByte]
 |d::r=>by
  have:=AW c r;simp only[Lib.indexByte,cv];split
  ·omega
  ·split<;>omega
abbrev nF:Tk:=⟨0,[],0,0⟩
def pS (l:List UInt8):Option (List UInt8):=fB.find? fun o=>iU l o
def mD (c:UInt8):Int:=Lib.indexByte rp c
def dJ:List UInt8->Nat×Int×Bool
  |[]=>(0,0,false)
  |c::r=>if c.toNat=34\/c.toNat=92 then(1,c.toNat,true) else if c.toNat=110 then(1,10,true) else if c.toNat=120 then
      (match r with
        |h::l::_=>(3,IntKind.u8.wrap (16 * mD h+mD l),decide (0<=mD h)&&decide (0<=mD l))
        |_=>(0,0,false)) else(0,0,false)
def kG:Nat->List UInt8->Option (List UInt8×Nat)
  |0,_=>none
  |_+1,[]=>none
  |f+1,c::r=>if c.toNat=34 then some ([],1) else if c.toNat<32\/126<c.toNat then none else
      if c.toNat=92 then(if(dJ r).2.2=true then(kG f (r.drop (dJ r).1)).map fun x=>(UInt8.ofNat (dJ r).2.1.toNat::x.1,1+(dJ r).1+x.2) else none)
      else(kG f r).map fun x=>(c::x.1,1+x.2)
def jU (l:List UInt8):Option (List UInt8×Nat):=kG (l.length+1) l
theorem wrap_u8 (n:Int):∃x:UInt8,IntKind.u8.wrap n=x.toNat:=by
 have h:0<=IntKind.u8.wrap n/\IntKind.u8.wrap n<256:=by
  have e:IntKind.u8.wrap n=n % 256:=by simp [IntKind.wrap,IntKind.bits,IntKind.signed]
  rw[e];omega
 exact⟨UInt8.ofNat (IntKind.u8.wrap n).toNat,by rw[UInt8.toNat_ofNat'];omega⟩
theorem Lr (l:List UInt8):∃x:UInt8,(dJ l).2.1=x.toNat:=by
 unfold dJ;split
 ·exact⟨0,rfl⟩
 ·rename_i c r;split
  ·exact⟨c,rfl⟩
  ·split
   ·exact⟨10,rfl⟩
   ·split
    ·split
     ·exact wrap_u8 _
     ·exact⟨0,rfl⟩
    ·exact⟨0,rfl⟩
theorem Dq (l:List UInt8):(dJ l).1<=l.length/\((dJ l).2.2=true->1<=(dJ l).1):=by
 unfold dJ;split
 ·simp
 ·rename_i c r;split
  ·simp
  ·split
   ·simp
   ·split
    ·split
     ·simp
     ·simp
    ·simp
def di:List UInt8->Nat
 |[]=>0
 |c::r=>if dF c.toNat then 1+di r else 0
theorem HI:∀l,di l<=l.length
 |[]=>by simp [di]
 |c::r=>by
  have:=HI r;simp only[di,cv];split<;>omega
def fO (l:List UInt8):Bool×Int×Nat×Bool:=
 let d:=di l
 let aA:=decide ((l.drop d).head?.map UInt8.toNat=some 76)
 let v:=iS (l.take d)
 (aA,v.1,if aA=true then d+1 else d,v.2&&decide (v.1<=if aA=true then 9223372036854775807 else 2147483647)&&(decide ((l.head?.map UInt8.toNat)≠some 48)||decide (d=1)))
def jZ (s:List UInt8) (p:Nat):List UInt8:=(s.drop p).take (di (s.drop p))
theorem N6 {s:List UInt8} {p k:Nat} (hp:p<s.length) (hk:k<=s.length) (oH:k=p+di (s.drop p)) (zr:p<k):
  (s.take k).drop p=jZ s p/\(jZ s p).length=k - p/\fO (s.drop p)=(decide ((k:Int)<s.length/\(((s.getD k 0).toNat:Nat):Int)=76),(iS (jZ s p)).1,(if((k:Int)<s.length/\(((s.getD k 0).toNat:Nat):Int)=76) then k - p+1 else k - p),
   (iS (jZ s p)).2&&decide ((iS (jZ s p)).1<=if((k:Int)<s.length/\(((s.getD k 0).toNat:Nat):Int)=76) then 9223372036854775807 else 2147483647)&&(decide (((jZ s p).getD 0 0).toNat≠48)||decide ((jZ s p).length=1))):=by
 have jC:(s.take k).drop p=(s.drop p).take (di (s.drop p)):=by
  rw[List.drop_take];congr 1;omega
 have hdn:(s.drop p).drop (di (s.drop p))=s.drop k:=by rw[List.drop_drop,oH]
 have qw:((s.drop p).take (di (s.drop p))).length=k - p:=by rw[List.length_take];have:=HI (s.drop p);omega
 have hd0:((s.drop p).take (di (s.drop p))).getD 0 0=(s.drop p).getD 0 0:=by
  rw[List.getD_eq_getElem?_getD,List.getElem?_take,aj (by omega),List.getD_eq_getElem?_getD]
 have Jf:di (s.drop p)=k - p:=by omega
 have hh0:(s.drop p).head?.map UInt8.toNat=some ((s.drop p).getD 0 0).toNat:=by
  rw[drop_at hp];rfl
 have hh1:((s.drop k).head?.map UInt8.toNat=some 76)=((k:Int)<s.length/\(((s.getD k 0).toNat:Nat):Int)=76):=by
  rw[eq_iff_iff];rcases Nat.lt_or_ge k s.length with h' |h'
  ·rw[drop_at h'];simp only[List.head?_cons,Option.map_some,dy];omega
  ·rw[List.drop_of_length_le h'];simp only[List.head?_nil,Option.map_none];constructor
   ·intro h;cases h
   ·intro h;omega
 refine⟨jC,qw,?_⟩;unfold jZ
 have hN:fO (s.drop p)=(decide (((s.drop p).drop (di (s.drop p))).head?.map UInt8.toNat=some 76),(iS ((s.drop p).take (di (s.drop p)))).1,
  (if decide (((s.drop p).drop (di (s.drop p))).head?.map UInt8.toNat=some 76)=true then di (s.drop p)+1 else di (s.drop p)),
  (iS ((s.drop p).take (di (s.drop p)))).2&&decide ((iS ((s.drop p).take (di (s.drop p)))).1<=if decide (((s.drop p).drop (di (s.drop p))).head?.map UInt8.toNat=some 76)=true then 9223372036854775807 else 2147483647)&&(decide (((s.drop p).head?.map UInt8.toNat)≠some 48)||decide (di (s.drop p)=1))):=rfl
 rw[hN,hdn,qw,hd0,hh0];generalize (s.drop p).take (di (s.drop p))=t
 rw[Jf];simp only[hh1,gz,ne_eq,dy]
def lN:Nat->List UInt8->Nat
 |0,_=>0
 |f+1,l=>if iU l [58,58]=true/\cC true (l.drop 2)≠0 then 2+cC true (l.drop 2)+lN f (l.drop (2+cC true (l.drop 2))) else 0
def jq (l:List UInt8):Nat:=cC true l+lN (l.length+1) (l.drop (cC true l))
def fZ (l:List UInt8):List UInt8:=Lib.replaceAll (l.take (jq l)) [58,58] [47]
theorem wF:∀(b:Bool) (l:List UInt8),cC b l<=l.length
 |_,[]=>by simp [cC]
 |b,c::r=>by
  have:=wF false r;simp only[cC,cv];split<;>omega
theorem DH {a b:List UInt8} (h:iU a b=true):b.length<=a.length:=by
 obtain⟨r,rfl⟩:=CS.1 h;rw[bM];omega
def iG (l:List UInt8):Option (Int×List UInt8×Int×Nat):=
 match l with
 |[]=>none
 |c::r=>
  if dm c.toNat=true then(if eF (fZ l)=true then some (if fz.contains (fZ l)=true then 2 else 1,fZ l,0,jq l) else none)
  else if dF c.toNat=true then(if(fO l).2.2.2=true then some (if(fO l).1=true then 4 else 3,[],(fO l).2.1,(fO l).2.2.1) else none)
  else if c.toNat=34 then(match jU r with
   |some (b,n)=>if b.length<=1024 then some (5,b,0,1+n) else none
   |none=>none)
  else(pS l).map fun o=>(6,o,0,o.length)
theorem Nz:∀(f:Nat) (l:List UInt8),lN f l<=l.length
 |0,_=>au _
 |f+1,l=>by
  simp only[lN];split
  ·rename_i h;have h1:=wF true (l.drop 2);have h2:=Nz f (l.drop (2+cC true (l.drop 2)));have h3:=DH h.1;simp only[cH,cv,eM] at h1 h2 h3;omega
  ·exact au _
theorem YU (l:List UInt8):jq l<=l.length:=by
 have h1:=wF true l;have h2:=Nz (l.length+1) (l.drop (cC true l));rw[cH] at h2;unfold jq;omega
theorem FW:∀(f:Nat) (l:List UInt8) (b:List UInt8) (n:Nat),kG f l=some (b,n)->1<=n/\n<=l.length
 |0,l,b,n,h=>by cases h
 |f+1,[],b,n,h=>by cases h
 |f+1,c::r,b,n,h=>by
  simp only[kG] at h;split at h
  ·cases h;simp
  ·split at h
   ·cases h
   ·split at h
    ·split at h
     ·obtain⟨⟨b',n'⟩,h',e⟩:=Option.map_eq_some_iff.1 h;cases e;have h1:=FW f _ _ _ h';have h2:=(Dq r).1;rw[cH] at h1;simp only[cv];omega
     ·cases h
    ·obtain⟨⟨b',n'⟩,h',e⟩:=Option.map_eq_some_iff.1 h;cases e;have h1:=FW f _ _ _ h';simp only[cv];omega
theorem Sb {l o:List UInt8} (h:pS l=some o):1<=o.length/\o.length<=l.length:=by
 have h1:=List.find?_some h;have h2:=List.mem_of_find?_eq_some h;exact⟨(by decide:∀o∈fB,1<=o.length) o h2,DH h1⟩
theorem GI {l:List UInt8} {k:Int} {t:List UInt8} {n:Int} {len:Nat} (h:iG l=some (k,t,n,len)):1<=len/\len<=l.length:=by
 cases l with
 |nil=>cases h
 |cons c r=>
  simp only[iG] at h;split at h
  ·rename_i hs;split at h
   ·cases h;refine⟨?_,YU _⟩;have:1<=cC true (c::r):=by
     simp only[cC];rw[aj (by rw[hs];rfl)];omega
    unfold jq;omega
   ·cases h
  ·split at h
   ·rename_i hd;split at h
    ·cases h;have h1:=HI (c::r);have h2:1<=di (c::r):=by simp only[di];rw[aj hd];omega
     simp only[fO];split
     ·rename_i hb;refine⟨by omega,?_⟩;rcases Nat.lt_or_ge (di (c::r)) (c::r).length with h3 |h3
      ·omega
      ·rw[List.drop_of_length_le h3] at hb;simp at hb
     ·exact⟨h2,h1⟩
    ·cases h
   ·split at h
    ·split at h
     ·rename_i b n' hq;split at h
      ·cases h;have:=FW _ _ _ _ hq;simp only[cv];omega
      ·cases h
     ·cases h
    ·obtain⟨o,ho,e⟩:=Option.map_eq_some_iff.1 h;cases e;exact Sb ho
def nh (s:List UInt8):Nat->Nat->List Tk->List Tk×Int×Int
 |0,_,acc=>(acc,0,0)
 |f+1,p,acc=>
  let q:=p+dn false (s.drop p)
  if s.length<=q then(acc,0,0) else if 5000<=acc.length then([],0,5) else
   match iG (s.drop q) with
   |none=>([],q,70)
   |some (k,t,n,len)=>nh s f (q+len) (acc++[⟨k,t,n,q⟩])
def aP (s:List UInt8):List Tk×Int×Int:=if 20000<s.length then([],0,8) else nh s (s.length+1) 0 []
theorem JP (a:List Tk) (t:Tk):cG a++[Value.int .i64 t.k,.string (bs t.s),.int .i64 t.n,.int .i64 t.at_]=cG (a++[t]):=by simp [cG]
def vJ (x:List Tk×Int×Int) (r:SV) (H' :Hp):Prop:=
 (x.2.2=0/\∃k u,r= .tup [.vec k u,.v (.int .i64 x.2.1),.v (.int .i64 x.2.2)]/\H' =⟨[],[⟨k,u,50,4,x.1.length,cG x.1⟩]⟩)\/
 (x.2.2≠0/\x.1=[]/\r= .tup [.v (.slice none 0 0),.v (.int .i64 x.2.1),.v (.int .i64 x.2.2)]/\H' =⟨[],[]⟩)
def BC (c:Int):Int:=if dF c then c - 48 else if 97<=c/\c<=102 then c - 97+10 else -1
theorem NC (c:UInt8):BC c.toNat=mD c:=by
 have h:∀n:Nat,n<256->BC (n:Int)=mD (UInt8.ofNat n):=by decide
 have:=h c.toNat c.toNat_lt;simpa using this
theorem FO (n:Int):IntKind.u8.wrap n=n % 256:=by simp [IntKind.wrap,IntKind.bits,IntKind.signed]
theorem FA {n:Int} (h:0<=n/\n<1000):IntKind.i64.wrap n=n:=by
 simp [IntKind.wrap,IntKind.bits,IntKind.signed];omega
theorem yJ (c:Int):dF c=true↔48<=c/\c<=57:=by simp [dF]
abbrev cf8:Cfg:=fP (fun _=>false) [(114,lU dm),(116,lU dF)]
theorem BU:cK cf8 Tryz.prog:=pure_cons (by kernel_rfl) (qV CM) (pure_cons (by kernel_rfl) (qV CU) pure_nil)
def Et (F:Int->Value):List Value->Option (Prop×Value)
 |[.int .u8 c]=>some (0<=c/\c<=255,F c)
 |_=>none
attribute [go_sem] Et.eq_1
theorem VE (c:Int) (m:Mem) (hc:0<=c/\c<=255):FnH Tryz.prog 220 [.v (.int .u8 c)] ⟨[],[]⟩ m fun r H' _=>r= .v (.int .i64 (BC c))/\H' =⟨[],[]⟩:=by
 refine aL BU Tryz.func220 ?_
 ·simp only[go_sem];unfold BC;refine⟨fun h=> ?_,fun h=>⟨fun h2=> ?_,fun h2=> ?_⟩⟩
  ·rw[aj h];have:=(yJ c).1 h;rw[FO,FA (by omega)];omega
  ·rw[ae (by rw[h];exact Bool.false_ne_true),aj h2,FO,FA (by omega)];exact⟨by unfold az;omega,by omega⟩
  ·rw[ae (by rw[h];exact Bool.false_ne_true),ae (by omega)]
theorem Kq (s:List UInt8) (p:Nat) (m:Mem) (hp:p<=s.length) (hs:s.length<=1000000) (hd:p<s.length->dF (s.getD p 0).toNat=false):
  FnH Tryz.prog 177 [.v (.string (bs s)),.v (.int .i64 p)] ⟨[],[]⟩ m fun r H' m' =>r= .v (.int .i64 (p+cC true (s.drop p):Nat))/\H' =⟨[],[]⟩/\m' =m:=by
 refine aL BU Tryz.func177 ?_
 ·simp only[go_sem];refine cO BU (fun k:Nat=>⟨[⟨0,[],.v (.string (bs s))⟩,⟨1,[],.v (.int .i64 k)⟩],[],[],[],0,m⟩)
   (fun k=>p<=k/\k<=s.length/\p+cC true (s.drop p)=k+cC (k==p) (s.drop k)) (fun k=>s.length - k) p (fun _ _=>aq _) (fun _ _=> .inl rfl) ?_ ?_ ?_
  ·simp only[go_sem]
  ·exact⟨aq _,hp,by simp⟩
  ·rintro k ⟨h1,h2,h3⟩;simp only[go_sem];refine⟨fun h=>⟨by omega,h⟩,fun h=>⟨by omega,h.2⟩,fun h=>⟨by unfold az;omega,k+1,rfl,⟨by omega,by omega,?_⟩,by omega⟩,fun h=> ?_⟩
   ·rw[h3,drop_at (by omega)];have cP:(k+1==p)=false:=by rw[beq_eq_false_iff_ne];omega
    simp only[cC,cP];rw[aj]
    ·omega
    ·rcases h.2 with h' |h'
     ·rw[h'];rfl
     ·rcases Nat.lt_or_ge p k with h4 |h4
      ·have:(k==p)=false:=by rw[beq_eq_false_iff_ne];omega
       rw[this,h'];simp
      ·obtain rfl:p=k:=by omega
       rw[hd (by omega)] at h';cases h'
   ·have h0:cC (k==p) (s.drop k)=0:=by
     rcases Nat.lt_or_ge k s.length with h4 |h4
     ·rw[drop_at h4];simp only[cC];rcases h with h |h
      ·omega
      ·rw[ae];rw[h.1,h.2];simp
     ·rw[List.drop_of_length_le h4];cases (k==p)<;>rfl
    rw[h3,h0];rfl
theorem Yy {P:Program} {f:FuncId} {F:Int->Value} (h:∀c m,0<=c/\c<=255->FnH P f [.v (.int .u8 c)] ⟨[],[]⟩ m fun r H' _=>r= .v (F c)/\H' =⟨[],[]⟩):ou P f (Et F):=fun cL y hy hB m=>by
 unfold Et at hy;split at hy
 ·cases hy;exact h _ m hB
 ·cases hy
abbrev cf9:Cfg:=fP (fun _=>false) [(220,Et fun c=> .int .i64 (BC c)),(114,lU dm),(116,lU dF)]
theorem ET:cK cf9 Tryz.prog:=pure_cons (by kernel_rfl) (Yy VE) (pure_cons (by kernel_rfl) (qV CM) (pure_cons (by kernel_rfl) (qV CU) pure_nil))
def gH:List UInt8->Int×Nat
 |[]=>(0,0)
 |c::r=>if(c.toNat<32\/126<c.toNat)\/c.toNat=34 then(0,0) else if c.toNat≠92 then(c.toNat,1) else if(dJ r).2.2=true then((dJ r).2.1,1+(dJ r).1) else(0,0)
theorem VU {s:List UInt8} {q:Nat} (h:s.length<=q):dJ (s.drop q)=(0,0,false):=by
 rw[List.drop_of_length_le h];rfl
theorem Lq {s:List UInt8} {q:Nat} (h:q<s.length) (hc:(s.getD q 0).toNat=34\/(s.getD q 0).toNat=92):dJ (s.drop q)=(1,((s.getD q 0).toNat:Int),true):=by
 rw[drop_at h];simp only[dJ];rw[aj hc]
theorem Zi {s:List UInt8} {q:Nat} (h:q<s.length) (hc:(s.getD q 0).toNat=110):dJ (s.drop q)=(1,10,true):=by
 rw[drop_at h];simp only[dJ];rw[ae (by omega),aj hc]
theorem OD {s:List UInt8} {q:Nat} (h:q+2<s.length) (hc:(s.getD q 0).toNat=120):
  dJ (s.drop q)=(3,IntKind.u8.wrap (16 * mD (s.getD (q+1) 0)+mD (s.getD (q+2) 0)),decide (0<=mD (s.getD (q+1) 0))&&decide (0<=mD (s.getD (q+2) 0))):=by
 rw[drop_at (by omega),drop_at (k:=q+1) (by omega),drop_at (k:=q+1+1) (by omega)];simp only[dJ];rw[ae (by omega),ae (by omega),aj hc]
theorem SU {s:List UInt8} {q:Nat} (h:q<s.length) (hs:s.length<=q+2) (hc:(s.getD q 0).toNat=120):dJ (s.drop q)=(0,0,false):=by
 rw[drop_at h];simp only[dJ];rw[ae (by omega),ae (by omega),aj hc];have hl:(s.drop (q+1)).length<=1:=by rw[cH];omega
 split
 ·rename_i h l t e;rw[e] at hl;simp at hl
 ·rfl
theorem XW {s:List UInt8} {q:Nat} (h:q<s.length) (h1:¬((s.getD q 0).toNat=34\/(s.getD q 0).toNat=92)) (h2:¬(s.getD q 0).toNat=110) (h3:¬(s.getD q 0).toNat=120):dJ (s.drop q)=(0,0,false):=by
 rw[drop_at h];simp only[dJ];rw[ae h1,ae h2,ae h3]
theorem T9 {s:List UInt8} {p:Nat} (h:p<s.length) (hc:((s.getD p 0).toNat<32\/126<(s.getD p 0).toNat)\/(s.getD p 0).toNat=34):gH (s.drop p)=(0,0):=by
 rw[drop_at h];simp only[gH];rw[aj hc]
theorem RZ {s:List UInt8} {p:Nat} (h:p<s.length) (hc:¬(((s.getD p 0).toNat<32\/126<(s.getD p 0).toNat)\/(s.getD p 0).toNat=34)) (h2:(s.getD p 0).toNat≠92):gH (s.drop p)=(((s.getD p 0).toNat:Int),1):=by
 rw[drop_at h];simp only[gH];rw[ae hc,aj h2]
theorem uP {s:List UInt8} {p:Nat} (h:p<s.length) (h2:(s.getD p 0).toNat=92) {x:Nat×Int×Bool} (he:dJ (s.drop (p+1))=x):gH (s.drop p)=if x.2.2=true then(x.2.1,1+x.1) else(0,0):=by
 rw[drop_at h];simp only[gH];rw[ae (by omega),ae (by omega),he]
theorem T7 (s:List UInt8) (p:Nat) (m:Mem) (hp:p<s.length) (hs:s.length<=1000000):
  FnH Tryz.prog 180 [.v (.string (bs s)),.v (.int .i64 p)] ⟨[],[]⟩ m fun r H' m' =>r= .tup [.v (.int .u8 (gH (s.drop p)).1),.v (.int .i64 (gH (s.drop p)).2)]/\H' =⟨[],[]⟩/\m' =m:=by
 have e1:((p:Int)+1).toNat=p+1:=by omega
 have e2:((p:Int)+2).toNat=p+2:=by omega
 have e3:((p:Int)+3).toNat=p+3:=by omega
 have hb:∀x:UInt8,(0:Int)<=x.toNat/\(x.toNat:Int)<=255:=fun x=>by have:=x.toNat_lt;omega
 refine aL ET Tryz.func180 ?_
 ·simp only[go_sem,e1,e2,e3,NC];have hI:∀n:Int,0<=n->n<=2000000->az n:=fun n _ _=>by unfold az;omega
  refine⟨by omega,fun h=>by rw[T9 hp (by omega)];rfl,fun h=>⟨fun h2=>by rw[RZ hp (by omega) (by omega)];rfl,fun QM=>⟨by unfold az;omega,fun xG=> ?_,fun xG=> ?_⟩⟩⟩
  ·rw[uP hp (by omega) (VU (by omega))];rfl
  ·have hq:p+1<s.length:=by omega
   refine⟨by unfold az;omega,by omega,fun zR=>⟨fun _=>⟨by unfold az;omega,by omega,?_⟩,fun h=>absurd zR h⟩,fun zR=>⟨fun h=> ?_,fun h=> ?_⟩⟩
   ·rw[uP hp (by omega) (Lq hq (by omega))];rfl
   ·rw[uP hp (by omega) (Lq hq (by omega))];exact⟨by unfold az;omega,by omega,rfl⟩
   ·refine⟨fun adk=>by rw[uP hp (by omega) (Zi hq (by omega))];rfl,fun adk=>⟨fun adj=>⟨by unfold az;omega,fun _=>by unfold az;omega,fun _=>by omega,fun _=>hb _,fun _=>by unfold az;omega,fun _=>by omega,fun _=>hb _,fun h4=> ?_,fun h4=> ?_⟩,fun adj=> ?_⟩⟩
    ·have hx:=uP hp (by omega) (OD (q:=p+1) (by omega) (by omega));rw[aj (by rw[bX h4.1.2,bX h4.2];rfl)] at hx;have uF:Lib.indexByte rp (s.getD (p+2) 0)<16:=AW _ rp;have rW:Lib.indexByte rp (s.getD (p+3) 0)<16:=AW _ rp;have uJ:=h4.1.2;have h42:=h4.2;refine kC ET (by kernel_rfl) (by kernel_rfl) (by kernel_rfl) ?_;simp only[go_sem,e1,e2,e3,NC];rw[hx];unfold mD at uJ h42 ⊢;refine⟨by unfold az;omega,by omega,hb _,by unfold az;omega,by unfold az;omega,by omega,hb _,by unfold az;omega,?_⟩;rw[Int.mul_comm];rfl
    ·rcases Nat.lt_or_ge (p+3) s.length with h5 |h5
     ·rw[uP hp (by omega) (OD (q:=p+1) (by omega) (by omega)),ae]
      ·rfl
      ·simp only[cY,gz];rintro⟨x,y⟩;rcases h4 with (h4 |h4) |h4
       ·omega
       ·exact h4 x
       ·exact h4 y
     ·rw[uP hp (by omega) (SU (q:=p+1) (by omega) (by omega) (by omega))];rfl
    ·rw[uP hp (by omega) (XW hq (by omega) (by omega) (by omega))];rfl
def RN (p:Nat) (o:Option (Int×List UInt8×Int×Nat)) (r:SV):Prop:=
 ∃(t:Tk) (e:Int) (b:Bool),r= .tup [Tk.sv t,.v (.int .i64 e),.v (.bool b)]/\
  match o with
  |some (k,tt,n,len)=>b=true/\t=⟨k,tt,n,p⟩/\e=(p+len:Nat)
  |none=>b=false
theorem T8 (l:List UInt8):(gH l).2<=l.length:=by
 cases l with
 |nil=>simp [gH]
 |cons c r=>
  have:=(Dq r).1;simp only[gH,cv];split
  ·omega
  ·split
   ·omega
   ·split<;>simp only<;>omega
theorem S1 (l:List UInt8):∃x:UInt8,(gH l).1=x.toNat:=by
 cases l with
 |nil=>exact⟨0,rfl⟩
 |cons c r=>
  simp only[gH];split
  ·exact⟨0,rfl⟩
  ·split
   ·exact⟨c,rfl⟩
   ·split
    ·exact Lr r
    ·exact⟨0,rfl⟩
theorem Sl {f:Nat} {c:UInt8} {r:List UInt8} {x:UInt8} (hc:c.toNat≠34) (hx:(gH (c::r)).1=x.toNat):
  kG (f+1) (c::r)=if(gH (c::r)).2=0 then none else(kG f ((c::r).drop (gH (c::r)).2)).map fun y=>(x::y.1,(gH (c::r)).2+y.2):=by
 simp only[kG];rw[ae hc];by_cases h1:c.toNat<32\/126<c.toNat
 ·have xQ:gH (c::r)=(0,0):=by simp only[gH];rw[aj (.inl h1)]
  rw[aj h1,xQ];rfl
 ·rw[ae h1];by_cases h2:c.toNat=92
  ·rw[aj h2];by_cases h3:(dJ r).2.2=true
   ·have h4:=(Dq r).2 h3;have xQ:gH (c::r)=((dJ r).2.1,1+(dJ r).1):=by simp only[gH];rw[ae (by omega),ae (by omega),aj h3]
    rw[xQ] at hx ⊢;have hx:(dJ r).2.1=x.toNat:=hx;rw[aj h3,hx];have e1:UInt8.ofNat ((x.toNat:Nat):Int).toNat=x:=by simp
    have e2:(c::r).drop (1+(dJ r).1)=r.drop (dJ r).1:=by rw[Nat.add_comm,List.drop_succ_cons]
    show _=if 1+(dJ r).1=0 then none else(kG f ((c::r).drop (1+(dJ r).1))).map fun y=>(x::y.1,1+(dJ r).1+y.2)
    rw[ae (by omega),e1,e2]
   ·have xQ:gH (c::r)=(0,0):=by simp only[gH];rw[ae (by omega),ae (by omega),ae h3]
    rw[ae h3,xQ];rfl
  ·rw[ae h2];have xQ:gH (c::r)=((c.toNat:Int),1):=by simp only[gH];rw[ae (by omega),aj h2]
   rw[xQ] at hx ⊢;have hx:(c.toNat:Int)=x.toNat:=hx;have e1:c=x:=UInt8.toNat_inj.1 (by omega);show _=if 1=0 then none else(kG f ((c::r).drop 1)).map fun y=>(x::y.1,1+y.2)
   rw[ae (by decide),List.drop_succ_cons,List.drop_zero,e1]
theorem Tf (s:List UInt8) (p:Nat) (m:Mem) (hp:p<s.length) (hs:s.length<=1000000):
  FnH Tryz.prog 118 [.v (.string (bs s)),.v (.int .i64 p)] ⟨[],[]⟩ m fun r H' m' =>m' =m/\H' =⟨[],[]⟩/\
   RN p (match jU (s.drop (p+1)) with
    |some (b,n)=>if b.length<=1024 then some (5,b,0,1+n) else none
    |none=>none) r:=by
 refine aL ET Tryz.func118 ?_
 ·simp only[go_sem];refine⟨by unfold az;omega,?_⟩;refine cO ET (fun x:Nat×List UInt8×Nat=>⟨[⟨0,[],.v (.string (bs s))⟩,⟨1,[],.v (.int .i64 p)⟩,⟨4,[],.box 0 0⟩,⟨7,[],.vec 1 x.2.2⟩,⟨8,[],.v (.int .i64 x.1)⟩],[],[⟨0,50,nF.cells⟩],[⟨1,x.2.2,5,1,x.2.1.length,kM x.2.1⟩],2,m⟩)
   (fun x=>p+1<=x.1/\x.1<=s.length/\x.2.1.length<=x.1/\∃f,s.length - x.1<f/\jU (s.drop (p+1))=(kG f (s.drop x.1)).map fun y=>(x.2.1++y.1,x.1 - (p+1)+y.2)) (fun x=>s.length - x.1) (p+1,[],0) (fun _ _=>aq _) (fun _ _=> .inl rfl) ?_ ?_ ?_
  ·simp only[go_sem];exact⟨rfl,rfl⟩
  ·refine⟨aq _,hp,au _,(s.drop (p+1)).length+1,by rw[cH];omega,?_⟩;show jU _=(jU _).map _;cases jU (s.drop (p+1)) with
   |none=>rfl
   |some x=>simp
  ·rintro⟨q,b,v⟩ ⟨h1,h2,h3,f,hf,hq⟩;simp only at h1 h2 h3 hf hq;have ef:f=(f - 1)+1:=by omega
   rw[ef] at hq;simp only[go_sem];refine⟨fun h=>by omega,fun h=>ab ((T7 s q m (by omega) hs).mono ?_),fun h=>⟨b,rfl,by unfold az;omega,?_⟩⟩
   ·rintro r H' m' hm ⟨rfl,rfl,rfl⟩;simp only[go_sem];have E9:q<s.length:=by omega
    have bW:=T8 (s.drop q);rw[cH] at bW;obtain⟨x,hx⟩:=S1 (s.drop q);have gv:kG (f - 1+1) (s.drop q)=if(gH (s.drop q)).2=0 then none else(kG (f - 1) ((s.drop q).drop (gH (s.drop q)).2)).map fun y=>(x::y.1,(gH (s.drop q)).2+y.2):=by
     rw[drop_at E9] at hx ⊢;exact Sl (by omega) hx
    rw[gv,List.drop_drop] at hq;rw[hx];generalize (gH (s.drop q)).2=n at hq bW ⊢
    refine⟨fun h0=> ?_,fun h0=>⟨⟨by omega,by simp only[maxLen];omega⟩,by unfold az;omega,(q+n,b++[x],v+1),⟨⟨rfl,rfl⟩,rfl,by simp,by rw[G9];rfl⟩,⟨by simp only;omega,by simp only;omega,by simp only[bM,fr];omega,f - 1,by simp only;omega,?_⟩,by simp only;omega⟩⟩
    ·rw[aj (by omega)] at hq;have hq:jU (s.drop (p+1))=none:=hq;rw[hq];exact⟨nF,0,false,rfl,rfl⟩
    ·rw[ae (by omega)] at hq;rw[hq];cases kG (f - 1) (s.drop (q+n)) with
     |none=>rfl
     |some y=>
      have:q - (p+1)+(n+y.2)=q+n - (p+1)+y.2:=by omega
      simp [this]
   ·rcases Nat.lt_or_ge q s.length with hl |hl
    ·have zR:(s.getD q 0).toNat=34:=by omega
     rw[drop_at hl] at hq;simp only[kG] at hq;rw[aj zR] at hq;have hq:jU (s.drop (p+1))=some (b++[],q - (p+1)+1):=hq;rw[hq,List.append_nil,bX (by omega:(q:Int)<s.length),Bool.true_and];refine⟨⟨5,b,0,p⟩,_,_,rfl,?_⟩;by_cases hb:b.length<=1024
     ·simp only[aj hb];exact⟨bX (by omega),trivial,by omega⟩
     ·simp only[ae hb];exact bo (by omega)
    ·rw[List.drop_of_length_le hl] at hq;have hq:jU (s.drop (p+1))=none:=hq;rw[hq,bo (by omega:¬(q:Int)<s.length),Bool.false_and];refine⟨⟨5,b,0,p⟩,_,false,rfl,?_⟩;rfl
def BV (B:List UInt8->Int->List UInt8->Prop) (F:List UInt8->Int->List UInt8->Value):List Value->Option (Prop×Value)
 |[.string a,.int .i64 c,.string b]=>some (B (tl a) c (tl b),F (tl a) c (tl b))
 |_=>none
theorem N4 {P:Program} {f:FuncId} {B:List UInt8->Int->List UInt8->Prop} {F:List UInt8->Int->List UInt8->Value}
  (h:∀a c b m,B a c b->FnH P f [.v (.string (bs a)),.v (.int .i64 c),.v (.string (bs b))] ⟨[],[]⟩ m fun r H' _=>r= .v (F a c b)/\H' =⟨[],[]⟩):
  ou P f (BV B F):=fun cL y hy hB m=>by
 unfold BV at hy;split at hy
 ·rename_i a c b;cases hy;have:=h (tl a) c (tl b) m hB;rwa [lH,lH] at this
 ·cases hy
attribute [go_sem] BV.eq_1
abbrev Qe (s:List UInt8) (i:Int) (b:List UInt8):Prop:=0<=i/\i<=s.length/\s.length<=4611686018427387904/\b.length<=1000
abbrev cfA:Cfg:=fP (fun _=>false) [(113,BV Qe fun s i b=> .bool (Bs s i b)),(114,lU dm),(116,lU dF)]
theorem uw:cK cfA Tryz.prog:=pure_cons (by kernel_rfl) (fun cL y hy hB m=>N4 (fun a c b m h=>Nw a b c m h.1 h.2.1 h.2.2.1 h.2.2.2) cL y hy hB m) (pure_cons (by kernel_rfl) (qV CM) (pure_cons (by kernel_rfl) (qV CU) pure_nil))
theorem Dl {s b:List UInt8} {q:Nat} (h:q<=s.length):Bs s q b=iU (s.drop q) b:=by
 unfold Bs iU;have e1:decide ((b.length:Int)<=s.length - q)=decide ((b.length:Int)<=(s.drop q).length):=by rw[decide_eq_decide,cH];omega
 have e2:((q:Int)+b.length).toNat=q+b.length:=by omega
 rw[e1,e2,Int.toNat_natCast,List.drop_take];have e3:q+b.length - q=b.length:=by omega
 rw[e3]
theorem KR (s:List UInt8) (p:Nat) (m:Mem) (hp:p<=s.length) (hs:s.length<=1000000):
  FnH Tryz.prog 45 [.v (.string (bs s)),.v (.int .i64 p)] ⟨[],[]⟩ m fun r H' m' =>r= .v (.int .i64 (p+dn false (s.drop p):Nat))/\H' =⟨[],[]⟩/\m' =m:=by
 refine aL uw Tryz.func45 ?_
 ·simp only[go_sem];refine cO uw (fun k:Nat=>⟨[⟨0,[],.v (.string (bs s))⟩,⟨1,[],.v (.int .i64 k)⟩],[],[],[],0,m⟩)
   (fun k=>p<=k/\k<=s.length/\p+dn false (s.drop p)=k+dn false (s.drop k)) (fun k=>s.length - k) p (fun _ _=>aq _) (fun _ _=> .inl rfl) ?_ ?_ ?_
  ·simp only[go_sem]
  ·exact⟨aq _,hp,rfl⟩
  ·rintro k ⟨h1,h2,h3⟩;simp only[go_sem];refine⟨fun ao=> ?_,fun cQ=> ?_⟩
   ·have cE:k<s.length:=by omega
    rw[drop_at cE] at h3;simp only[dn] at h3;refine⟨by omega,fun hw=>⟨by unfold az;omega,k+1,rfl,⟨by omega,cE,?_⟩,by omega⟩,fun hw=>⟨⟨by omega,by omega,by omega,by simp⟩,fun hi=> ?_,fun hi=> ?_⟩⟩
    ·rw[aj (by omega)] at h3;omega
    ·rw[Dl h2,drop_at cE] at hi;rw[ae (by omega),ae (fun hh=>by rw[ym.2 hh] at hi;cases hi)] at h3;rw[h3];rfl
    ·rw[Dl h2,drop_at cE] at hi;rw[ae (by omega),aj (ym.1 hi)] at h3;have gv:p+dn false (s.drop p)=k+dn true (s.drop k):=by
      rw[h3,drop_at cE];simp only[dn];rw[ae (by have:=(ym.1 hi).1;omega)]
     refine cO uw (fun j:Nat=>⟨[⟨0,[],.v (.string (bs s))⟩,⟨1,[],.v (.int .i64 j)⟩],[],[],[],0,m⟩)
      (fun j=>k<=j/\j<=s.length/\p+dn false (s.drop p)=j+dn true (s.drop j)) (fun j=>s.length - j) k (fun _ _=>aq _) (fun _ _=> .inl rfl) ?_ ?_ ?_
     ·simp only[go_sem]
     ·exact⟨aq _,h2,gv⟩
     ·rintro j ⟨g1,g2,g3⟩;simp only[go_sem];refine⟨fun h=>by omega,fun h=>⟨by unfold az;omega,j+1,rfl,⟨by omega,by omega,?_⟩,by omega⟩,fun h=>⟨j,rfl,⟨by omega,g2,?_⟩,?_⟩⟩
      ·rw[g3,drop_at (by omega)];simp only[dn];rw[ae (by omega)];omega
      ·rcases Nat.lt_or_ge j s.length with g4 |g4
       ·rw[g3,drop_at g4];simp only[dn];rw[aj (by omega),aj (by omega)]
       ·rw[g3,List.drop_of_length_le g4];rfl
      ·rcases Nat.lt_or_ge k j with g4 |g4
       ·omega
       ·have:=(ym.1 hi).1;obtain rfl:j=k:=by omega
        omega
   ·have e:s.drop k=[]:=List.drop_of_length_le (by omega);rw[e] at h3;rw[h3];rfl
theorem Q7 (s:List UInt8) (p:Nat) (m:Mem) (hp:p<=s.length) (hs:s.length<=1000000):
  FnH Tryz.prog 119 [.v (.string (bs s)),.v (.int .i64 p)] ⟨[],[]⟩ m fun r H' m' =>m' =m/\H' =⟨[],[]⟩/\RN p ((pS (s.drop p)).map fun o=>(6,o,0,o.length)) r:=by
 refine aL uw Tryz.func119 ?_
 ·simp only[go_sem];refine ab ((Ry m).mono ?_);rintro r H' m' hm ⟨rfl,rfl,rfl⟩;simp only[go_sem];refine cO uw (fun k:Nat=>⟨[⟨0,[],.v (.string (bs s))⟩,⟨1,[],.v (.int .i64 p)⟩,⟨4,[],.box 0 0⟩,⟨7,[],.vec 1 0⟩,⟨8,[],.v (.int .i64 k)⟩],[],[⟨0,50,nF.cells⟩],[⟨1,0,9,1,30,strs fB⟩],2,m'⟩)
   (fun k=>k<=30/\pS (s.drop p)=(fB.drop k).find? fun o=>iU (s.drop p) o) (fun k=>30 - k) 0 (fun _ _=>aq _) (fun _ _=> .inl rfl) ?_ ?_ ?_
  ·simp only[go_sem];rfl
  ·exact⟨by omega,rfl⟩
  ·rintro k ⟨hk,hf⟩;have fT:fB.length=30:=rfl;have gv:(strs fB).length=30:=rfl;refine Classical.byCases (fun ao:k<30=> ?_) (fun cQ:¬k<30=> ?_)
   ·have xh:k<fB.length:=ao;have e:(strs fB).getD k undef= .string (bs fB[k]):=by
     rw[List.getD_eq_getElem?_getD,strs,List.getElem?_map,List.getElem?_eq_getElem xh];rfl
    have vY:fB[k].length<=3:=(by decide:∀o∈fB,o.length<=3) _ (List.getElem_mem xh);rw[List.drop_eq_getElem_cons xh,List.find?_cons] at hf;simp only[go_sem,e];rw[Dl hp];refine⟨fun h=>⟨by omega,by omega,⟨by omega,by omega,by omega,by omega⟩,fun hi=> ?_,fun hi=>⟨by unfold az;omega,k+1,rfl,⟨by omega,?_⟩,by omega⟩⟩,fun h=>by omega⟩
    ·have rR:pS (s.drop p)=some fB[k]:=by rw[hf,hi]
     refine cg (.hoist 0 (.hoist 1 (.hoist 2 (.hoist 3 (.hoist 4 (.hoist 5 (.hoist 6 (.hoist 7 (.hoist 8 (.hoist 9 (.hoist 10 (.hoist 11 (.hoist 12 (.alt 13 [12,11,10,9,8,7,6] (.hoist 14 (.hoist 15 .done)) .stop)))))))))))))) uw (by kernel_rfl) (by kernel_rfl) ?_;simp only[go_sem,e];rw[rR];exact⟨by omega,by omega,by omega,by omega,by unfold az;omega,⟨6,fB[k],0,p⟩,_,_,rfl,rfl,rfl,rfl⟩
    ·rw[hf,hi]
   ·simp only[go_sem];refine⟨fun h=>by omega,fun h=> ?_⟩;obtain rfl:k=30:=by omega
    have e:fB.drop 30=[]:=rfl;rw[e] at hf;have hf:pS (s.drop p)=none:=hf;rw[hf];exact⟨nF,0,false,rfl,rfl⟩
def nY:Nat->List UInt8->Option Nat
 |n,[]=>some n
 |n,c::r=>if n<=(9223372036854775807 - (c.toNat - 48)) / 10 then nY (n * 10+(c.toNat - 48)) r else none
theorem LG {M:Nat}:∀(l:List UInt8) (acc u:Nat),Lib.parseUintM M acc l= .ok u->acc<=u
 |[],acc,u,h=>by simp only[Lib.parseUintM,Lib.NumEnd.ok.injEq] at h;omega
 |c::r,acc,u,h=>by
  simp only[Lib.parseUintM] at h;split at h
  ·split at h
   ·cases h
   ·split at h
    ·cases h
    ·have:=LG r _ u h;omega
  ·cases h
theorem J3:∀(l:List UInt8) (n:Nat),n<=9223372036854775807->(∀c∈l,dF c.toNat=true)->
  match nY n l with
  |some v=>Lib.parseUintM 18446744073709551615 n l= .ok v/\v<=9223372036854775807
  |none=>∀u,Lib.parseUintM 18446744073709551615 n l= .ok u->9223372036854775808<=u
 |[],n,hn,_=>⟨rfl,hn⟩
 |c::r,n,hn,hd=>by
  have hc:=(yJ _).1 (hd c (dz ..));have hr:=fun x hx=>hd x (cS _ hx)
  simp only[nY];by_cases h:n<=(9223372036854775807 - (c.toNat - 48)) / 10
  ·rw[aj h];have ih:=J3 r (n * 10+(c.toNat - 48)) (by omega) hr;have e:Lib.parseUintM 18446744073709551615 n (c::r)=Lib.parseUintM 18446744073709551615 (n * 10+(c.toNat - 48)) r:=by
    simp only[Lib.parseUintM];rw[aj (by omega),ae (by omega),ae (by omega)]
   rw[e];exact ih
  ·rw[ae h];intro u hu;simp only[Lib.parseUintM] at hu;rw[aj (by omega)] at hu;split at hu
   ·cases hu
   ·split at hu
    ·cases hu
    ·have:=LG r _ u hu;omega
theorem Kw {l:List UInt8} (cP:l≠[]) (hd:∀c∈l,dF c.toNat=true):
  match nY 0 l with
  |some v=>iS l=((v:Int),true)/\v<=9223372036854775807
  |none=>(iS l).2=false:=by
 have h:=J3 l 0 (by omega) hd;cases l with
 |nil=>exact absurd rfl cP
 |cons c r=>
  have hc:=(yJ _).1 (hd c (dz ..));have e:iS (c::r)=match Lib.parseUintM 18446744073709551615 0 (c::r) with
   | .ok u=>if 9223372036854775808<=u then(Lib.intSat 64 (c::r),false) else((u:Int),true)
   | .range=>(Lib.intSat 64 (c::r),false)
   |_=>(0,false):=by
   unfold iS Lib.parseIntB;simp only[Lib.parseUintB];have h43:¬(c.toNat=43\/c.toNat=45):=by omega
   have QN:¬c.toNat=45:=by omega
   rw[ae h43,ae (List.cons_ne_nil _ _)];cases Lib.parseUintM (2 ^ 64 - 1) 0 (c::r) with
   |ok u=>
    by_cases hu:9223372036854775808<=u
    ·simp [QN,hu]
    ·simp [QN,hu]
   |range=>rfl
   |_=>rfl
  rw[e];cases hr:nY 0 (c::r) with
  |some v=>
   rw[hr] at h;rw[h.1];simp only;rw[ae (by omega)];exact⟨rfl,h.2⟩
  |none=>
   rw[hr] at h;cases hm:Lib.parseUintM 18446744073709551615 0 (c::r) with
   |ok u=>
    have:=h u hm;simp only;rw[aj this]
   |range=>rfl
   |_=>rfl
theorem Hu:∀(l:List UInt8),∀c∈l.take (di l),dF c.toNat=true
 |[],c,h=>by simp at h
 |d::r,c,h=>by
  simp only[di] at h;split at h
  ·rename_i hd;rw[Nat.add_comm,List.take_succ_cons] at h;rcases List.mem_cons.1 h with rfl |h
   ·exact hd
   ·exact Hu r c h
  ·simp at h
theorem Rl (s:List UInt8) (p:Nat) (m:Mem) (hp:p<s.length) (hs:s.length<=1000000) (hd:dF (s.getD p 0).toNat=true):
  FnH Tryz.prog 117 [.v (.string (bs s)),.v (.int .i64 p)] ⟨[],[]⟩ m fun r H' m' =>m' =m/\H' =⟨[],[]⟩/\
   RN p (if(fO (s.drop p)).2.2.2=true then some (if(fO (s.drop p)).1=true then 4 else 3,[],(fO (s.drop p)).2.1,(fO (s.drop p)).2.2.1) else none) r:=by
 refine aL BU Tryz.func117 ?_
 ·simp only[go_sem];refine cO BU (fun x:Nat×Nat×Bool=>⟨[⟨0,[],.v (.string (bs s))⟩,⟨1,[],.v (.int .i64 p)⟩,⟨4,[],.box 0 0⟩,⟨7,[],.v (.int .i64 x.1)⟩,⟨8,[],.v (.int .i64 x.2.1)⟩,⟨9,[],.v (.bool x.2.2)⟩],[],[⟨0,50,nF.cells⟩],[],1,m⟩)
   (fun x=>p<=x.1/\x.1<=s.length/\p+di (s.drop p)=x.1+di (s.drop x.1)/\x.2.1<=9223372036854775807/\nY 0 (jZ s p)=if x.2.2=true then nY x.2.1 ((s.drop x.1).take (di (s.drop x.1))) else none) (fun x=>s.length - x.1) (p,0,true) (fun _ _=>aq _) (fun _ _=> .inl rfl) ?_ ?_ ?_
  ·simp only[go_sem];rfl
  ·exact⟨aq _,by omega,rfl,by simp,rfl⟩
  ·rintro⟨k,n,ok⟩ ⟨h1,h2,h3,h4,h5⟩;simp only at h1 h2 h3 h4 h5;simp only[go_sem];refine⟨fun h=>by omega,fun h=> ?_,fun h=> ?_⟩
   ·have cE:k<s.length:=by omega
    have Jf:=(yJ _).1 h.2;have jh:di (s.drop k)=1+di (s.drop (k+1)):=by
     rw[drop_at cE];simp only[di];rw[aj h.2]
    have pB:(s.drop k).take (di (s.drop k))=s.getD k 0::(s.drop (k+1)).take (di (s.drop (k+1))):=by
     rw[jh,drop_at cE,Nat.add_comm,List.take_succ_cons]
    rw[pB] at h5;simp only[nY] at h5;generalize s.getD k 0=c at Jf h5 ⊢
    have hW:IntKind.i64.wrap (IntKind.u8.wrap ((c.toNat:Int) - 48))=((c.toNat - 48:Nat):Int):=by
     rw[FO,FA (by omega)];omega
    have hT:((9223372036854775807:Int) - ((c.toNat - 48:Nat):Int)).tdiv 10=(((9223372036854775807 - (c.toNat - 48)) / 10:Nat):Int):=by
     rw[Int.tdiv_eq_ediv_of_nonneg (by omega)];omega
    rw[hW,hT];generalize hdd:c.toNat - 48=d at h5 ⊢
    have hd9:d<=9:=by omega
    have hle:decide ((n:Int)<=(((9223372036854775807 - d) / 10:Nat):Int))=decide (n<=(9223372036854775807 - d) / 10):=by rw[decide_eq_decide];omega
    rw[hle]
    refine⟨by omega,fun _=>by unfold az;omega,fun _=>by decide,fun _=>by unfold az;omega,fun hy=>⟨by unfold az;omega,by unfold az;omega,by unfold az;omega,(k+1,n * 10+d,true),⟨rfl,by simp only;omega,?_⟩,⟨by simp only;omega,by simp only;omega,by simp only;omega,by simp only;omega,?_⟩,by simp only;omega⟩,
     fun rQ=>⟨by unfold az;omega,(k+1,n,false),⟨rfl,rfl,?_⟩,⟨by simp only;omega,by simp only;omega,by simp only;omega,h4,?_⟩,by simp only;omega⟩⟩
    ·rw[hy.1,bX (by omega:n<=(9223372036854775807 - d) / 10)];rfl
    ·rw[h5,hy.1,aj rfl,aj (by omega:n<=(9223372036854775807 - d) / 10),aj rfl]
    ·rcases rQ with h' |h'
     ·rw[h'];rfl
     ·rw[bo (by omega:¬n<=(9223372036854775807 - d) / 10),Bool.and_false]
    ·rw[h5];rcases rQ with h' |h'
     ·rw[h'];rfl
     ·rw[ae (by omega:¬n<=(9223372036854775807 - d) / 10)];simp
   ·have j3:di (s.drop k)=0:=by
     rcases h with h |h
     ·rw[List.drop_of_length_le (by omega)];rfl
     ·rcases Nat.lt_or_ge k s.length with h' |h'
      ·rw[drop_at h'];simp only[di];rw[h];rfl
      ·rw[List.drop_of_length_le h'];rfl
    have oH:k=p+di (s.drop p):=by omega
    have zr:p<k:=by
     have:di (s.drop p)=1+di (s.drop (p+1)):=by rw[drop_at hp];simp only[di];rw[aj hd]
     omega
    rw[j3,List.take_zero] at h5;simp only[nY] at h5;obtain⟨jC,qw,ud⟩:=N6 hp h2 oH zr;have cP:jZ s p≠[]:=fun e=>by rw[e] at qw;simp at qw;omega
    have sY:=Kw cP (fun c hc=>Hu (s.drop p) c hc);have Jd:(jZ s p).getD 0 0=s.getD p 0:=by
     rw[jZ,List.getD_eq_getElem?_getD,List.getElem?_take,aj (by omega),drop_at hp];rfl
    rw[Jd] at ud;rw[qw] at ud;have hz:(!decide ((((s.getD p 0).toNat:Nat):Int)=48)||decide ((k:Int)=p+1))=(decide ((s.getD p 0).toNat≠48)||decide (k - p=1)):=by
     have e1:decide ((((s.getD p 0).toNat:Nat):Int)=48)=decide ((s.getD p 0).toNat=48):=by rw[decide_eq_decide];omega
     have e2:decide ((k:Int)=p+1)=decide (k - p=1):=by rw[decide_eq_decide];omega
     rw[e1,e2];simp
    refine⟨fun _=>by omega,fun _=>by unfold az;omega,fun h=>by omega,fun h=>⟨by unfold az;omega,?_⟩,fun h=> ?_⟩
    ·rw[ud];simp only[aj h,bX h];rw[hz];cases ok with
     |false=>
      have h5:nY 0 (jZ s p)=none:=h5;rw[h5] at sY;rw[sY];exact⟨⟨4,[],n,p⟩,_,false,rfl,rfl⟩
     |true=>
      have h5:nY 0 (jZ s p)=some n:=h5;rw[h5] at sY;rw[sY.1];simp only[bX (by omega:(n:Int)<=9223372036854775807),Bool.true_and];refine⟨⟨4,[],n,p⟩,_,_,rfl,?_⟩;by_cases hzz:(decide ((s.getD p 0).toNat≠48)||decide (k - p=1))=true
      ·rw[aj hzz];exact⟨hzz,rfl,by omega⟩
      ·rw[ae hzz];simpa using hzz
    ·have h' :¬((k:Int)<s.length/\(((s.getD k 0).toNat:Nat):Int)=76):=fun x=>h.elim (fun y=>y x.1) (fun y=>y x.2)
     rw[ud];simp only[ae h',bo h'];rw[hz];cases ok with
     |false=>
      have h5:nY 0 (jZ s p)=none:=h5;rw[h5] at sY;rw[sY];exact⟨⟨3,[],n,p⟩,_,false,rfl,rfl⟩
     |true=>
      have h5:nY 0 (jZ s p)=some n:=h5;rw[h5] at sY;rw[sY.1];simp only[Bool.true_and];refine⟨⟨3,[],n,p⟩,_,_,rfl,?_⟩;by_cases hzz:(decide ((n:Int)<=2147483647)&&(decide ((s.getD p 0).toNat≠48)||decide (k - p=1)))=true
      ·rw[aj hzz];exact⟨by rw[Bool.and_comm];exact hzz,rfl,by omega⟩
      ·rw[ae hzz];rw[Bool.and_comm];simpa using hzz
abbrev cfB:Cfg:=fP (fun _=>false) [(113,BV Qe fun s i b=> .bool (Bs s i b)),(114,lU dm),(116,lU dF),(170,eZ BL fun s=> .bool (eF s))]
theorem P4:cK cfB Tryz.prog:=pure_cons (by kernel_rfl) (fun cL y hy hB m=>N4 (fun a c b m h=>Nw a b c m h.1 h.2.1 h.2.2.1 h.2.2.2) cL y hy hB m) (pure_cons (by kernel_rfl) (qV CM) (pure_cons (by kernel_rfl) (qV CU) (pure_cons (by kernel_rfl) (fM Fx) pure_nil)))
theorem Gi:∀(b:Bool) (l:List UInt8),∀c∈l.take (cC b l),c≠58
 |_,[],c,h=>by simp at h
 |b,d::r,c,h=>by
  simp only[cC] at h;split at h
  ·rename_i hd;rw[Nat.add_comm,List.take_succ_cons] at h;rcases List.mem_cons.1 h with rfl |h
   ·rintro rfl;revert hd;cases b<;>decide
   ·exact Gi false r c h
  ·simp at h
theorem Mz:∀(A:List UInt8),(∀c∈A,c≠58)->Lib.index A [58,58]= -1
 |[],_=>rfl
 |a::A,h=>by
  have ih:=Mz A fun c hc=>h c (cS _ hc)
  have ha:=h a (dz ..);have hp:List.isPrefixOf [58,58] (a::A)=false:=by
   simp only[List.isPrefixOf,Bool.and_eq_false_iff];left;exact beq_eq_false_iff_ne.2 fun e=>ha e.symm
  simp only[Lib.index,hp,ih];rfl
theorem MA:∀(A r:List UInt8),(∀c∈A,c≠58)->Lib.index (A++58::58::r) [58,58]=A.length
 |[],r,_=>by simp [Lib.index,List.isPrefixOf]
 |a::A,r,h=>by
  have ih:=MA A r fun c hc=>h c (cS _ hc)
  have ha:=h a (dz ..);have hp:List.isPrefixOf [58,58] (a::(A++58::58::r))=false:=by
   simp only[List.isPrefixOf,Bool.and_eq_false_iff];left;exact beq_eq_false_iff_ne.2 fun e=>ha e.symm
  simp only[jD,Lib.index,hp,ih];rw[ae (by decide),ae (by simp),cv];rfl
def vw (F:Nat) (s:List UInt8):List UInt8:=Lib.replaceK [58,58] [47] (Lib.countFrom [58,58] F s) s
theorem M5 {F:Nat} {A:List UInt8} (h:∀c∈A,c≠58):vw (F+1) A=A:=by
 unfold vw Lib.countFrom;rw[Mz A h];rfl
theorem WO {F:Nat} {A r:List UInt8} (h:∀c∈A,c≠58):vw (F+1) (A++58::58::r)=A++47::vw F r:=by
 have hi:=MA A r h;have hd:(A++58::58::r).drop (A.length+([58,58]:List UInt8).length)=r:=by
  rw[List.drop_append];simp
 unfold vw;have hc:Lib.countFrom [58,58] (F+1) (A++58::58::r)=Lib.countFrom [58,58] F r+1:=by
  simp only[Lib.countFrom];rw[hi,ae (by simp),Int.toNat_natCast,hd];omega
 rw[hc,Lib.replaceK_hit _ _ _ _ _ hi,hd];simp
def sJ:Nat->List UInt8->List UInt8
 |0,_=>[]
 |f+1,l=>if iU l [58,58]=true/\cC true (l.drop 2)≠0 then 47::((l.drop 2).take (cC true (l.drop 2))++sJ f (l.drop (2+cC true (l.drop 2)))) else[]
theorem N3:∀(f:Nat) (l A:List UInt8) (F:Nat),(∀c∈A,c≠58)->(A++l.take (lN f l)).length<F->vw F (A++l.take (lN f l))=A++sJ f l
 |0,l,A,F,hA,hF=>by
  obtain⟨F,rfl⟩:∃g,F=g+1:=⟨F - 1,by omega⟩;simp only[lN,sJ,List.take_zero,List.append_nil];exact M5 hA
 |f+1,l,A,F,hA,hF=>by
  obtain⟨F,rfl⟩:∃g,F=g+1:=⟨F - 1,by omega⟩;simp only[lN] at hF;simp only[lN,sJ];by_cases h:iU l [58,58]=true/\cC true (l.drop 2)≠0
  ·rw[aj h] at hF;rw[aj h,aj h];obtain⟨r,hr⟩:=CS.1 h.1;subst hr;have e2:([58,58]++r).drop 2=r:=rfl;have e3:([58,58]++r).drop (2+cC true r)=r.drop (cC true r):=by
    rw[<- List.drop_drop,e2]
   rw[e2,e3] at hF;rw[e2,e3];have e4:([58,58]++r).take (2+cC true r+lN f (r.drop (cC true r)))=58::58::(r.take (cC true r)++(r.drop (cC true r)).take (lN f (r.drop (cC true r)))):=by
    rw[Nat.add_assoc,Nat.add_comm 2];show 58::58::r.take (cC true r+lN f (r.drop (cC true r)))=_;rw[List.take_add]
   rw[e4] at hF;have ih:=N3 f (r.drop (cC true r)) (r.take (cC true r)) F (Gi true r) (by rw[bM,cv,cv] at hF;omega);rw[e4,WO hA,ih]
  ·rw[ae h,ae h,List.take_zero,List.append_nil];exact M5 hA
theorem Oq (l:List UInt8):fZ l=l.take (cC true l)++sJ (l.length+1) (l.drop (cC true l)):=by
 have e:∀s,Lib.replaceAll s [58,58] [47]=vw (s.length+1) s:=fun s=>by
  unfold Lib.replaceAll Lib.replace vw;rw[ae (by decide)];have:Lib.replaceNum s [58,58] (-1)=Lib.count s [58,58]:=by simp [Lib.replaceNum]
  rw[this];rfl
 have h1:l.take (jq l)=l.take (cC true l)++(l.drop (cC true l)).take (lN (l.length+1) (l.drop (cC true l))):=by
  unfold jq;rw[List.take_add]
 unfold fZ;rw[e,h1];exact N3 _ _ _ _ (Gi true l) (Nat.lt_succ_self _)
theorem Xf {s:List UInt8} (h:fz.contains s=true):eF s=true:=
 (by decide:∀k∈fz,eF k=true) s (by simpa using h)
theorem Rs {c:Int} (h:dm c=true):dF c=false:=by
 cases hd:dF c with
 |false=>rfl
 |true=>
  have:=(yJ _).1 hd;simp only[dm,Bool.or_eq_true,cY,gz] at h;omega
theorem K5 {c:UInt8} {r:List UInt8}:cC true (c::r)≠0↔dm c.toNat=true:=by
 simp only[cC];cases h:dm c.toNat
 ·simp
 ·simp
theorem Q1 (s:List UInt8) (p:Nat) (m:Mem) (hp:p<s.length) (hs:s.length<=1000000) (gv:dm (s.getD p 0).toNat=true):
  FnH Tryz.prog 115 [.v (.string (bs s)),.v (.int .i64 p)] ⟨[],[]⟩ m fun r H' m' =>m.le m' /\H' =⟨[],[]⟩/\
   RN p (if eF (fZ (s.drop p))=true then some (if fz.contains (fZ (s.drop p))=true then 2 else 1,fZ (s.drop p),0,jq (s.drop p)) else none) r:=by
 have jh:dF (s.getD p 0).toNat=false:=by
  cases hd:dF (s.getD p 0).toNat with
  |false=>rfl
  |true=>
   have:=(yJ _).1 hd;simp only[dm,Bool.or_eq_true,cY,gz] at gv;omega
 have jQ:=wF true (s.drop p);rw[cH] at jQ;refine aL P4 Tryz.func115 ?_
 ·simp only[go_sem];refine ab ((Kq s p m (by omega) hs (fun _=>jh)).mono ?_);rintro r H' m' hm ⟨rfl,rfl,rfl⟩;have jC:(s.take (p+cC true (s.drop p))).drop p=(s.drop p).take (cC true (s.drop p)):=by
   rw[List.drop_take];congr 1;omega
  simp only[go_sem,jC];refine⟨⟨by omega,by omega,by omega⟩,?_⟩;refine cO P4 (fun x:Nat×List UInt8×Nat=>⟨[⟨0,[],.v (.string (bs s))⟩,⟨1,[],.v (.int .i64 p)⟩,⟨4,[],.box 0 0⟩,⟨7,[],.v (.int .i64 x.1)⟩,⟨8,[],.v (.string (bs x.2.1))⟩],[],[⟨0,50,nF.cells⟩],[],1,m'⟩)
   (fun x=>p<=x.1/\x.1<=s.length/\x.2.1.length<=x.1/\s.length - x.1<x.2.2/\fZ (s.drop p)=x.2.1++sJ x.2.2 (s.drop x.1)/\p+jq (s.drop p)=x.1+lN x.2.2 (s.drop x.1)) (fun x=>s.length - x.1)
   (p+cC true (s.drop p),(s.drop p).take (cC true (s.drop p)),(s.drop p).length+1) (fun _ _=>aq _) (fun _ _=> .inl rfl) ?_ ?_ ?_
  ·simp only[go_sem]
  ·refine⟨Nat.le_add_right _ _,by simp only;omega,by simp only[List.length_take];omega,by simp only[cH];omega,?_,?_⟩
   ·rw[Oq,List.drop_drop]
   ·simp only[jq,List.drop_drop];omega
  ·rintro⟨e,t,f⟩ ⟨h1,h2,h3,h4,h5,h6⟩;simp only at h1 h2 h3 h4 h5 h6;have ef:f=(f - 1)+1:=by omega
   rw[ef] at h5 h6;simp only[sJ] at h5;simp only[lN] at h6;have e2:((e:Int)+2).toNat=e+2:=by omega
   have h2c:(e:Int)+2=((e+2:Nat):Int):=by omega
   have ac3:=DH (a:=s.drop e) (b:=[58,58]);rw[cH] at ac3;simp only[go_sem,e2,Dl h2];rw[List.drop_drop] at h5 h6;rw[List.drop_drop] at h5 h6;refine⟨⟨by omega,by omega,by omega,by simp⟩,fun _=>by unfold az;omega,fun _=>by unfold az;omega,fun h=>by omega,fun h=>⟨by unfold az;omega,by kernel_rfl,?_⟩,fun h=>⟨by kernel_rfl,?_⟩⟩
   ·have bP:e+2<s.length:=by omega
    have IY:=Kq s (e+2) m' (by omega) hs (fun _=>Rs h.2);rw[<- h2c] at IY;have Cf:cC true (s.drop (e+2))≠0:=by rw[drop_at bP];exact K5.2 h.2
    have Ih:=wF true (s.drop (e+2));rw[cH] at Ih;have ac7:(s.take (e+2+cC true (s.drop (e+2)))).drop (e+2)=(s.drop (e+2)).take (cC true (s.drop (e+2))):=by
     rw[List.drop_take];congr 1;omega
    rw[aj ⟨h.1.1,Cf⟩] at h5 h6;refine dh (IY.mono ?_);rintro r H' jo aH ⟨rfl,rfl,rfl⟩;clear IY;simp only[go_sem,e2,ac7]
    refine⟨by omega,by unfold az;omega,⟨by omega,by omega,by omega⟩,by simp only[bM,List.length_take,fr];omega,
     (e+2+cC true (s.drop (e+2)),t++[47]++(s.drop (e+2)).take (cC true (s.drop (e+2))),f - 1),⟨rfl,rfl⟩,⟨by simp only;omega,by simp only;omega,by simp only[bM,List.length_take,fr];omega,by simp only;omega,?_,?_⟩,by simp only;omega⟩
    ·rw[h5];simp only[Nat.add_assoc,List.append_assoc,jD,List.nil_append]
    ·rw[h6];simp only[Nat.add_assoc]
   ·have rQ:¬(iU (s.drop e) [58,58]=true/\cC true (s.drop (e+2))≠0):=by
     rintro⟨g1,g2⟩;rcases h with (h |h) |h
     ·rw[h] at g1;cases g1
     ·rw[List.drop_of_length_le (by omega)] at g2;exact g2 rfl
     ·rcases Nat.lt_or_ge (e+2) s.length with g3 |g3
      ·rw[drop_at g3] at g2;have:=K5.1 g2;rw[h] at this;cases this
      ·rw[List.drop_of_length_le g3] at g2;exact g2 rfl
    rw[ae rQ] at h5 h6;rw[List.append_nil] at h5;refine dh ((JH m').mono ?_);rintro r H' jo aH ⟨rfl,rfl,rfl⟩;simp only[go_sem];refine⟨by kernel_rfl,fun ad cp m1 aN bl cu=>dh ((GX fz t ad 28 cp m1 cu (by decide)).mono ?_)⟩;rintro r H' m4 dd ⟨rfl,rfl⟩;simp only[go_sem];rw[h5];have he:p+jq (s.drop p)=e:=h6;refine⟨fun hk=>⟨Mem.le_trans aN dd,?_⟩,fun hk=>⟨by unfold BL;omega,Mem.le_trans aN dd,?_⟩⟩
    ·rw[aj (Xf hk),aj hk];exact⟨⟨2,t,0,p⟩,_,true,rfl,rfl,rfl,by omega⟩
    ·have ep:(if fz.contains t=true then(2:Int) else 1)=1:=ae (by rw[hk];exact Bool.false_ne_true);rw[ep];cases hn:eF t with
     |true=>exact⟨⟨1,t,0,p⟩,_,true,rfl,rfl,rfl,by omega⟩
     |false=>exact⟨⟨1,t,0,p⟩,_,false,rfl,rfl⟩
theorem WA {s:List UInt8} {p:Nat} (hp:p<s.length) (h1:dm (s.getD p 0).toNat=true):
  iG (s.drop p)=if eF (fZ (s.drop p))=true then some (if fz.contains (fZ (s.drop p))=true then 2 else 1,fZ (s.drop p),0,jq (s.drop p)) else none:=by
 rw[drop_at hp];show(if dm (s.getD p 0).toNat=true then _ else _)=_;rw[aj h1]
theorem UK {s:List UInt8} {p:Nat} (hp:p<s.length) (h1:dm (s.getD p 0).toNat=false) (h2:dF (s.getD p 0).toNat=true):
  iG (s.drop p)=if(fO (s.drop p)).2.2.2=true then some (if(fO (s.drop p)).1=true then 4 else 3,[],(fO (s.drop p)).2.1,(fO (s.drop p)).2.2.1) else none:=by
 rw[drop_at hp];show(if dm (s.getD p 0).toNat=true then _ else if dF (s.getD p 0).toNat=true then _ else _)=_;rw[ae (by rw[h1];exact Bool.false_ne_true),aj h2]
theorem UJ {s:List UInt8} {p:Nat} (hp:p<s.length) (h1:dm (s.getD p 0).toNat=false) (h2:dF (s.getD p 0).toNat=false) (h3:(((s.getD p 0).toNat:Nat):Int)=34):
  iG (s.drop p)=match jU (s.drop (p+1)) with
   |some (b,n)=>if b.length<=1024 then some (5,b,0,1+n) else none
   |none=>none:=by
 rw[drop_at hp];show(if dm (s.getD p 0).toNat=true then _ else if dF (s.getD p 0).toNat=true then _ else if(s.getD p 0).toNat=34 then _ else _)=_;rw[ae (by rw[h1];exact Bool.false_ne_true),ae (by rw[h2];exact Bool.false_ne_true),aj (by omega)];first |done |rfl
theorem Wz {s:List UInt8} {p:Nat} (hp:p<s.length) (h1:dm (s.getD p 0).toNat=false) (h2:dF (s.getD p 0).toNat=false) (h3:¬(((s.getD p 0).toNat:Nat):Int)=34):
  iG (s.drop p)=(pS (s.drop p)).map fun o=>(6,o,0,o.length):=by
 rw[drop_at hp];show(if dm (s.getD p 0).toNat=true then _ else if dF (s.getD p 0).toNat=true then _ else if(s.getD p 0).toNat=34 then _ else _)=_;rw[ae (by rw[h1];exact Bool.false_ne_true),ae (by rw[h2];exact Bool.false_ne_true),ae (by omega)]
theorem Tj (s:List UInt8) (p:Nat) (m:Mem) (hp:p<s.length) (hs:s.length<=1000000):
  FnH Tryz.prog 46 [.v (.string (bs s)),.v (.int .i64 p)] ⟨[],[]⟩ m fun r H' m' =>m.le m' /\H' =⟨[],[]⟩/\RN p (iG (s.drop p)) r:=by
 refine aL uw Tryz.func46 ?_
 ·simp only[go_sem]
  refine⟨by omega,fun h1=>ab ((Q1 s p m hp hs h1).mono ?_),fun h1=>⟨fun h2=>ab ((Rl s p m hp hs h2).mono ?_),
   fun h2=>⟨fun h3=>ab ((Tf s p m hp hs).mono ?_),fun h3=>ab ((Q7 s p m (by omega) hs).mono ?_)⟩⟩⟩
  ·rintro r H' m' hm ⟨_,rfl,t,e,b,rfl,hN⟩;rw[<- WA hp h1] at hN;simp only[go_sem,Tk.sv,Tk.cells];exact⟨hm,t,e,b,rfl,hN⟩
  ·rintro r H' m' hm ⟨_,rfl,t,e,b,rfl,hN⟩;rw[<- UK hp h1 h2] at hN;simp only[go_sem,Tk.sv,Tk.cells];exact⟨hm,t,e,b,rfl,hN⟩
  ·rintro r H' m' hm ⟨_,rfl,t,e,b,rfl,hN⟩;simp only[go_sem,Tk.sv,Tk.cells];exact⟨hm,t,e,b,rfl,by rw[UJ hp h1 h2 h3];exact hN⟩
  ·rintro r H' m' hm ⟨_,rfl,t,e,b,rfl,hN⟩;rw[<- Wz hp h1 h2 h3] at hN;simp only[go_sem,Tk.sv,Tk.cells];exact⟨hm,t,e,b,rfl,hN⟩
def lenOf:Option (Int×List UInt8×Int×Nat)->Nat
 |some x=>x.2.2.2
 |none=>0
theorem Zv {o:Option (Int×List UInt8×Int×Nat)} {t:Tk} {e:Int} {b:Bool} {q:Nat}
  (h:match o with
   |some (k,tt,n,len)=>b=true/\t=⟨k,tt,n,q⟩/\e=(q+len:Nat)
   |none=>b=false) (hb:b=true):o=some (t.k,t.s,t.n,lenOf o)/\t.at_=q/\e=(q+lenOf o:Nat):=by
 cases o with
 |none=>rw[hb] at h;cases h
 |some x=>
  obtain⟨k,tt,n,len⟩:=x;obtain⟨_,rfl,rfl⟩:=h;exact⟨rfl,rfl,rfl⟩
theorem Q6 (s:List UInt8) (m:Mem) (hs:s.length<=4611686018427387904):
  FnH Tryz.prog 22 [.v (.string (bs s))] ⟨[],[]⟩ m fun r H' m' =>an m m' /\vJ (aP s) r H' :=by
 refine aL uw Tryz.func22 ?_
 ·simp only[go_sem];refine⟨fun h=> ?_,fun h=>ab ((KR s 0 m (au _) (by omega)).mono ?_)⟩
  ·have e:aP s=([],0,8):=aj (by omega);rw[e];exact .inr ⟨by decide,rfl,rfl,rfl⟩
  ·rintro r H' m' hm ⟨rfl,rfl,rfl⟩;simp only[go_sem];refine pO 5 50 4 (by decide) rfl ?_;have B9:aP s=nh s (s.length+1) 0 []:=ae (by omega);have acS:=wD false (s.drop 0);rw[cH] at acS;refine cO uw (fun x:Nat×List Tk×Nat×Mem×Nat×Nat=>⟨[⟨0,[],.v (.string (bs s))⟩,⟨5,[],.vec 0 x.2.2.1⟩,⟨6,[],.v (.int .i64 x.2.2.2.2.2)⟩],[],[],[⟨0,x.2.2.1,50,4,x.2.1.length,cG x.2.1⟩],1,x.2.2.2.1⟩)
    (fun x=>an m' x.2.2.2.1/\x.1<=s.length/\x.2.1.length<=5000/\s.length - x.1<x.2.2.2.2.1/\aP s=nh s x.2.2.2.2.1 x.1 x.2.1/\x.2.2.2.2.2=x.1+dn false (s.drop x.1)) (fun x=>s.length - x.1) (0,[],0,m',s.length+1,0+dn false (s.drop 0)) (fun _ _=>aq _) (fun x hx=>hx.1) ?_ ?_ ?_
   ·simp only[go_sem];rfl
   ·exact⟨.inl rfl,au _,au _,by simp only;omega,B9,rfl⟩
   ·rintro⟨p,acc,u,mm,f,q⟩ ⟨h1,h3,h4,h5,h6,hq⟩;simp only at h1 h3 h4 h5 h6 hq;have ef:f=(f - 1)+1:=by omega
    rw[ef] at h6;simp only[nh] at h6;have IX:=wD false (s.drop p);rw[cH] at IX;rw[<- hq] at h6;have hqs:q<=s.length:=by omega
    simp only[go_sem];refine⟨fun ao=>⟨fun h5k=>⟨h1,?_⟩,fun h5k=>ab ((Tj s q mm (by omega) (by omega)).mono ?_)⟩,fun cQ=>⟨h1,?_⟩⟩
    ·rw[h6,ae (by omega),aj (by omega)];exact .inr ⟨by decide,rfl,rfl,rfl⟩
    ·rintro r H' jo aH ⟨hle,rfl,t,e,b,rfl,hN⟩;simp only[go_sem,Tk.sv,Tk.cells];refine⟨fun hb=>⟨Gq h1 hle,?_⟩,fun hb=>⟨⟨by omega,by simp only[maxLen];omega⟩,by kernel_rfl,?_⟩⟩
     ·rw[h6,ae (by omega),ae (by omega)];cases ht:iG (s.drop q) with
      |none=>exact .inr ⟨by simp,rfl,rfl,rfl⟩
      |some x=>
       rw[ht] at hN;rw[hN.1] at hb;cases hb
     ·have hy:=Zv hN hb;have hlen:=GI hy.1;rw[cH] at hlen;rw[hy.1,ae (by omega),ae (by omega)] at h6;have pC:=KR s (q+lenOf (iG (s.drop q))) jo (by omega) (by omega);rw[<- hy.2.2] at pC;have et:(⟨t.k,t.s,t.n,q⟩:Tk)=t:=by rw[<- hy.2.1]
      have h6:aP s=nh s (f - 1) (q+lenOf (iG (s.drop q))) (acc++[⟨t.k,t.s,t.n,q⟩]):=h6;rw[et] at h6;have adb:=JP acc t;refine dh (pC.mono ?_);rintro r H' m3 bN ⟨rfl,rfl,rfl⟩;clear pC;simp only[go_sem,Tk.sv,Tk.cells]
      exact⟨(q+lenOf (iG (s.drop q)),acc++[t],u+1,m3,f - 1,q+lenOf (iG (s.drop q))+dn false (s.drop (q+lenOf (iG (s.drop q))))),⟨⟨rfl,rfl⟩,⟨rfl,by simp,adb⟩,.inl rfl⟩,
       ⟨Gq h1 hle,by simp only;omega,by simp only[bM,fr];omega,by simp only;omega,h6,rfl⟩,by simp only;omega⟩
    ·rw[h6,aj (by omega)];exact .inl ⟨rfl,_,_,rfl,rfl⟩
def tQ (t:Tk) (x:List Tk×Int×Int):List Tk×Int×Int:=if x.2.2=0 then(t::x.1,x.2.1,0) else([],x.2.1,x.2.2)
def qg:Nat->Nat->Nat->List UInt8->List Tk×Int×Int
 |0,_,_,_=>([],0,0)
 |f+1,rX,pos,l=>
  if l.drop (dn false l)=[] then([],0,0) else if 5000<=rX then([],0,5) else
   match iG (l.drop (dn false l)) with
   |none=>([],(pos+dn false l:Nat),70)
   |some (k,t,n,len)=>tQ ⟨k,t,n,(pos+dn false l:Nat)⟩ (qg f (rX+1) (pos+dn false l+len) (l.drop (dn false l+len)))
def sF (acc:List Tk) (x:List Tk×Int×Int):List Tk×Int×Int:=if x.2.2=0 then(acc++x.1,x.2.1,0) else([],x.2.1,x.2.2)
theorem TH (acc:List Tk) (t:Tk) (x:List Tk×Int×Int):sF acc (tQ t x)=sF (acc++[t]) x:=by
 unfold sF tQ;by_cases h:x.2.2=0
 ·simp [h]
 ·simp [h]
theorem Ns (s:List UInt8):∀(f p:Nat) (acc:List Tk),nh s f p acc=sF acc (qg f acc.length p (s.drop p))
 |0,p,acc=>by simp [nh,qg,sF]
 |f+1,p,acc=>by
  simp only[nh,qg];have e1:(s.drop p).drop (dn false (s.drop p))=s.drop (p+dn false (s.drop p)):=List.drop_drop;rw[e1];by_cases h1:s.length<=p+dn false (s.drop p)
  ·rw[aj h1,aj (List.drop_eq_nil_of_le h1)];simp [sF]
  ·rw[ae h1,ae (fun h=>h1 (List.drop_eq_nil_iff.1 h))];by_cases h2:5000<=acc.length
   ·rw[aj h2,aj h2];simp [sF]
   ·rw[ae h2,ae h2];cases ht:iG (s.drop (p+dn false (s.drop p))) with
    |none=>simp [sF]
    |some y=>
     obtain⟨k,t,n,len⟩:=y;simp only;rw[Ns s f,TH];simp only[bM,fr,List.drop_drop,Nat.add_assoc]
theorem SY {t:Tk} {x:List Tk×Int×Int} (h:(x.2.2=0->x.2.1=0)/\(x.2.2≠0->x.1=[])):((tQ t x).2.2=0->(tQ t x).2.1=0)/\((tQ t x).2.2≠0->(tQ t x).1=[]):=by
 unfold tQ;by_cases e:x.2.2=0
 ·simp only[aj e];exact⟨fun _=>h.1 e,fun h=>absurd rfl h⟩
 ·simp only[ae e];exact⟨fun h=>absurd h e,fun _=>trivial⟩
theorem Lh:∀(f rX pos:Nat) (l:List UInt8),((qg f rX pos l).2.2=0->(qg f rX pos l).2.1=0)/\((qg f rX pos l).2.2≠0->(qg f rX pos l).1=[])
 |0,_,_,_=>⟨fun _=>rfl,fun _=>rfl⟩
 |f+1,rX,pos,l=>by
  simp only[qg];split
  ·exact⟨fun _=>rfl,fun _=>rfl⟩
  ·split
   ·exact⟨fun _=>rfl,fun _=>rfl⟩
   ·split
    ·exact⟨fun h=>absurd h (by simp),fun _=>rfl⟩
    ·exact SY (Lh f _ _ _)
theorem Vf {x:List Tk×Int×Int} (h:x.2.2≠0->x.1=[]):sF [] x=x:=by
 obtain⟨a,b,c⟩:=x;unfold sF;by_cases e:c=0
 ·subst e;rfl
 ·simp only[ae e];have h1:a=[]:=h e;rw[h1]
theorem J0 {s:List UInt8} (h:s.length<=20000):aP s=qg (s.length+1) 0 0 s:=by
 have e:aP s=nh s (s.length+1) 0 []:=ae (by omega);rw[e,Ns,Vf (Lh _ _ _ _).2];rfl
/-! Numbers. -/
/-! Strings. -/
/-! A comment behind the text. -/
end Go.Proofs.YtimddhkipjedcaaGreatDoor.E
namespace Go.Proofs
open Go.Shelf
def Tryz.laysC174_ren:Go.Shelf.Ren:=⟨fun |174=>225 |247=>246 |245=>247 |287=>259 |279=>260 |280=>261 |281=>262 |282=>263 |321=>272 |322=>273 |316=>274 |171=>276 |205=>275 |243=>282 |246=>284 |283=>285 |284=>286 |285=>287 |286=>288 |129=>290 |317=>289 |318=>291 |319=>292 |320=>293 |337=>294 |338=>295 |n=>n,fun |9=>9 |3=>3 |2=>2 |75=>195 |85=>196 |4=>4 |167=>216 |5=>5 |53=>217 |175=>218 |46=>220 |168=>221 |37=>83 |0=>0 |210=>228 |21=>21 |127=>225 |145=>239 |143=>237 |171=>244 |173=>247 |212=>250 |51=>240 |20=>20 |213=>251 |232=>254 |233=>255 |80=>85 |n=>n,fun |15=>2 |16=>3 |17=>6 |18=>7 |19=>8 |n=>n⟩
theorem Tryz.laysC174:Go.Proofs.LaysC.n174 Tryz.prog Tryz.laysC174_ren:={
 mixed:=by kernel_rfl
 f129:=Tryz.func290.trans (congrArg some (by kernel_rfl))
 f171:=Tryz.func276.trans (congrArg some (by kernel_rfl))
 f174:=Tryz.func225.trans (congrArg some (by kernel_rfl))
 f205:=Tryz.func275.trans (congrArg some (by kernel_rfl))
 f243:=Tryz.func282.trans (congrArg some (by kernel_rfl))
 f245:=Tryz.func247.trans (congrArg some (by kernel_rfl))
 f246:=Tryz.func284.trans (congrArg some (by kernel_rfl))
 f247:=Tryz.func246.trans (congrArg some (by kernel_rfl))
 f279:=Tryz.func260.trans (congrArg some (by kernel_rfl))
 f280:=Tryz.func261.trans (congrArg some (by kernel_rfl))
 f281:=Tryz.func262.trans (congrArg some (by kernel_rfl))
 f282:=Tryz.func263.trans (congrArg some (by kernel_rfl))
 f283:=Tryz.func285.trans (congrArg some (by kernel_rfl))
 f284:=Tryz.func286.trans (congrArg some (by kernel_rfl))
 f285:=Tryz.func287.trans (congrArg some (by kernel_rfl))
 f286:=Tryz.func288.trans (congrArg some (by kernel_rfl))
 f287:=Tryz.func259.trans (congrArg some (by kernel_rfl))
 f316:=Tryz.func274.trans (congrArg some (by kernel_rfl))
 f317:=Tryz.func289.trans (congrArg some (by kernel_rfl))
 f318:=Tryz.func291.trans (congrArg some (by kernel_rfl))
 f319:=Tryz.func292.trans (congrArg some (by kernel_rfl))
 f320:=Tryz.func293.trans (congrArg some (by kernel_rfl))
 f321:=Tryz.func272.trans (congrArg some (by kernel_rfl))
 f322:=Tryz.func273.trans (congrArg some (by kernel_rfl))
 f337:=Tryz.func294.trans (congrArg some (by kernel_rfl))
 f338:=Tryz.func295.trans (congrArg some (by kernel_rfl))
 t0:=Tryz.underlying0
 a0:=Tryz.isAgg0
 z0:=Tryz.sizeOf0
 v0:=Tryz.zeroValue0
 t2:=Tryz.underlying2
 a2:=Tryz.isAgg2
 z2:=Tryz.sizeOf2
 v2:=Tryz.zeroValue2
 t3:=Tryz.underlying3
 a3:=Tryz.isAgg3
 z3:=Tryz.sizeOf3
 v3:=Tryz.zeroValue3
 t4:=Tryz.underlying4
 a4:=Tryz.isAgg4
 z4:=Tryz.sizeOf4
 v4:=Tryz.zeroValue4
 t5:=Tryz.underlying5
 a5:=Tryz.isAgg5
 z5:=Tryz.sizeOf5
 v5:=Tryz.zeroValue5
 t9:=Tryz.underlying9
 a9:=Tryz.isAgg9
 z9:=Tryz.sizeOf9
 v9:=Tryz.zeroValue9
 t20:=Tryz.underlying20
 a20:=Tryz.isAgg20
 z20:=Tryz.sizeOf20
 v20:=Tryz.zeroValue20
 t21:=Tryz.underlying21
 a21:=Tryz.isAgg21
 z21:=Tryz.sizeOf21
 v21:=Tryz.zeroValue21
 t37:=Tryz.underlying83
 a37:=Tryz.isAgg83
 z37:=Tryz.sizeOf83
 v37:=Tryz.zeroValue83
 t46:=Tryz.underlying220
 a46:=Tryz.isAgg220
 z46:=Tryz.sizeOf220
 v46:=Tryz.zeroValue220
 t51:=Tryz.underlying240
 a51:=Tryz.isAgg240
 z51:=Tryz.sizeOf240
 v51:=Tryz.zeroValue240
 t53:=Tryz.underlying217
 a53:=Tryz.isAgg217
 z53:=Tryz.sizeOf217
 v53:=Tryz.zeroValue217
 t75:=Tryz.underlying195
 a75:=Tryz.isAgg195
 z75:=Tryz.sizeOf195
 v75:=Tryz.zeroValue195
 t85:=Tryz.underlying196
 a85:=Tryz.isAgg196
 z85:=Tryz.sizeOf196
 v85:=Tryz.zeroValue196
 t127:=Tryz.underlying225
 a127:=Tryz.isAgg225
 z127:=Tryz.sizeOf225
 v127:=Tryz.zeroValue225
 t143:=Tryz.underlying237
 a143:=Tryz.isAgg237
 z143:=Tryz.sizeOf237
 v143:=Tryz.zeroValue237
 t145:=Tryz.underlying239
 a145:=Tryz.isAgg239
 z145:=Tryz.sizeOf239
 v145:=Tryz.zeroValue239
 t167:=Tryz.underlying216
 a167:=Tryz.isAgg216
 z167:=Tryz.sizeOf216
 v167:=Tryz.zeroValue216
 t168:=Tryz.underlying221
 a168:=Tryz.isAgg221
 z168:=Tryz.sizeOf221
 v168:=Tryz.zeroValue221
 t171:=Tryz.underlying244
 a171:=Tryz.isAgg244
 z171:=Tryz.sizeOf244
 v171:=Tryz.zeroValue244
 t173:=Tryz.underlying247
 a173:=Tryz.isAgg247
 z173:=Tryz.sizeOf247
 v173:=Tryz.zeroValue247
 t175:=Tryz.underlying218
 a175:=Tryz.isAgg218
 z175:=Tryz.sizeOf218
 v175:=Tryz.zeroValue218
 t210:=Tryz.underlying228
 a210:=Tryz.isAgg228
 z210:=Tryz.sizeOf228
 v210:=Tryz.zeroValue228
 t212:=Tryz.underlying250
 a212:=Tryz.isAgg250
 z212:=Tryz.sizeOf250
 v212:=Tryz.zeroValue250
 t213:=Tryz.underlying251
 a213:=Tryz.isAgg251
 z213:=Tryz.sizeOf251
 t232:=Tryz.underlying254
 a232:=Tryz.isAgg254
 z232:=Tryz.sizeOf254
 v232:=Tryz.zeroValue254
 t233:=Tryz.underlying255
 a233:=Tryz.isAgg255
 z233:=Tryz.sizeOf255
 v233:=Tryz.zeroValue255
 g15:=by kernel_rfl
 g16:=by kernel_rfl
 g17:=by kernel_rfl
 g18:=by kernel_rfl
 g19:=by kernel_rfl
 t80:=Tryz.underlying85
 a80:=Tryz.isAgg85
 z80:=Tryz.sizeOf85
 v80:=Tryz.zeroValue85
 i0:=by kernel_rfl
 i2:=by kernel_rfl
 i3:=by kernel_rfl
 i4:=by kernel_rfl
 i5:=by kernel_rfl
 i9:=by kernel_rfl
 i20:=by kernel_rfl
 i21:=by kernel_rfl
 i37:=by kernel_rfl
 i46:=by kernel_rfl
 i51:=by kernel_rfl
 i53:=by kernel_rfl
 i75:=by kernel_rfl
 i80:=by kernel_rfl
 i85:=by kernel_rfl
 i127:=by kernel_rfl
 i143:=by kernel_rfl
 i145:=by kernel_rfl
 i167:=by kernel_rfl
 i168:=by kernel_rfl
 i171:=by kernel_rfl
 i173:=by kernel_rfl
 i175:=by kernel_rfl
 i210:=by kernel_rfl
 i212:=by kernel_rfl
 i232:=by kernel_rfl
 i233:=by kernel_rfl
 m15:=by kernel_rfl
 m16:=by kernel_rfl
 m17:=by kernel_rfl
 m18:=by kernel_rfl
 m19:=by kernel_rfl
 c0:=by kernel_rfl
 c2:=by kernel_rfl
 c3:=by kernel_rfl
 c4:=by kernel_rfl
 c5:=by kernel_rfl
 c9:=by kernel_rfl
 c20:=by kernel_rfl
 c21:=by kernel_rfl
 c37:=by kernel_rfl
 c46:=by kernel_rfl
 c51:=by kernel_rfl
 c53:=by kernel_rfl
 c75:=by kernel_rfl
 c80:=by kernel_rfl
 c85:=by kernel_rfl
 c127:=by kernel_rfl
 c143:=by kernel_rfl
 c145:=by kernel_rfl
 c167:=by kernel_rfl
 c168:=by kernel_rfl
 c171:=by kernel_rfl
 c173:=by kernel_rfl
 c175:=by kernel_rfl
 c210:=by kernel_rfl
 c212:=by kernel_rfl
 c213:=by kernel_rfl
 c232:=by kernel_rfl
 c233:=by kernel_rfl}
open Go.RowKit in
theorem Tryz.strconv_ParseInt_10_at64_ok (s:ByteArray) (Ii:s.size<=9223372036854775806) (v:Int) (h:Lib.parseIntB 64 s.data.toList= .ok v) (w:World):
  Calls Tryz.prog 225 #[.string s,.int .i64 10,.int .i64 64] w fun e w' =>e= .returned (.tuple #[.int .i64 v,.nilIface])/\(w' =w\/∃t,w' =Lib.bytesWorld w 5 t):=Any.strconv_ParseInt_10_at64_ok Tryz.laysC174 s Ii v h w
open Go.RowKit in
theorem Tryz.strconv_ParseInt_10_at64_bad (s:ByteArray) (Im:s.size<=281474976710656) (h1:∀v,Lib.parseIntB 64 s.data.toList≠ .ok v) (h2:Lib.parseIntB 64 s.data.toList≠ .range) (ev:Value) (w:World) (hv:w.cell? ⟨2,0,none⟩=some ev) (qv:ev= .nilIface\/∃te pe,ev= .iface te pe):
  Calls Tryz.prog 225 #[.string s,.int .i64 10,.int .i64 64] w fun e w' =>∃N,e= .returned (.tuple #[.int .i64 (0),.iface 221 (.pointer (some ⟨N,0,none⟩))])/\w.heap.size<=N/\w'.heap[N]? =some (.cells #[.string ⟨#[80,97,114,115,101,73,110,116]⟩,.string s,ev] 228 (0,0))/\Below w.heap.size w w' :=by
 cases hp:Lib.parseIntB 64 s.data.toList with
 |ok v=>exact absurd hp (h1 v)
 |range=>exact absurd hp h2
 |_=>exact Any.strconv_ParseInt_10_at64_syntax Tryz.laysC174 s Im hp ev w hv qv
open Go.RowKit in
theorem Tryz.strconv_ParseInt_10_at64_range (s:ByteArray) (Im:s.size<=281474976710656) (h:Lib.parseIntB 64 s.data.toList= .range) (ev:Value) (w:World) (hv:w.cell? ⟨3,0,none⟩=some ev) (qv:ev= .nilIface\/∃te pe,ev= .iface te pe):
  Calls Tryz.prog 225 #[.string s,.int .i64 10,.int .i64 64] w fun e w' =>∃N,e= .returned (.tuple #[.int .i64 (Lib.intSat 64 s.data.toList),.iface 221 (.pointer (some ⟨N,0,none⟩))])/\w.heap.size<=N/\w'.heap[N]? =some (.cells #[.string ⟨#[80,97,114,115,101,73,110,116]⟩,.string s,ev] 228 (0,0))/\Below w.heap.size w w' :=Any.strconv_ParseInt_10_at64_range Tryz.laysC174 s Im h ev w hv qv
end Go.Proofs
namespace Go.Proofs.YtimddhkipjedcaaGreatDoor.E
open Go Go.RowKit
theorem aan:cM Tryz.prog 138 0=some (0,none,1):=by kernel_rfl
theorem Ze:cM Tryz.prog 138 1=some (1,none,1):=by kernel_rfl
theorem aaO:nd Tryz.prog 138=true:=by kernel_rfl
theorem Ye:ft Tryz.prog 138=some [.v (.string (bs [])),.v (.int .i64 0)]:=by kernel_rfl
theorem acO:Ej Tryz.prog 195=true:=by kernel_rfl
attribute [go_sem] aan Ze aaO Ye acO
def GlobX (m:Mem):Prop:=Glob m/\∀w D,m.le ⟨w,D⟩->(∃k,w.cell? ⟨1,0,none⟩=some (.int .i64 k))/\(∃t p,w.cell? ⟨2,0,none⟩=some (.iface t p))/\(∃t p,w.cell? ⟨3,0,none⟩=some (.iface t p))/\
 Lib.TabIs Tryz.prog w "internal/strconv.uint64pow10" .u64 Lib.pow10Tab
theorem GlobX.up {m m' :Mem} (h:GlobX m) (hm:m.le m'):GlobX m' :=⟨Glob.up h.1 hm,fun w D hw=>h.2 w D (Mem.le_trans hm hw)⟩
theorem JT (c:Int) (m:Mem):FnH Tryz.prog 184 [.v (.int .u8 c)] ⟨[],[]⟩ m fun r H' _=>r= .v (.bool (dm c))/\H' =⟨[],[]⟩:=by
 refine aL nu Tryz.func184 ?_
 ·simp only[go_sem];rfl
theorem JU (c:Int) (m:Mem):FnH Tryz.prog 186 [.v (.int .u8 c)] ⟨[],[]⟩ m fun r H' _=>r= .v (.bool (dF c))/\H' =⟨[],[]⟩:=by
 refine aL nu Tryz.func186 ?_
 ·simp only[go_sem];rfl
abbrev cf1:Cfg:=fP (fun _=>false) [(184,lU dm),(186,lU dF)]
theorem P7:cK cf1 Tryz.prog:=by
 refine pure_cons (by kernel_rfl) (fun cL y hy _ m=> ?_) (pure_cons (by kernel_rfl) (fun cL y hy _ m=> ?_) pure_nil)
 ·obtain⟨c,rfl,rfl⟩:=GR hy;exact JT c m
 ·obtain⟨c,rfl,rfl⟩:=GR hy;exact JU c m
theorem K6 (s:List UInt8) (p at_:Int) (m:Mem) (h0:0<=at_) (h1:at_<=s.length) (hs:s.length<=4611686018427387904):FnH Tryz.prog 223 [.box 0 0,.v (.int .i64 at_)] ⟨[⟨0,138,[.v (.string (bs s)),.v (.int .i64 p)]⟩],[]⟩ m
  fun r H' m' =>r= .v (.int .i64 (cC true (s.drop at_.toNat)))/\H' =⟨[⟨0,138,[.v (.string (bs s)),.v (.int .i64 p)]⟩],[]⟩/\m' =m:=by
 refine aL P7 Tryz.func223 ?_
 ·simp only[go_sem];refine cO P7 (fun k:Nat=>⟨[⟨0,[],.box 0 0⟩,⟨1,[],.v (.int .i64 at_)⟩,⟨5,[],.v (.int .i64 k)⟩],[],[⟨0,138,[.v (.string (bs s)),.v (.int .i64 p)]⟩],[],1,m⟩)
   (fun k=>at_+k<=s.length/\cC true (s.drop at_.toNat)=k+cC (k==0) (s.drop (at_.toNat+k))) (fun k=>s.length - k) 0 (fun _ _=>aq _) (fun _ _=> .inl rfl) ?_ ?_ ?_
  ·simp only[go_sem];rfl
  ·simp;omega
  ·rintro k ⟨hk,hp⟩;simp only[go_sem];have hi:az (at_+k):=by unfold az;omega
   have hd:∀h:at_+k<s.length,s.drop (at_.toNat+k)=s.getD (at_+k).toNat 0::s.drop (at_.toNat+(k+1)):=fun h=>by
    have e:(at_+(k:Int)).toNat=at_.toNat+k:=by omega
    have hl:at_.toNat+k<s.length:=by omega
    rw[e,List.drop_eq_getElem_cons hl,List.getD_eq_getElem?_getD,List.getElem?_eq_getElem hl];rfl
   refine⟨hi,fun _=>hi,fun h=>⟨by omega,h⟩,fun _=>hi,fun h=>⟨by omega,h.2.2⟩,fun h=>⟨by unfold az;omega,k+1,by omega,⟨by omega,?_⟩,by omega⟩,fun h=> ?_⟩
   ·rw[hp,hd h.1];have:(dm ((s.getD (at_+k).toNat 0).toNat:Int)||(!(k==0)&&dF ((s.getD (at_+k).toNat 0).toNat:Int)))=true:=by
     rcases h.2 with h2 |⟨h2,h3⟩
     ·rw[h2];rfl
     ·rw[h3];have:(k==0)=false:=by simp;omega
      rw[this];simp
    simp only[cC];rw[aj this];have e0:((k+1)==0)=false:=rfl;rw[e0];omega
   ·rw[hp];have:cC (k==0) (s.drop (at_.toNat+k))=0:=by
     by_cases ao:at_+k<s.length
     ·rw[hd ao];rcases h with h |⟨h2,h3⟩
      ·exact absurd ao h
      ·simp only[cC];rw[ae];rw[h2];rcases h3 with h3 |h3
       ·have:(k==0)=true:=by simp;omega
        rw[this];simp
       ·rw[h3];simp
     ·rw[List.drop_of_length_le (by omega)];rfl
    rw[this];rfl
def zG (B:List UInt8->List UInt8->Prop) (F:List UInt8->List UInt8->Value):List Value->Option (Prop×Value)
 |[.string a,.string b]=>some (B (tl a) (tl b),F (tl a) (tl b))
 |_=>none
theorem L9 {B:List UInt8->List UInt8->Prop} {F:List UInt8->List UInt8->Value} {l:List Value} {y:Prop×Value} (h:zG B F l=some y):∃a b,l=[.string (bs a),.string (bs b)]/\y=(B a b,F a b):=by
 unfold zG at h;split at h
 ·rename_i a b;cases h;exact⟨tl a,tl b,by rw[lH,lH],rfl⟩
 ·cases h
attribute [go_sem] zG.eq_1
theorem Q3 (a b:List UInt8) (m:Mem):FnH Tryz.prog 221 [.v (.string (bs a)),.v (.string (bs b))] ⟨[],[]⟩ m fun r H' _=>r= .v (.bool (iU a b))/\H' =⟨[],[]⟩:=by
 refine aL nu Tryz.func221 ?_
 ·simp only[go_sem];refine⟨fun h=>⟨by omega,by omega,h⟩,?_⟩;rfl
abbrev cf2:Cfg:=fP (fun _=>false) [(221,zG (fun _ _=>True) fun a b=> .bool (iU a b))]
theorem pu2:cK cf2 Tryz.prog:=by
 refine pure_cons (by kernel_rfl) (fun cL y hy _ m=> ?_) pure_nil;obtain⟨a,b,rfl,rfl⟩:=L9 hy;exact Q3 a b m
theorem Ra (a b:List UInt8) (m:Mem):FnH Tryz.prog 182 [.v (.string (bs a)),.v (.string (bs b))] ⟨[],[]⟩ m fun r H' _=>r= .v (.bool (iU a b))/\H' =⟨[],[]⟩:=by
 refine aL pu2 Tryz.func182 ?_
 ·simp only[go_sem]
def EU (B:List UInt8->Int->Prop) (F:List UInt8->Int->Value):List Value->Option (Prop×Value)
 |[.string a,.int .u8 c]=>some (B (tl a) c,F (tl a) c)
 |_=>none
attribute [go_sem] EU.eq_1
theorem Yz {P:Program} {f:FuncId} {B:List UInt8->List UInt8->Prop} {F:List UInt8->List UInt8->Value} (h:∀a b m,B a b->FnH P f [.v (.string (bs a)),.v (.string (bs b))] ⟨[],[]⟩ m fun r H' _=>r= .v (F a b)/\H' =⟨[],[]⟩):ou P f (zG B F):=fun cL y hy hB m=>by
 obtain⟨a,b,rfl,rfl⟩:=L9 hy;exact h a b m hB
theorem YA {P:Program} {f:FuncId} {B:List UInt8->Int->Prop} {F:List UInt8->Int->Value} (h:∀a c m,B a c->FnH P f [.v (.string (bs a)),.v (.int .u8 c)] ⟨[],[]⟩ m fun r H' _=>r= .v (F a c)/\H' =⟨[],[]⟩):ou P f (EU B F):=fun cL y hy hB m=>by
 unfold EU at hy;split at hy
 ·rename_i a c;cases hy;have:=h (tl a) c m hB;rwa [lH] at this
 ·cases hy
theorem Rf (s:List UInt8) (m:Mem) (hg:GlobX m) (hs:s.length<=2147483648):
  FnH Tryz.prog 225 [.v (.string (bs s)),.v (.int .i64 10),.v (.int .i64 64)] ⟨[],[]⟩ m fun r H' m' =>(∃e,r= .v (.tuple ⟨[.int .i64 (iS s).1,e]⟩)/\E7 e/\qS e=(iS s).2)/\H' =⟨[],[]⟩/\m' =m:=by
 refine(Eb (args:=[.string (bs s),.int .i64 10,.int .i64 64]) (R:=fun y=>∃e,y= .tuple ⟨[.int .i64 (iS s).1,e]⟩/\E7 e/\qS e=(iS s).2) fun w D j8 hle=> ?_).mono ?_
 ·have j9:=pP s;obtain⟨_,⟨t4,p4,h4⟩,⟨t5,p5,h5⟩,_⟩:=hg.2 w D hle;cases hp:Lib.parseIntB 64 s with
  |ok v=>
   refine(Tryz.strconv_ParseInt_10_at64_ok (bs s) (by omega) v hp w).mono ?_;rintro e w' ⟨rfl,hw⟩;refine⟨_,rfl,⟨.nilIface,by simp [iS,hp],.inl rfl,by simp [iS,hp,qS]⟩,?_⟩;rcases hw with rfl |⟨t,rfl⟩
   ·exact Below.refl _ _
   ·exact Lib.bytesWorld_below _ _ _
  |range=>
   have B9:(bs s).data.toList=s:=yS s;refine(Tryz.strconv_ParseInt_10_at64_range (bs s) (by omega) hp _ w h5 (.inr ⟨_,_,rfl⟩)).mono ?_;rintro e w' ⟨N,rfl,_,_,hb⟩;exact⟨_,rfl,⟨.iface 221 (.pointer (some ⟨N,0,none⟩)),by simp [iS,hp,B9],.inr ⟨_,_,rfl⟩,by simp [iS,hp,qS]⟩,hb⟩
  |_=>
   refine(Tryz.strconv_ParseInt_10_at64_bad (bs s) (by omega) (by rw[show(bs s).data.toList=s from yS s,hp];intro v e;cases e) (by rw[show(bs s).data.toList=s from yS s,hp];intro e;cases e) _ w h4 (.inr ⟨_,_,rfl⟩)).mono ?_;rintro e w' ⟨N,rfl,_,_,hb⟩;exact⟨_,rfl,⟨.iface 221 (.pointer (some ⟨N,0,none⟩)),by simp [iS,hp],.inr ⟨_,_,rfl⟩,by simp [iS,hp,qS]⟩,hb⟩
 ·rintro r H' m' hm ⟨⟨y,rfl,e,rfl,h3⟩,h1,h2⟩;exact⟨⟨e,rfl,h3⟩,h1,h2⟩
theorem KS:∀(l:List UInt8),dn true l=(if Lib.indexByte l 10<0 then l.length else(Lib.indexByte l 10).toNat+dn false (l.drop (Lib.indexByte l 10).toNat))
 |[]=>rfl
 |c::r=>by
  have ih:=KS r;have cQ:=Lib.indexByte_ge r 10;simp only[dn,Lib.indexByte,beq_iff_eq];by_cases h:c.toNat=10
  ·have:c=10:=HJ h;subst this;simp [dn]
  ·have h' :¬c=10:=fun e=>h (by rw[e];rfl)
   rw[ae h,ae h',ih];by_cases hn:Lib.indexByte r 10= -1
   ·rw[aj hn,aj (by omega),aj (by omega),cv];omega
   ·rw[ae hn,ae (by omega),ae (by omega)];have e:(Lib.indexByte r 10+1).toNat=(Lib.indexByte r 10).toNat+1:=by omega
    rw[e,List.drop_succ_cons];omega
def E5 (s:List UInt8) (c:Int):Int:=Lib.indexByte s c.toNat.toUInt8
theorem YQ (s:List UInt8) (c:UInt8):E5 s c.toNat=Lib.indexByte s c:=by unfold E5;rw[Int.toNat_natCast];simp
abbrev pIB:List Value->Option (Prop×Value):=EU (fun _ _=>True) fun s c=> .int .i64 (E5 s c)
abbrev cf7:Cfg:=fP (fun f=>f==223||f==226||f==185||f==187||f==188||f==189||f==124||f==125) [(184,lU dm),(186,lU dF),(182,zG (fun _ _=>True) fun a b=> .bool (iU a b)),(183,pIB),(192,eZ BL fun s=> .bool (eF s))]
theorem ei:cK cf7 Tryz.prog:=by
 refine pure_cons (by kernel_rfl) (qV JT) (pure_cons (by kernel_rfl) (qV JU) (pure_cons (by kernel_rfl) (Yz fun a b m _=>Ra a b m) (pure_cons (by kernel_rfl) (YA fun a c m _=>JI a c m) (pure_cons (by kernel_rfl) (fM FK) pure_nil))))
theorem S3 (s:List UInt8) (p:Nat) (m:Mem) (hp:p<=s.length) (hs:s.length<=1000000):
  FnH Tryz.prog 124 [.box 0 0] ⟨[⟨0,138,[.v (.string (bs s)),.v (.int .i64 p)]⟩],[]⟩ m fun r H' m' =>r= .tup []/\H' =⟨[⟨0,138,[.v (.string (bs s)),.v (.int .i64 (p+dn false (s.drop p):Nat))]⟩],[]⟩/\m' =m:=by
 refine aL ei Tryz.func124 ?_
 ·simp only[go_sem];refine Uj ei (fun k:Nat=>⟨[⟨0,[],.box 0 0⟩],[],[⟨0,138,[.v (.string (bs s)),.v (.int .i64 k)]⟩],[],1,m⟩)
   (fun k=>k<=s.length/\p+dn false (s.drop p)=k+dn false (s.drop k)) (fun k=>s.length - k) p (by kernel_rfl) (fun _ _=>aq _) (fun _ _=> .inl rfl) (fun _=> ?_) ?_ ?_ ?_
  ·simp only[go_sem]
  ·simp only[go_sem]
  ·exact⟨hp,rfl⟩
  ·rintro k0 ⟨oH,sZ⟩;simp only[go_sem];refine cO ei (fun k:Nat=>⟨[⟨0,[],.box 0 0⟩],[],[⟨0,138,[.v (.string (bs s)),.v (.int .i64 k)]⟩],[],1,m⟩)
    (fun k=>k0<=k/\k<=s.length/\p+dn false (s.drop p)=k+dn false (s.drop k)) (fun k=>s.length - k) k0 (fun _ _=>aq _) (fun _ _=> .inl rfl) ?_ ?_ ?_
   ·simp only[go_sem]
   ·exact⟨aq _,oH,sZ⟩
   ·rintro k ⟨ep,hk,qo⟩;simp only[go_sem];refine kC ei (by kernel_rfl) (by kernel_rfl) (by kernel_rfl) ?_;simp only[go_sem];refine⟨fun ao=> ?_,fun cQ=> ?_⟩
    ·refine kC ei (by kernel_rfl) (by kernel_rfl) (by kernel_rfl) ?_;simp only[go_sem];refine⟨⟨by omega,ao⟩,?_⟩;have cE:k<s.length:=by omega
     have hI:az (k+1):=by unfold az;omega
     rw[drop_at cE] at qo;simp only[dn] at qo;have ws:((s.getD k 0).toNat=9\/(s.getD k 0).toNat=10\/(s.getD k 0).toNat=13\/(s.getD k 0).toNat=32)->
       ∃x' :Nat,(k:Int)+1=x' /\(k0<=x' /\x' <=s.length/\p+dn false (s.drop p)=x' +dn false (s.drop x'))/\s.length - x' <s.length - k:=fun hc=>by
      rw[aj hc] at qo;exact⟨k+1,rfl,⟨by omega,cE,by omega⟩,by omega⟩
     refine⟨fun h=>⟨fun _=>⟨hI,ws (by omega)⟩,fun h' =>absurd h h'⟩,fun h9=>⟨fun h=>⟨fun _=>⟨hI,ws (by omega)⟩,fun h' =>absurd h h'⟩,fun wc=>⟨fun h=>⟨fun _=>⟨hI,ws (by omega)⟩,fun h' =>absurd h h'⟩,
      fun QO=>⟨fun h=>⟨hI,ws (by omega)⟩,fun h32=> ?_⟩⟩⟩⟩
     rw[ae (by omega)] at qo;refine kC ei (by kernel_rfl) (by kernel_rfl) (by kernel_rfl) ?_;simp only[go_sem];refine⟨⟨by omega,by omega,by omega⟩,fun hc=> ?_,fun hc=> ?_⟩
     ·have gQ:E5 (s.drop k) 10=Lib.indexByte (s.drop k) 10:=rfl;have hh:(s.getD k 0).toNat=47/\(s.drop (k+1)).head?.map UInt8.toNat=some 47:=ym.1 (by rw[<- drop_at cE];exact hc);rw[aj hh] at qo;have gv:p+dn false (s.drop p)=k+dn true (s.drop k):=by
       rw[qo,drop_at cE];simp only[dn];rw[ae (by omega)]
      have hi:Lib.indexByte (s.drop k) 10≠0:=by
       rw[drop_at cE];have cQ:=Lib.indexByte_ge (s.drop (k+1)) 10;simp only[Lib.indexByte,beq_iff_eq];rw[ae (fun e=>by rw[e] at hh;exact absurd hh.1 (by decide))];split<;>omega
      have cQ:=Lib.indexByte_ge (s.drop k) 10;have lQ:=AW 10 (s.drop k);rw[cH] at lQ;have fT:=KS (s.drop k);refine kC ei (by kernel_rfl) (by kernel_rfl) (by kernel_rfl) ?_;simp only[go_sem,gQ];refine⟨⟨by omega,by omega,by omega⟩,fun hn=> ?_,fun hn=>⟨by unfold az;omega,k+(Lib.indexByte (s.drop k) 10).toNat,by omega,⟨by omega,?_⟩,by omega⟩⟩
      ·refine kC ei (by kernel_rfl) (by kernel_rfl) (by kernel_rfl) ?_;simp only[go_sem];refine⟨by unfold az;omega,by unfold az;omega,s.length,by omega,⟨aq _,?_⟩,by omega⟩;rw[aj hn,cH] at fT;rw[List.drop_length];simp only[dn];omega
      ·rw[ae hn,List.drop_drop] at fT;omega
     ·have:p+dn false (s.drop p)=k:=by
       rw[qo,ae,Nat.add_zero];rintro⟨e1,e2⟩;rw[drop_at cE,ym.2 ⟨e1,e2⟩] at hc;cases hc
      rw[this]
    ·have e:s.drop k=[]:=List.drop_of_length_le (by omega);rw[e] at qo;rw[qo];rfl
abbrev gK (s:List UInt8) (p:Int):Bx:=⟨0,138,[.v (.string (bs s)),.v (.int .i64 p)]⟩
theorem Q4 (s:List UInt8) (p:Nat) (m:Mem) (hp:p<=s.length) (hs:s.length<=1000000):
  FnH Tryz.prog 189 [.box 0 0] ⟨[gK s p],[]⟩ m fun r H' m' =>m' =m/\match pS (s.drop p) with
   |some o=>r= .tup [Tk.sv ⟨6,o,0,p⟩,.v (.bool true)]/\H' =⟨[gK s (p+o.length)],[]⟩
   |none=>r= .tup [Tk.sv nF,.v (.bool false)]/\H' =⟨[gK s p],[]⟩:=by
 refine aL ei Tryz.func189 ?_
 ·simp only[go_sem];refine ab ((Q8 m).mono ?_);rintro r H' m' hm ⟨rfl,rfl,rfl⟩;simp only[go_sem];refine cO ei (fun k:Nat=>⟨[⟨0,[],.box 0 0⟩,⟨2,[],.box 1 0⟩,⟨7,[],.vec 2 0⟩,⟨8,[],.v (.int .i64 30)⟩,⟨9,[],.v (.int .i64 k)⟩],[],[⟨1,50,nF.cells⟩,gK s p],[⟨2,0,9,1,30,strs fB⟩],3,m'⟩)
   (fun k=>k<=30/\pS (s.drop p)=(fB.drop k).find? fun o=>iU (s.drop p) o) (fun k=>30 - k) 0 (fun _ _=>aq _) (fun _ _=> .inl rfl) ?_ ?_ ?_
  ·simp only[go_sem];exact⟨rfl,rfl⟩
  ·exact⟨by omega,rfl⟩
  ·rintro k ⟨hk,hf⟩;simp only[go_sem];have fT:fB.length=30:=rfl;have gv:(strs fB).length=30:=rfl;refine⟨fun ao=>⟨⟨by omega,ao⟩,by omega,?_⟩,fun cQ=> ?_⟩
   ·have xh:k<fB.length:=by omega
    have e:(strs fB).getD k undef= .string (bs fB[k]):=by
     rw[List.getD_eq_getElem?_getD,strs,List.getElem?_map,List.getElem?_eq_getElem xh];rfl
    rw[e];have vY:fB[k].length<=3:=(by decide:∀o∈fB,o.length<=3) _ (List.getElem_mem xh);rw[List.drop_eq_getElem_cons xh,List.find?_cons] at hf;generalize fB[k]=o at vY hf
    refine kC ei (by kernel_rfl) (by kernel_rfl) (by kernel_rfl) ?_;simp only[go_sem];refine⟨⟨by omega,by omega,by omega⟩,fun h=> ?_,fun h=>⟨by unfold az;omega,k+1,by omega,⟨by omega,?_⟩,by omega⟩⟩
    ·simp only[h] at hf;rw[hf];exact⟨by unfold az;omega,rfl,rfl⟩
    ·simp only[h] at hf;exact hf
   ·obtain rfl:k=30:=by omega
    have e:fB.drop 30=[]:=rfl;rw[e] at hf;simp only[List.find?_nil] at hf;rw[hf];trivial
theorem RW (s:List UInt8) (p:Nat) (m:Mem) (hp:p<=s.length) (hs:s.length<=1000000):
  FnH Tryz.prog 226 [.box 0 0] ⟨[gK s p],[]⟩ m fun r H' m' =>m' =m/\r= .tup [.v (.int .u8 (dJ (s.drop p)).2.1),.v (.bool (dJ (s.drop p)).2.2)]/\H' =⟨[gK s (p+(dJ (s.drop p)).1:Nat)],[]⟩:=by
 refine aL ei Tryz.func226 ?_
 ·simp only[go_sem];cases hr:s.drop p with
  |nil=>
   refine kC ei (by kernel_rfl) (by kernel_rfl) (by kernel_rfl) ?_;simp only[go_sem,hr];exact⟨⟨by omega,by omega,by omega⟩,⟨rfl,rfl⟩,fun h=>absurd trivial h⟩
  |cons c r=>
   have hlen:(s.drop p).length=r.length+1:=by rw[hr];rfl
   rw[cH] at hlen;refine kC ei (by kernel_rfl) (by kernel_rfl) (by kernel_rfl) ?_;simp only[go_sem,hr];have h0:(0:Int)<=0/\(0:Int)<((r.length+1:Nat):Int):=by omega
   refine⟨⟨by omega,by omega,by omega⟩,h0,fun _=>h0,fun h=> ?_,fun h=>⟨h0,fun h1=> ?_,fun h1=>⟨h0,fun h2=> ?_,fun h2=> ?_⟩⟩⟩
   ·have e:dJ (c::r)=(1,(c.toNat:Int),true):=by
     simp only[dJ];rw[aj (by omega)]
    rw[e];exact⟨by unfold az;omega,h0,rfl,rfl⟩
   ·have e:dJ (c::r)=(1,10,true):=by
     simp only[dJ];rw[ae (by omega),aj (by omega)]
    rw[e];exact⟨by unfold az;omega,rfl,rfl⟩
   ·match r,hlen,h2,h0 with
    |[],_,h2,_=>exact absurd h2.2 (by simp)
    |[_],_,h2,_=>exact absurd h2.2 (by simp)
    |x::y::r,hlen,h2,h0=>
     have e:dJ (c::x::y::r)=(3,IntKind.u8.wrap (16 * mD x+mD y),decide (0<=mD x)&&decide (0<=mD y)):=by
      simp only[dJ];rw[ae (by omega),ae (by omega),aj (by omega)]
     rw[e];simp only[List.getD_cons_zero,List.getD_cons_succ,YQ];have hb:∀z:UInt8,-1<=Lib.indexByte rp z/\Lib.indexByte rp z<16:=fun z=>⟨Lib.indexByte_ge _ _,AW z rp⟩
     have h3:=hb x;have h4:=hb y;simp only[mD];simp only[rp] at h3 h4 ⊢;simp only[cv] at hlen ⊢;exact⟨by omega,by omega,by unfold az;omega,by unfold az;omega,by unfold az;omega,rfl,rfl⟩
   ·have e:dJ (c::r)=(0,0,false):=by
     simp only[dJ];rw[ae (by omega),ae (by omega)];split
     ·match r,h2 with
      |[],_=>rfl
      |[_],_=>rfl
      |x::y::r,h2=>simp only[cv] at h2;omega
     ·rfl
    rw[e];exact⟨rfl,rfl⟩
def PT (s:List UInt8) (p:Nat) (o:Option (List UInt8×Nat)) (r:SV) (H' :Hp):Prop:=
 match o with
 |some (b,n)=>r= .tup [Tk.sv ⟨5,b,0,p⟩,.v (.bool (decide (b.length<=1024)))]/\H' =⟨[gK s (p+1+n:Nat)],[]⟩
 |none=>∃t q,r= .tup [Tk.sv t,.v (.bool false)]/\H' =⟨[gK s q],[]⟩
theorem RH (s:List UInt8) (p:Nat) (m:Mem) (hp:p<s.length) (hs:s.length<=1000000):
  FnH Tryz.prog 188 [.box 0 0] ⟨[gK s p],[]⟩ m fun r H' m' =>m' =m/\PT s p (jU (s.drop (p+1))) r H' :=by
 refine aL ei Tryz.func188 ?_
 ·simp only[go_sem];refine Uk ei (by kernel_rfl) ?_;simp only[go_sem];refine⟨by unfold az;omega,?_⟩;refine pO 5 5 1 (by decide) rfl ?_;refine cO ei (fun x:Nat×List UInt8×Nat=>⟨[⟨0,[],.box 0 0⟩,⟨2,[],.box 1 0⟩,⟨4,[],.box 2 0⟩,⟨5,[],.vec 3 x.2.2⟩],[],[⟨2,50,Tk.cells ⟨5,[],0,p⟩⟩,⟨1,50,nF.cells⟩,gK s x.1],[⟨3,x.2.2,5,1,x.2.1.length,kM x.2.1⟩],4,m⟩)
   (fun x=>p+1<=x.1/\x.1<=s.length/\x.2.1.length<=x.1/\∃f,s.length - x.1<f/\jU (s.drop (p+1))=(kG f (s.drop x.1)).map fun y=>(x.2.1++y.1,x.1 - (p+1)+y.2)) (fun x=>s.length - x.1) (p+1,[],0) (fun _ _=>by first |omega |(simp only;omega)) (fun _ _=> .inl rfl) ?_ ?_ ?_
  ·simp only[go_sem];exact⟨rfl,rfl⟩
  ·refine⟨aq _,hp,au _,(s.drop (p+1)).length+1,by rw[cH];omega,?_⟩;show jU _=(jU _).map _;cases jU (s.drop (p+1)) with
   |none=>rfl
   |some x=>simp
  ·rintro⟨q,b,v⟩ ⟨h1,h2,h3,f,hf,hq⟩;simp only at h1 h2 h3 hf hq;obtain⟨f,rfl⟩:∃g,f=g+1:=⟨f - 1,by omega⟩;simp only[go_sem];refine kC ei (by kernel_rfl) (by kernel_rfl) (by kernel_rfl) ?_;simp only[go_sem];refine⟨fun cQ=> ?_,fun ao=> ?_⟩
   ·have e:s.drop q=[]:=List.drop_of_length_le (by omega);rw[e] at hq;have Ca:jU (s.drop (p+1))=none:=hq;rw[Ca];exact⟨⟨5,[],0,p⟩,_,rfl,rfl⟩
   ·have E9:q<s.length:=by omega
    rw[drop_at E9] at hq;simp only[kG] at hq;refine kC ei (by kernel_rfl) (by kernel_rfl) (by kernel_rfl) ?_;simp only[go_sem];refine⟨⟨by omega,by omega⟩,by unfold az;omega,fun zR=> ?_,fun zR=> ?_⟩
    ·rw[aj (by omega)] at hq;refine⟨b,rfl,?_⟩;rw[hq];refine⟨?_,?_⟩
     ·have:decide ((b.length:Int)<=1024)=decide ((b++[]).length<=1024):=by rw[List.append_nil,decide_eq_decide];omega
      rw[this,List.append_nil]
     ·have:((p+1+(q - (p+1)+1):Nat):Int)=q+1:=by omega
      simp only[this]
    ·rw[ae (by omega)] at hq;refine⟨fun ada=> ?_,fun ada=>⟨fun QM=>⟨by kernel_rfl,?_⟩,fun QM=> ?_⟩⟩
     ·rw[aj (by omega)] at hq;have Ca:jU (s.drop (p+1))=none:=hq;rw[Ca];exact⟨⟨5,[],0,p⟩,_,rfl,rfl⟩
     ·rw[ae (by omega),aj (by omega)] at hq;have pC:=RW s (q+1) m (by omega) hs;refine dh (pC.mono ?_);rintro r H' m' hm ⟨rfl,rfl,rfl⟩;simp only[go_sem];obtain⟨qs,bP⟩:=Dq (s.drop (q+1));obtain⟨x,hx⟩:=Lr (s.drop (q+1));rw[hx] at hq ⊢;rw[cH] at qs;rw[List.drop_drop] at hq;generalize (dJ (s.drop (q+1))).1=a at hq qs bP ⊢
      generalize (dJ (s.drop (q+1))).2.2=k at hq bP ⊢
      have ex:UInt8.ofNat ((x.toNat:Int)).toNat=x:=by rw[Int.toNat_natCast];simp
      rw[ex] at hq;refine⟨fun hk=> ?_,fun hk=> ?_⟩
      ·subst hk;have Ca:jU (s.drop (p+1))=none:=hq;rw[Ca];exact⟨⟨5,[],0,p⟩,_,rfl,rfl⟩
      ·subst hk;have ha:=bP rfl;have HN:kM b++[Value.int .u8 (x.toNat:Int)]=kM (b++[x]):=by rw[G9];rfl
       refine⟨⟨by omega,by simp only[maxLen];omega⟩,(q+1+a,b++[x],v+1),⟨rfl,rfl,rfl,by simp,HN⟩,⟨by first |omega |(simp only;omega),by first |omega |(simp only;omega),by simp only[bM,fr];omega,f,by first |omega |(simp only;omega),?_⟩,by first |omega |(simp only;omega)⟩;rw[hq,aj rfl];cases kG f (s.drop (q+1+a)) with
       |none=>rfl
       |some x=>
        have:q - (p+1)+(1+a+x.2)=q+1+a - (p+1)+x.2:=by omega
        simp [this]
     ·rw[ae (by omega),ae (by omega)] at hq;have HN:kM b++[Value.int .u8 ((s.getD q 0).toNat:Int)]=kM (b++[s.getD q 0]):=by rw[G9];rfl
      refine⟨⟨by omega,by simp only[maxLen];omega⟩,(q+1,b++[s.getD q 0],v+1),⟨rfl,rfl,rfl,by simp,HN⟩,⟨by first |omega |(simp only;omega),by first |omega |(simp only;omega),by simp only[bM,fr];omega,f,by first |omega |(simp only;omega),?_⟩,by first |omega |(simp only;omega)⟩;rw[hq];cases kG f (s.drop (q+1)) with
      |none=>rfl
      |some x=>
       have:q - (p+1)+(1+x.2)=q+1 - (p+1)+x.2:=by omega
       simp [this]
theorem Nj {t:List UInt8}:(!decide (((t.getD 0 0).toNat:Int)=48)||decide ((t.length:Int)=1))=(decide ((t.getD 0 0).toNat≠48)||decide (t.length=1)):=by
 have e1:decide (((t.getD 0 0).toNat:Int)=48)=decide ((t.getD 0 0).toNat=48):=by rw[decide_eq_decide];omega
 have e2:decide ((t.length:Int)=1)=decide (t.length=1):=by rw[decide_eq_decide];omega
 rw[e1,e2];simp
theorem RP (s:List UInt8) (p:Nat) (m:Mem) (hg:GlobX m) (hp:p<s.length) (hs:s.length<=1000000) (hd:dF (s.getD p 0).toNat=true):
  FnH Tryz.prog 187 [.box 0 0] ⟨[gK s p],[]⟩ m fun r H' m' =>m' =m/\
   r= .tup [Tk.sv ⟨if(fO (s.drop p)).1=true then 4 else 3,[],(fO (s.drop p)).2.1,p⟩,.v (.bool (fO (s.drop p)).2.2.2)]/\H' =⟨[gK s (p+(fO (s.drop p)).2.2.1:Nat)],[]⟩:=by
 refine aL ei Tryz.func187 ?_
 ·simp only[go_sem];refine cO ei (fun k:Nat=>⟨[⟨0,[],.box 0 0⟩,⟨2,[],.box 1 0⟩,⟨4,[],.v (.int .i64 p)⟩],[],[⟨1,50,nF.cells⟩,gK s k],[],2,m⟩)
   (fun k=>p<=k/\k<=s.length/\p+di (s.drop p)=k+di (s.drop k)) (fun k=>s.length - k) p (fun _ _=>aq _) (fun _ _=> .inl rfl) ?_ ?_ ?_
  ·simp only[go_sem]
  ·exact⟨aq _,by omega,rfl⟩
  ·rintro k ⟨qo,hk,hdk⟩;simp only[go_sem];refine kC ei (by kernel_rfl) (by kernel_rfl) (by kernel_rfl) ?_;simp only[go_sem];refine⟨fun h=>⟨by omega,h⟩,fun h=>⟨by unfold az;omega,k+1,rfl,⟨by omega,by omega,?_⟩,by omega⟩,fun h=> ?_⟩
   ·have e:di (s.drop k)=1+di (s.drop (k+1)):=by
     rw[drop_at (by omega)];simp only[di];rw[aj h.2]
    omega
   ·have j3:di (s.drop k)=0:=by
     rcases h with h |h
     ·rw[List.drop_of_length_le (by omega)];rfl
     ·rcases Nat.lt_or_ge k s.length with h' |h'
      ·rw[drop_at h'];simp only[di];rw[h];rfl
      ·rw[List.drop_of_length_le h'];rfl
    have oH:k=p+di (s.drop p):=by omega
    have zr:p<k:=by
     rw[oH,drop_at hp];simp only[di];rw[aj hd];omega
    clear hdk h j3;have zM:=N6 hp hk oH zr;have jC:=zM.1;have qw:=zM.2.1;have ud:=zM.2.2;have ny:=Rf (jZ s p) m hg (by rw[qw];omega);refine kC ei (by kernel_rfl) (by kernel_rfl) (by kernel_rfl) ?_;simp only[go_sem,jC];refine⟨⟨by omega,by omega,by omega⟩,?_⟩;refine kC ei (by kernel_rfl) (by kernel_rfl) (by kernel_rfl) ?_;simp only[go_sem,jC];refine⟨fun h=>⟨by omega,h⟩,fun h=>⟨by unfold az;omega,by kernel_rfl,dh (ny.mono ?_)⟩,fun h=>ab (ny.mono ?_)⟩
    ·rintro r H' m' hm ⟨⟨e,rfl,he1,he2⟩,rfl,rfl⟩;clear ny;rcases he1 with rfl |⟨te,ve,rfl⟩
     ·simp only[go_sem];refine cg (.hoist 0 (.hoist 1 (.hoist 2 (.hoist 3 (.hoist 4 (.hoist 5 (.hoist 6 (.hoist 7 (.hoist 8 (.hoist 9 (.hoist 10 (.hoist 11 (.hoist 12 (.hoist 13 (.hoist 14 (.hoist 15 (.hoist 16 (.hoist 17 (.hoist 18 (.alt 19 [18,17,16,15,14] (.hoist 20 .done) .stop)))))))))))))))))))) ei (by kernel_rfl) (by kernel_rfl) ?_;simp only[go_sem,ud];have mK:(iS (jZ s p)).2=true:=he2.symm;refine⟨.inl rfl,fun _=>by rw[qw];omega,?_,?_⟩
      ·rw[aj h,aj h,mK,Bool.true_and,Nj]
      ·rw[aj h];have:((p+(k - p+1):Nat):Int)=k+1:=by omega
       rw[this]
     ·simp only[go_sem];refine cg (.hoist 0 (.hoist 1 (.hoist 2 (.hoist 3 (.hoist 4 (.hoist 5 (.hoist 6 (.hoist 7 (.hoist 8 (.hoist 9 (.hoist 10 (.hoist 11 (.hoist 12 (.hoist 13 (.hoist 14 (.hoist 15 (.hoist 16 (.hoist 17 (.hoist 18 (.alt 19 [18,17,16,15,14] (.hoist 20 .done) .stop)))))))))))))))))))) ei (by kernel_rfl) (by kernel_rfl) ?_;simp only[go_sem,ud];have mK:(iS (jZ s p)).2=false:=he2.symm;refine⟨.inr ⟨_,_,rfl⟩,?_,?_⟩
      ·rw[aj h,aj h,mK];rfl
      ·rw[aj h];have:((p+(k - p+1):Nat):Int)=k+1:=by omega
       rw[this]
    ·rintro r H' m' hm ⟨⟨e,rfl,he1,he2⟩,rfl,rfl⟩;clear ny;rcases he1 with rfl |⟨te,ve,rfl⟩
     ·simp only[go_sem];refine cg (.hoist 0 (.hoist 1 (.hoist 2 (.hoist 3 (.hoist 4 (.hoist 5 (.hoist 6 (.hoist 7 (.hoist 8 (.hoist 9 (.hoist 10 (.hoist 11 (.hoist 12 (.hoist 13 (.hoist 14 (.hoist 15 (.hoist 16 (.hoist 17 (.hoist 18 (.alt 19 [18,17,16,15,14] (.hoist 20 .done) .stop)))))))))))))))))))) ei (by kernel_rfl) (by kernel_rfl) ?_;simp only[go_sem,ud];have h:¬((k:Int)<s.length/\(((s.getD k 0).toNat:Nat):Int)=76):=fun x=>h.elim (fun y=>y x.1) (fun y=>y x.2)
      have mK:(iS (jZ s p)).2=true:=he2.symm;refine⟨.inl rfl,fun _=>by rw[qw];omega,?_,?_⟩
      ·rw[ae h,ae h,mK,Bool.true_and,Nj]
      ·rw[ae h];have:((p+(k - p):Nat):Int)=k:=by omega
       rw[this]
     ·simp only[go_sem];refine cg (.hoist 0 (.hoist 1 (.hoist 2 (.hoist 3 (.hoist 4 (.hoist 5 (.hoist 6 (.hoist 7 (.hoist 8 (.hoist 9 (.hoist 10 (.hoist 11 (.hoist 12 (.hoist 13 (.hoist 14 (.hoist 15 (.hoist 16 (.hoist 17 (.hoist 18 (.alt 19 [18,17,16,15,14] (.hoist 20 .done) .stop)))))))))))))))))))) ei (by kernel_rfl) (by kernel_rfl) ?_;simp only[go_sem,ud];have h:¬((k:Int)<s.length/\(((s.getD k 0).toNat:Nat):Int)=76):=fun x=>h.elim (fun y=>y x.1) (fun y=>y x.2)
      have mK:(iS (jZ s p)).2=false:=he2.symm;refine⟨.inr ⟨_,_,rfl⟩,?_,?_⟩
      ·rw[ae h,ae h,mK];rfl
      ·rw[ae h];have:((p+(k - p):Nat):Int)=k:=by omega
       rw[this]
theorem Xg (l:List UInt8) (hl:l.length<=1000000):BL (fZ l):=by
 have h:=WN (l.take (jq l)) [58,58] [47] (by simp) (by rw[List.length_take];omega);rw[List.length_take] at h;simp only[cv,eM] at h;unfold BL fZ;omega
theorem Q2 (s:List UInt8) (p:Nat) (m:Mem) (hg:GlobX m) (hp:p<s.length) (hs:s.length<=1000000):
  FnH Tryz.prog 185 [.box 0 0] ⟨[gK s p],[]⟩ m fun r H' m' =>m.le m' /\
   r= .tup [Tk.sv ⟨if fz.contains (fZ (s.drop p))=true then 2 else 1,fZ (s.drop p),0,p⟩,.v (.bool (eF (fZ (s.drop p))))]/\H' =⟨[gK s (p+jq (s.drop p):Nat)],[]⟩:=by
 refine aL ei Tryz.func185 ?_
 ·simp only[go_sem];refine cg (.hoist 0 (.hoist 1 (.hoist 2 (.hoist 3 (.hoist 4 (.hoist 5 (.hoist 6 (.hoist 7 (.hoist 8 (.alt 9 [3,2,1,0] (.hoist 10 (.hoist 11 (.hoist 12 (.alt 13 [] .done .stop)))) .stop)))))))))) ei (by kernel_rfl) (by kernel_rfl) ?_;simp only[go_sem];have jQ:=wF true (s.drop p);rw[cH] at jQ;refine ab ((K6 s p p m (by omega) (by omega) (by omega)).mono ?_);rintro r H' m' hm ⟨rfl,rfl,rfl⟩;simp only[go_sem];refine⟨by unfold az;omega,?_⟩;refine Wm ei (fun x:Nat×Nat=>⟨[⟨0,[],.box 0 0⟩,⟨2,[],.box 1 0⟩,⟨3,[],.v (.bool false)⟩,⟨4,[],.v (.int .i64 p)⟩],[],[⟨1,50,nF.cells⟩,gK s x.1],[],3,m'⟩)
   (fun x=>p<=x.1/\x.1<=s.length/\s.length - x.1<x.2/\p+jq (s.drop p)=x.1+lN x.2 (s.drop x.1)) (fun x=>s.length - x.1) (p+cC true (s.drop p),(s.drop p).length+1)
   (fun _:Unit=>⟨[⟨0,[],.box 0 0⟩,⟨2,[],.box 1 0⟩,⟨3,[],.v (.bool false)⟩,⟨4,[],.v (.int .i64 p)⟩],[],[⟨1,50,nF.cells⟩,gK s (p+jq (s.drop p):Nat)],[],3,m'⟩) (fun _=>p+jq (s.drop p)<=s.length)
   (by kernel_rfl) (fun _ _=>aq _) (fun _ _=> .inl rfl) (fun _=> ?_) ?_ ?_ (fun _ _=>aq _) (fun _ _=> .inl rfl) (fun _=> ?_) (fun _ hJ=> ?_) ?_
  ·simp only[go_sem]
  ·simp only[go_sem];rfl
  ·refine⟨Nat.le_add_right _ _,by omega,by rw[cH];simp only;omega,?_⟩;simp only[jq,List.drop_drop];omega
  ·simp only[go_sem]
  ·simp only[go_sem];have et:(s.take (p+jq (s.drop p))).drop p=(s.drop p).take (jq (s.drop p)):=by
    rw[List.drop_take];congr 1;omega
   have bh:=Rn ((s.drop p).take (jq (s.drop p))) [58,58] [47] m' hg.1 (by rw[List.length_take,cH];omega) (by simp) (by simp);have eS:Lib.replaceAll ((s.drop p).take (jq (s.drop p))) [58,58] [47]=fZ (s.drop p):=rfl;have Fa:BL (fZ (s.drop p)):=Xg _ (by rw[cH];omega);refine cg (.hoist 0 (.hoist 1 (.hoist 2 (.hoist 3 (.hoist 4 (.hoist 5 (.hoist 6 (.hoist 7 (.hoist 8 (.hoist 9 (.hoist 11 (.alt 10 [11] (.hoist 12 (.alt 13 [12,11] (.alt 14 [] .done .stop) .stop)) (.alt 13 [11,9,8,7,6,5,4,3,2,1,0] (.alt 10 [11] (.hoist 12 (.alt 14 [] .done .stop)) .stop) .stop))))))))))))) ei (by kernel_rfl) (by kernel_rfl) ?_;simp only[go_sem,et];refine⟨⟨by omega,by omega,by omega⟩,ab (bh.mono ?_),ab (bh.mono ?_)⟩
   ·clear bh;rintro r H' jo aH ⟨rfl,rfl,rfl⟩;simp only[go_sem,eS];refine cg (.hoist 1 (.hoist 2 (.alt 0 [2,1] (.alt 3 [] .done .stop) .stop))) ei (by kernel_rfl) (by kernel_rfl) ?_;simp only[go_sem];refine ab ((Fv jo).mono ?_);rintro r H' m3 bN ⟨rfl,rfl,rfl⟩;simp only[go_sem];refine⟨by kernel_rfl,fun ad cp m1 aN bl cu=>dh ((yf fz (fZ (s.drop p)) ad 28 cp m1 cu (by decide)).mono ?_)⟩;rintro r H' m4 dd ⟨rfl,rfl⟩;simp only[go_sem];refine⟨fun hk=> ?_,fun hk=> ?_⟩
    ·refine cg (.hoist 0 (.hoist 1 (.hoist 2 (.alt 3 [0] (.alt 4 [] (.hoist 5 .done) .stop) .stop)))) ei (by kernel_rfl) (by kernel_rfl) ?_;simp only[go_sem];refine⟨Fa,Mem.le_trans aN dd,?_⟩;rw[aj hk]
    ·refine cg (.hoist 0 (.hoist 1 (.hoist 2 (.alt 3 [0] (.alt 4 [] (.hoist 5 .done) .stop) .stop)))) ei (by kernel_rfl) (by kernel_rfl) ?_;simp only[go_sem];refine⟨Fa,Mem.le_trans aN dd,?_⟩;rw[ae (by rw[hk];exact Bool.false_ne_true)]
   ·clear bh;rintro r H' jo aH ⟨rfl,rfl,rfl⟩;simp only[go_sem,eS];refine cg (.hoist 1 (.hoist 2 (.alt 0 [2,1] (.alt 3 [] .done .stop) .stop))) ei (by kernel_rfl) (by kernel_rfl) ?_;simp only[go_sem];refine ab ((Fv jo).mono ?_);rintro r H' m3 bN ⟨rfl,rfl,rfl⟩;simp only[go_sem];refine⟨by kernel_rfl,fun ad cp m1 aN bl cu=>dh ((yf fz (fZ (s.drop p)) ad 28 cp m1 cu (by decide)).mono ?_)⟩;rintro r H' m4 dd ⟨rfl,rfl⟩;simp only[go_sem];refine⟨fun hk=> ?_,fun hk=> ?_⟩
    ·refine cg (.hoist 0 (.hoist 1 (.hoist 2 (.alt 3 [0] (.alt 4 [] (.hoist 5 .done) .stop) .stop)))) ei (by kernel_rfl) (by kernel_rfl) ?_;simp only[go_sem];refine⟨Fa,Mem.le_trans aN dd,?_⟩;rw[aj hk]
    ·refine cg (.hoist 0 (.hoist 1 (.hoist 2 (.alt 3 [0] (.alt 4 [] (.hoist 5 .done) .stop) .stop)))) ei (by kernel_rfl) (by kernel_rfl) ?_;simp only[go_sem];refine⟨Fa,Mem.le_trans aN dd,?_⟩;rw[ae (by rw[hk];exact Bool.false_ne_true)]
  ·rintro⟨k,f⟩ ⟨h1,h2,h3,h4⟩;simp only at h1 h2 h3 h4;obtain⟨f,rfl⟩:∃g,f=g+1:=⟨f - 1,by omega⟩;simp only[lN] at h4;simp only[go_sem];refine kC ei (by kernel_rfl) (by kernel_rfl) (by kernel_rfl) ?_;simp only[go_sem];refine⟨⟨by omega,by omega,by omega⟩,fun h=> ?_,fun h=> ?_⟩
   ·have b8:k+2<=s.length:=by
     have:=DH h;rw[cH] at this;simp only[cv,eM] at this;omega
    have Ih:=wF true (s.drop (k+2));rw[cH] at Ih;rw[List.drop_drop,List.drop_drop] at h4;have e2:((k:Int)+2).toNat=k+2:=by omega
    refine⟨by unfold az;omega,by kernel_rfl,dh ((K6 s k (k+2) m' (by omega) (by omega) (by omega)).mono ?_)⟩;rintro r H' jo aH ⟨rfl,rfl,rfl⟩;simp only[go_sem,e2];refine⟨fun h0=>⟨(),?_,?_⟩,fun h0=>⟨by unfold az;omega,by unfold az;omega,(k+(2+cC true (s.drop (k+2))),f),by simp only;omega,⟨by simp only;omega,by simp only;omega,by simp only;omega,?_⟩,by simp only;omega⟩⟩
    ·rw[ae (by rintro⟨_,x⟩;exact x (by omega))] at h4;rw[h4];rfl
    ·rw[ae (by rintro⟨_,x⟩;exact x (by omega))] at h4;omega
    ·rw[aj ⟨h,by omega⟩] at h4;simp only;omega
   ·rw[ae (by rw[h];rintro⟨x,_⟩;cases x)] at h4;exact⟨(),by rw[h4];rfl,by omega⟩
def ID (s:List UInt8) (p:Nat) (o:Option (Int×List UInt8×Int×Nat)) (r:SV) (H' :Hp):Prop:=
 match o with
 |some (k,t,n,len)=>r= .tup [Tk.sv ⟨k,t,n,p⟩,.v (.bool true)]/\H' =⟨[gK s (p+len:Nat)],[]⟩
 |none=>∃t q,r= .tup [Tk.sv t,.v (.bool false)]/\H' =⟨[gK s q],[]⟩
def xu (s:List UInt8) (p:Nat) (m:Mem) (r:SV) (H' :Hp) (m' :Mem):Prop:=
 m.le m' /\∃(t:Tk) (b:Bool) (q:Int),r= .tup [Tk.sv t,.v (.bool b)]/\H' =⟨[gK s q],[]⟩/\ID s p (iG (s.drop p)) (.tup [Tk.sv t,.v (.bool b)]) ⟨[gK s q],[]⟩
theorem W8 {s:List UInt8} {p:Nat} {m m' :Mem} {r:SV} {H' :Hp} (hp:p<s.length) (h1:dm (s.getD p 0).toNat=true)
  (h:m.le m' /\r= .tup [Tk.sv ⟨if fz.contains (fZ (s.drop p))=true then 2 else 1,fZ (s.drop p),0,p⟩,.v (.bool (eF (fZ (s.drop p))))]/\H' =⟨[gK s (p+jq (s.drop p):Nat)],[]⟩):xu s p m r H' m' :=by
 obtain⟨hle,rfl,rfl⟩:=h;refine⟨hle,_,_,_,rfl,rfl,?_⟩;have e:iG (s.drop p)=if eF (fZ (s.drop p))=true then some (if fz.contains (fZ (s.drop p))=true then 2 else 1,fZ (s.drop p),0,jq (s.drop p)) else none:=by
  rw[drop_at hp];show(if dm (s.getD p 0).toNat=true then _ else _)=_;rw[aj h1]
 rw[e];cases hn:eF (fZ (s.drop p)) with
 |true=>exact⟨rfl,rfl⟩
 |false=>exact⟨_,_,rfl,rfl⟩
theorem Vv {s:List UInt8} {p:Nat} {m m' :Mem} {r:SV} {H' :Hp} (hm:m.le m') (hp:p<s.length) (h1:dm (s.getD p 0).toNat=false) (h2:dF (s.getD p 0).toNat=true)
  (h:m' =m/\r= .tup [Tk.sv ⟨if(fO (s.drop p)).1=true then 4 else 3,[],(fO (s.drop p)).2.1,p⟩,.v (.bool (fO (s.drop p)).2.2.2)]/\H' =⟨[gK s (p+(fO (s.drop p)).2.2.1:Nat)],[]⟩):xu s p m r H' m' :=by
 obtain⟨_,rfl,rfl⟩:=h;refine⟨hm,_,_,_,rfl,rfl,?_⟩;have e:iG (s.drop p)=if(fO (s.drop p)).2.2.2=true then some (if(fO (s.drop p)).1=true then 4 else 3,[],(fO (s.drop p)).2.1,(fO (s.drop p)).2.2.1) else none:=by
  rw[drop_at hp];show(if dm (s.getD p 0).toNat=true then _ else if dF (s.getD p 0).toNat=true then _ else _)=_;rw[ae (by rw[h1];exact Bool.false_ne_true),aj h2]
 rw[e];cases hn:(fO (s.drop p)).2.2.2 with
 |true=>exact⟨rfl,rfl⟩
 |false=>exact⟨_,_,rfl,rfl⟩
theorem Vu {s:List UInt8} {p:Nat} {m m' :Mem} {r:SV} {H' :Hp} (hm:m.le m') (hp:p<s.length) (h1:dm (s.getD p 0).toNat=false) (h2:dF (s.getD p 0).toNat=false) (h3:(((s.getD p 0).toNat:Nat):Int)=34)
  (h:m' =m/\PT s p (jU (s.drop (p+1))) r H'):xu s p m r H' m' :=by
 obtain⟨_,h⟩:=h;have e:iG (s.drop p)=match jU (s.drop (p+1)) with
   |some (b,n)=>if b.length<=1024 then some (5,b,0,1+n) else none
   |none=>none:=by
  rw[drop_at hp];show(if dm (s.getD p 0).toNat=true then _ else if dF (s.getD p 0).toNat=true then _ else if(s.getD p 0).toNat=34 then _ else _)=_;rw[ae (by rw[h1];exact Bool.false_ne_true),ae (by rw[h2];exact Bool.false_ne_true),aj (by omega)];first |done |rfl
 unfold xu;rw[e];cases hq:jU (s.drop (p+1)) with
 |none=>
  rw[hq] at h;obtain⟨t,q,rfl,rfl⟩:=h;exact⟨hm,t,false,q,rfl,rfl,t,q,rfl,rfl⟩
 |some x=>
  obtain⟨b,n⟩:=x;rw[hq] at h;obtain⟨rfl,rfl⟩:=h;refine⟨hm,_,_,_,rfl,rfl,?_⟩;by_cases hb:b.length<=1024
  ·simp only[aj hb,bX hb];exact⟨rfl,by rw[Nat.add_assoc]⟩
  ·simp only[ae hb,bo hb];exact⟨_,_,rfl,rfl⟩
theorem W7 {s:List UInt8} {p:Nat} {m m' :Mem} {r:SV} {H' :Hp} (hm:m.le m') (hp:p<s.length) (h1:dm (s.getD p 0).toNat=false) (h2:dF (s.getD p 0).toNat=false) (h3:¬(((s.getD p 0).toNat:Nat):Int)=34)
  (h:m' =m/\match pS (s.drop p) with
   |some o=>r= .tup [Tk.sv ⟨6,o,0,p⟩,.v (.bool true)]/\H' =⟨[gK s (p+o.length)],[]⟩
   |none=>r= .tup [Tk.sv nF,.v (.bool false)]/\H' =⟨[gK s p],[]⟩):xu s p m r H' m' :=by
 obtain⟨_,h⟩:=h;have e:iG (s.drop p)=(pS (s.drop p)).map fun o=>(6,o,0,o.length):=by
  rw[drop_at hp];show(if dm (s.getD p 0).toNat=true then _ else if dF (s.getD p 0).toNat=true then _ else if(s.getD p 0).toNat=34 then _ else _)=_;rw[ae (by rw[h1];exact Bool.false_ne_true),ae (by rw[h2];exact Bool.false_ne_true),ae (by omega)]
 unfold xu;rw[e];cases hq:pS (s.drop p) with
 |none=>
  rw[hq] at h;obtain⟨rfl,rfl⟩:=h;exact⟨hm,nF,false,p,rfl,rfl,nF,p,rfl,rfl⟩
 |some o=>
  rw[hq] at h;obtain⟨rfl,rfl⟩:=h;exact⟨hm,_,_,_,rfl,rfl,rfl,rfl⟩
theorem TP (s:List UInt8) (p:Nat) (m:Mem) (hg:GlobX m) (hp:p<s.length) (hs:s.length<=1000000):
  FnH Tryz.prog 125 [.box 0 0] ⟨[gK s p],[]⟩ m fun r H' m' =>xu s p m r H' m' :=by
 refine aL ei Tryz.func125 ?_
 ·simp only[go_sem];refine kC ei (by kernel_rfl) (by kernel_rfl) (by kernel_rfl) ?_;simp only[go_sem]
  refine⟨by omega,fun h1=>ab (((Q2 s p m hg hp hs).mono fun r H' m' hm h=>W8 hp h1 h).mono ?_),fun h1=>⟨fun h2=>ab (((RP s p m hg hp hs h2).mono fun r H' m' hm h=>Vv hm hp h1 h2 h).mono ?_),
   fun h2=>⟨fun h3=>ab (((RH s p m hp hs).mono fun r H' m' hm h=>Vu hm hp h1 h2 h3 h).mono ?_),fun h3=>ab (((Q4 s p m (by omega) hs).mono fun r H' m' hm h=>W7 hm hp h1 h2 h3 h).mono ?_)⟩⟩⟩
  all_goals
   rintro r H' m' hm ⟨hle,t,b,q,rfl,rfl,hN⟩;simp only[go_sem];exact⟨hle,t,b,q,rfl,rfl,hN⟩
theorem X7 {s:List UInt8} {p:Nat} {o:Option (Int×List UInt8×Int×Nat)} {t:Tk} {q:Int} (h:ID s p o (.tup [Tk.sv t,.v (.bool false)]) ⟨[gK s q],[]⟩):o=none:=by
 cases o with
 |none=>rfl
 |some x=>
  obtain⟨k,tt,n,len⟩:=x;have h1:=h.1;simp at h1
theorem Wq {s:List UInt8} {p:Nat} {o:Option (Int×List UInt8×Int×Nat)} {t:Tk} {q:Int} (h:ID s p o (.tup [Tk.sv t,.v (.bool true)]) ⟨[gK s q],[]⟩):
  ∃k tt n len,o=some (k,tt,n,len)/\t=⟨k,tt,n,p⟩/\q=(p+len:Nat):=by
 cases o with
 |none=>
  obtain⟨t',q',h1,_⟩:=h;simp at h1
 |some x=>
  obtain⟨k,tt,n,len⟩:=x;obtain⟨h1,h2⟩:=h;obtain⟨tk,ts,tn,ta⟩:=t;simp only[Tk.sv,Tk.cells,SV.tup.injEq,List.cons.injEq,SV.agg.injEq,SV.v.injEq,Value.int.injEq,Value.string.injEq,true_and,and_true] at h1;simp only[Hp.mk.injEq,List.cons.injEq,Bx.mk.injEq,SV.v.injEq,Value.int.injEq,true_and,and_true] at h2;obtain⟨rfl,h12,rfl,rfl⟩:=h1;have:=yQ h12;subst this;exact⟨_,_,_,_,rfl,rfl,h2⟩
theorem Ft (s:List UInt8) (m:Mem) (hg:GlobX m) (hs:s.length<=4611686018427387904):
  FnH Tryz.prog 48 [.v (.string (bs s))] ⟨[],[]⟩ m fun r H' m' =>an m m' /\vJ (aP s) r H' :=by
 refine aL ei Tryz.func48 ?_
 ·simp only[go_sem];refine⟨fun h=> ?_,fun h=> ?_⟩
  ·have e:aP s=([],0,8):=aj (by omega);rw[e];exact .inr ⟨by decide,rfl,rfl,rfl⟩
  ·refine pO 5 50 4 (by decide) rfl ?_;have B9:aP s=nh s (s.length+1) 0 []:=ae (by omega);refine cO ei (fun x:Nat×List Tk×Nat×Mem=>⟨[⟨0,[],.v (.string (bs s))⟩,⟨5,[],.vec 1 x.2.2.1⟩,⟨6,[],.box 0 0⟩],[],[gK s x.1],[⟨1,x.2.2.1,50,4,x.2.1.length,cG x.2.1⟩],2,x.2.2.2⟩)
    (fun x=>an m x.2.2.2/\GlobX x.2.2.2/\x.1<=s.length/\x.2.1.length<=5000/\∃f,s.length - x.1<f/\aP s=nh s f x.1 x.2.1) (fun x=>s.length - x.1) (0,[],0,m) (fun _ _=>aq _) (fun x hx=>hx.1) ?_ ?_ ?_
   ·simp only[go_sem];exact⟨rfl,rfl⟩
   ·exact⟨.inl rfl,hg,au _,au _,s.length+1,by simp only;omega,B9⟩
   ·rintro⟨p,acc,u,mm⟩ ⟨h1,h2,h3,h4,f,h5,h6⟩;simp only at h1 h2 h3 h4 h5 h6;obtain⟨f,rfl⟩:∃g,f=g+1:=⟨f - 1,by omega⟩;simp only[nh] at h6;have IX:=wD false (s.drop p);rw[cH] at IX;have gw:=S3 s p mm h3 (by omega);obtain⟨q,hq⟩:∃q,p+dn false (s.drop p)=q:=⟨_,rfl⟩;rw[hq] at h6 gw;have hqs:q<=s.length:=by omega
    simp only[go_sem];refine ab (gw.mono ?_);rintro r H' m' hm ⟨rfl,rfl,rfl⟩;clear gw;simp only[go_sem];refine⟨fun cQ=>⟨h1,?_⟩,fun ao=>⟨fun af7=>⟨h1,?_⟩,fun agj=>ab ((TP s q m' h2 (by omega) (by omega)).mono ?_)⟩⟩
    ·rw[h6,aj (by omega)];exact .inl ⟨rfl,_,_,rfl,rfl⟩
    ·rw[h6,ae (by omega),aj (by omega)];exact .inr ⟨by decide,rfl,rfl,rfl⟩
    ·rintro r H' jo aH ⟨hle,t,b,qq,rfl,rfl,hN⟩;simp only[go_sem,Tk.sv,Tk.cells];have Ci:an m jo:=Gq h1 hle;refine⟨fun hb=>⟨Ci,?_⟩,fun hb=>⟨⟨by omega,by simp only[maxLen];omega⟩,?_⟩⟩
     ·have ht:=X7 (hb▸hN);rw[h6,ae (by omega),ae (by omega),ht];exact .inr ⟨by simp,rfl,rfl,rfl⟩
     ·obtain⟨k,tt,n,len,ht,e1,e2⟩:=Wq (hb▸hN);rw[ht] at h6;rw[ae (by omega),ae (by omega)] at h6;have hlen:=GI ht;rw[cH] at hlen;refine⟨(q+len,acc++[t],u+1,jo),⟨rfl,e2,⟨rfl,by simp,JP acc t⟩,.inl rfl⟩,⟨Ci,h2.up hle,by simp only;omega,by simp only[bM,fr];omega,f,by simp only;omega,?_⟩,by simp only;omega⟩;rw[h6,e1]
end Go.Proofs.YtimddhkipjedcaaGreatDoor.E
namespace Go.Proofs.YtimddhkipjedcaaGreatDoor.E
open Go Go.ChangeShapes Go.WideShapes Go.ChangeAt Go.RowKit
theorem OT: "*" ++ "errors.errorString" = "*errors.errorString" :=by decide
theorem vB (u:TypeId) (h:Tryz.prog.typeName? 3 u=some "*errors.errorString"):u=237:=
 typeName_ptr_named (nm:= "errors.errorString") (by rw[OT];kernel_rfl) (by kernel_rfl) (by decide) u (by rw[OT];exact h)
theorem VG {W:World} (QE:laidMetH Tryz.prog yZ W) (hs:W.ShapedOpen Tryz.prog):GlobX ⟨W,kS W⟩:=by
 have hg:=Xi QE hs;have hL:=QE;rw[MakeChecks.laidMetH_plain _ _ _ (by kernel_rfl)] at hL;have h3:=hL.tail.tail;have ht:=Lib.tabIs_of_head (P:=Tryz.prog) (zs:=Lib.pow10Tab) (g:=6) (t:=250) (e:=217) (n:=20) (by kernel_rfl) (by kernel_rfl) (by kernel_rfl) (by kernel_rfl) (by kernel_rfl) (by kernel_rfl) h3;obtain⟨a5,_,v5,_⟩:=laid_sentinel (P:=Tryz.prog) (g:=3) (ti:=195) (tp:=237) (te:=239) (ts:=9) h3.tail.tail (by kernel_rfl) (by kernel_rfl) Tryz.underlying195 vB Tryz.underlying237 Tryz.underlying239 rfl rfl (by kernel_rfl) (by kernel_rfl) (by kernel_rfl);obtain⟨a4,_,v4,_⟩:=laid_sentinel (P:=Tryz.prog) (g:=2) (ti:=195) (tp:=237) (te:=239) (ts:=9) h3.tail.tail.tail (by kernel_rfl) (by kernel_rfl) Tryz.underlying195 vB Tryz.underlying237 Tryz.underlying239 rfl rfl (by kernel_rfl) (by kernel_rfl) (by kernel_rfl);obtain⟨k,hk⟩:=g1 W hs;refine⟨hg,fun w D hle=> ?_⟩;exact⟨⟨k,DB hle hk⟩,⟨_,_,DB hle (by rw[World.var?_cell (by kernel_rfl) v4 0];rfl)⟩,⟨_,_,DB hle (by rw[World.var?_cell (by kernel_rfl) v5 0];rfl)⟩,NT hle ht⟩
theorem Si {H:Type} {enc:TypeId×Value->H} {a:Assume} {C:Checked} {os:Os} {f:FuncId} {fn:Func} {s:ChangeSpec} {conds:List PathCond} {apart fresh handsOn again:Bool} {X:World->Array Value->Prop}
  (hX:∀(w w' :World) (args:Array Value),w.heap=w'.heap->X w args->X w' args)
  (own:ownKnob C.prog.godebug=none) (started:os.Started) (YJ:C.prog.inits.idxOf? f=none) (fk:C.prog.funcs[f]? =some fn)
  (witness:∃(w:World) (tape:Tape) (i:Input),w.os=os/\(w.forCall tape i).Shaped C.prog/\i.vars=[]/\Input.okWide C.prog (w.forCall tape i) .any w.heap.size f i/\
   ((s.pre enc C.prog fn conds apart (w.forCall tape i).memory i.args/\X (w.forCall tape i).memory i.args)/\sizedMet enc C.prog fn (OpenSpec.ofChange s) apart (w.forCall tape i).memory i.args)/\a.holds C.prog (lone (Frame.enter C.prog f i.args .normal) [] (w.forCall tape i)))
  (V7:∀(W:World) (base:Nat) (args:Array Value) (ds gs:List (DataW H)) (before:List MemPlace),
   (∀(j:Nat) t v,fn.params[j]? =some t->args[j]? =some v->Value.okWide C.prog W .any base t v)->
   DataW.Whole enc C.prog fn.params.toList s.vars apart W args.toList ds gs before->X W args->W.ShapedOpen C.prog->
   (DataW.weightsEach C.prog (fn.params.toList++s.plain.varTypes C.prog) (ds++gs)).all (· <=reachBytes)=true->
   Calls C.prog f args W fun e W' =>∃v,e= .returned v/\s.post enc C.prog fn apart fresh handsOn again W args v W'):
  ReturnsInHanded a C os f .any (fun w args=>(s.pre enc C.prog fn conds apart w args/\X w args)/\sizedMet enc C.prog fn (OpenSpec.ofChange s) apart w args) (s.post enc C.prog fn apart fresh handsOn again):=by
 refine returnsInHanded_of_calls own started YJ witness ?_;intro w tape i _ xG _ ax acT af5;obtain⟨_,_,_,fn',hfn',_,_,_,_,EC⟩:=ax;have e:fn' =fn:=Option.some.inj (hfn'.symm.trans fk);subst e;obtain⟨⟨⟨ds,gs,before,hw,hc⟩,hx⟩,hz⟩:=acT;have B7:=DataW.Whole.of_heap (w' :=w.forCall tape i) (by rfl) hw;refine(V7 (w.forCall tape i) w.heap.size i.args ds gs before EC B7 (hX _ _ _ (by rfl) hx) xG (hz.weights hw)).mono fun e W' ⟨v,he,hp⟩=> ?_
 subst he;exact ChangeSpec.post_blind hp
theorem Ya:ft Tryz.prog 62=some [.v (.slice none 0 0),.v (.int .i64 0),.v (.int .i64 0),.v (.bool false),.v (.int .i64 0)]:=by kernel_rfl
theorem aaV:eo Tryz.prog 62=some (some 5):=by kernel_rfl
theorem abp:bC Tryz.prog 62=5:=by kernel_rfl
theorem Xw:cM Tryz.prog 62 0=some (0,none,1):=by kernel_rfl
theorem Xv:cM Tryz.prog 62 1=some (1,none,1):=by kernel_rfl
theorem Xu:cM Tryz.prog 62 2=some (2,none,1):=by kernel_rfl
theorem Xt:cM Tryz.prog 62 3=some (3,none,1):=by kernel_rfl
theorem Xs:cM Tryz.prog 62 4=some (4,none,1):=by kernel_rfl
theorem aaJ:nd Tryz.prog 62=true:=by kernel_rfl
theorem aaR:eo Tryz.prog 45=some none:=by kernel_rfl
theorem aa3:eo Tryz.prog 4=some none:=by kernel_rfl
theorem aby:bC Tryz.prog 4=1:=by kernel_rfl
attribute [go_sem] aa3 aby aaR Ya aaV abp Xw Xv Xu Xt Xs aaJ dX
structure PSt where
 i:Nat
 fl:Bool
 off:Int
abbrev pH (ts:List Tk) (en:Int) (s:PSt):Hp:=⟨[⟨0,62,[.vec 1 0,.v (.int .i64 s.i),.v (.int .i64 en),.v (.bool s.fl),.v (.int .i64 s.off)]⟩],[⟨1,0,50,4,ts.length,cG ts⟩]⟩
abbrev PX (t:Tk):SV:= .agg [.v (.int .i64 t.k),.v (.string (bs t.s)),.v (.int .i64 t.n),.v (.int .i64 t.at_)]
def zT:Tk:=⟨0,[],0,0⟩
def aO (ts:List Tk) (i:Nat):Tk:=ts.getD i zT
theorem Ao {ts:List Tk} {i:Nat} (h:i<ts.length):((cG ts).drop (i * 4)).take 4=dX (aO ts i):=by
 induction ts generalizing i with
 |nil=>cases h
 |cons t r ih=>
  cases i with
  |zero=>simp [cG,dX,aO]
  |succ i=>
   have:=ih (i:=i) (by simpa using h);have e:cG (t::r)=dX t++cG r:=by simp [cG,dX]
   have e2:aO (t::r) (i+1)=aO r i:=rfl;rw[e2,e,show(i+1) * 4=4+i * 4 by omega,<- List.drop_drop];exact this
theorem yw (ts:List Tk) (en:Int) (s:PSt) (m:Mem) (hn:ts.length<=100000000):FnH Tryz.prog 151 [.box 0 0] (pH ts en s) m fun r H' _=>r=PX (aO ts s.i)/\H' =pH ts en s:=by
 refine aL ay Tryz.func151 ?_
 ·simp only[go_sem];refine cg (.hoist 0 (.hoist 1 (.hoist 2 (.hoist 3 (.hoist 4 (.hoist 5 (.hoist 6 (.hoist 7 (.hoist 8 (.hoist 9 .done)))))))))) ay (by kernel_rfl) (by kernel_rfl) ?_;simp only[go_sem];refine⟨fun h=> ?_,fun h=> ?_⟩
  ·have hi:s.i<ts.length:=by omega
   have hc:=Ao hi;refine cg (.hoist 0 (.hoist 1 (.hoist 2 (.hoist 3 (.hoist 4 (.hoist 5 (.hoist 6 (.hoist 7 (.hoist 8 (.hoist 9 (.alt 10 [] .done .stop))))))))))) ay (by kernel_rfl) (by kernel_rfl) ?_;simp only[go_sem,hc];exact⟨⟨by omega,h⟩,by have:(cG ts).length=ts.length * 4:=DR ts;omega⟩
  ·have:aO ts s.i=zT:=by rw[aO,List.getD_eq_getElem?_getD,List.getElem?_eq_none (by omega)];rfl
   rw[this];rfl
def ah (ts:List Tk) (i:Nat) (w:List UInt8):Bool:=(decide ((aO ts i).k=2)||decide ((aO ts i).k=6))&&decide ((aO ts i).s=w)
theorem Dh (ts:List Tk) (en:Int) (s:PSt) (w:List UInt8) (m:Mem) (hn:ts.length<=100000000):FnH Tryz.prog 74 [.box 0 0,.v (.string (bs w))] (pH ts en s) m fun r H' m' =>an m m' /\r= .v (.bool (ah ts s.i w))/\H' =pH ts en s:=by
 have hp:=yw ts en s m hn;refine aL ay Tryz.func74 ?_
 ·simp only[go_sem];refine ab (hp.mono ?_);clear hp;rintro r H' m1 aN ⟨rfl,rfl⟩;simp only[go_sem];exact⟨.inr aN,rfl⟩
def jV (ts:List Tk) (en:Int) (s:PSt):PSt:=if s.fl=true then s else⟨ts.length,true,if s.i<ts.length then(aO ts s.i).at_ else en⟩
theorem Zn {ts:List Tk} {i:Nat} (h:i<ts.length):(cG ts).getD (i * 4+3) undef= .int .i64 (aO ts i).at_:=by
 have:=congrArg (fun l=>l[3]?) (Ao h);simp only[List.getElem?_take,List.getElem?_drop] at this;rw[aj (by decide)] at this;rw[List.getD_eq_getElem?_getD,this];rfl
theorem Aj (ts:List Tk) (en:Int) (s:PSt) (m:Mem) (hn:ts.length<=100000000):FnH Tryz.prog 32 [.box 0 0] (pH ts en s) m fun r H' m' =>r= .tup []/\m' =m/\H' =pH ts en (jV ts en s):=by
 refine aL ay Tryz.func32 ?_
 ·simp only[go_sem];refine⟨fun h=>by rw[jV,aj h],fun h=> ?_⟩;have h' :¬s.fl=true:=by rw[h];decide
  refine cg (.hoist 0 (.hoist 1 (.hoist 2 (.hoist 3 (.hoist 4 (.hoist 5 (.hoist 6 (.hoist 7 (.hoist 8 (.hoist 9 .done)))))))))) ay (by kernel_rfl) (by kernel_rfl) ?_;simp only[go_sem];refine⟨fun hi=> ?_,fun hi=> ?_⟩
  ·have ls:s.i<ts.length:=by omega
   have hc:=Zn ls;refine cg (.hoist 0 (.hoist 1 (.hoist 2 (.hoist 3 (.hoist 4 (.hoist 5 (.hoist 6 (.hoist 7 (.hoist 8 (.hoist 9 (.hoist 10 (.hoist 11 (.hoist 12 (.hoist 13 (.alt 14 [] .done .stop))))))))))))))) ay (by kernel_rfl) (by kernel_rfl) ?_;simp only[go_sem,hc];have hl:=DR ts;rw[jV,ae h',aj ls];exact⟨⟨by omega,hi⟩,by omega,by omega,rfl⟩
  ·have ls:¬s.i<ts.length:=by omega
   rw[jV,ae h',ae ls]
def PSt.next (s:PSt):PSt:=⟨s.i+1,s.fl,s.off⟩
theorem aJ {ts:List Tk} {i:Nat} {w:List UInt8} (h:ah ts i w=true):i<ts.length:=by
 by_cases hi:i<ts.length
 ·exact hi
 ·have e:aO ts i=zT:=by rw[aO,List.getD_eq_getElem?_getD,List.getElem?_eq_none (by omega)];rfl
  rw[ah,e] at h;simp [zT] at h
theorem td (ts:List Tk) (en:Int) (s:PSt) (w:List UInt8) (m:Mem) (hn:ts.length<=100000000):FnH Tryz.prog 49 [.box 0 0,.v (.string (bs w))] (pH ts en s) m fun r H' m' =>an m m' /\r= .v (.bool (ah ts s.i w))/\H' =pH ts en (if ah ts s.i w=true then s.next else s):=by
 have hp:=Dh ts en s w m hn;have ao:=aJ (ts:=ts) (i:=s.i) (w:=w);refine aL ay Tryz.func49 ?_
 ·simp only[go_sem];refine ab (hp.mono ?_);clear hp;rintro r H' m1 aN ⟨l1,rfl,rfl⟩;simp only[go_sem];refine⟨fun h=>⟨l1,?_⟩,fun h=> ?_⟩
  ·rw[h];exact⟨rfl,rfl⟩
  ·have hi:=ao h;rw[h];exact⟨by unfold az;omega,l1,rfl,rfl⟩
theorem RV (ts:List Tk) (en:Int) (s:PSt) (w:List UInt8) (m:Mem) (hn:ts.length<=100000000):FnH Tryz.prog 52 [.box 0 0,.v (.string (bs w))] (pH ts en s) m fun r H' m' =>an m m' /\r= .tup []/\H' =pH ts en (if ah ts s.i w=true then s.next else jV ts en s):=by
 have hp:=td ts en s w m hn;have hf:=fun m' =>Aj ts en s m' hn
 refine aL ay Tryz.func52 ?_
 ·simp only[go_sem];refine ab (hp.mono ?_);clear hp;rintro r H' m1 aN ⟨l1,rfl,rfl⟩;cases h:ah ts s.i w with
  |true=>
   clear hf;simp only[go_sem];exact l1
  |false=>
   simp only[go_sem];refine ab ((hf m1).mono ?_);clear hf;rintro r H' m2 aH ⟨rfl,rfl,rfl⟩;simp only[go_sem];exact l1
theorem XV {k:IntKind} {n:Int} {x:Value} (h:nj (.v (.int k n)) (.v x)=true):∃a,x= .int k a:=by
 cases x<;>simp only[nj] at h;case int k' a=>exact⟨a,by have:=of_decide_eq_true h;subst this;rfl⟩
 all_goals cases h
theorem XU {s:ByteArray} {x:Value} (h:nj (.v (.string s)) (.v x)=true):∃a,x= .string a:=by
 cases x<;>simp only[nj] at h;case string a=>exact⟨a,rfl⟩
 all_goals cases h
theorem eq_int {k:IntKind} {a:Int} {y:Value} {e:Bool} (h:mW (.v (.int k a)) (.v y)=some e):∃b,y= .int k b/\e=decide (a=b):=by
 cases y<;>simp only[mW] at h;case int k' b=>
  split at h
  ·rename_i hk;subst hk;exact⟨b,rfl,(Option.some.inj h).symm⟩
  ·cases h
 all_goals cases h
theorem Zj {a:ByteArray} {y:Value} {e:Bool} (h:mW (.v (.string a)) (.v y)=some e):∃b,y= .string b/\e=decide (tl a=tl b):=by
 cases y<;>simp only[mW] at h;case string b=>exact⟨b,rfl,(Option.some.inj h).symm⟩
 all_goals cases h
theorem C2 {z:SV} {zs:List SV} {xs:List Value} (h:jd (z::zs) (xs.map .v)=true):∃x r,xs=x::r/\nj z (.v x)=true/\jd zs (r.map .v)=true:=by
 cases xs with
 |nil=>simp [jd] at h
 |cons x r=>simp only[br,jd,cY] at h;exact⟨x,r,rfl,h.1,h.2⟩
theorem Dm {xs:List Value} (h:jd [] (xs.map .v)=true):xs=[]:=by
 cases xs with
 |nil=>rfl
 |cons x r=>simp [jd] at h
theorem F3 {x:Value} {xs ys:List Value} {b:Bool} (h:gT ((x::xs).map .v) (ys.map .v)=some b):∃y r e e',ys=y::r/\mW (.v x) (.v y)=some e/\gT (xs.map .v) (r.map .v)=some e' /\b=(e&&e'):=by
 cases ys with
 |nil=>simp [gT] at h
 |cons y r=>
  simp only[br,gT,Option.bind_eq_some_iff,Option.map_eq_some_iff] at h;obtain⟨e,he,e',rS,rfl⟩:=h;exact⟨y,r,e,e',rfl,he,rS,rfl⟩
theorem Lz {ys:List Value} {b:Bool} (h:gT [] (ys.map .v)=some b):ys=[]/\b=true:=by
 cases ys with
 |nil=>simp only[List.map_nil,gT,dy] at h;exact⟨rfl,h.symm⟩
 |cons y r=>simp [gT] at h
def kindOk (P:Program) (t:TypeId):SV->Bool
 | .v (.int _ _)=>match P.underlying t with |some (.int _)=>true |_=>false
 | .v (.string _)=>match P.underlying t with |some .string=>true |_=>false
 | .v (.bool _)=>match P.underlying t with |some .bool=>true |_=>false
 |_=>false
def BD (P:Program):Nat->List SV->List Field->Bool
 |_,[],[]=>true
 |off,z::zs,f::fs=>f.name != "_" &&decide (f.offset=off)&&decide (eo P f.type=some none)&&kindOk P f.type z&&BD P (off+1) zs fs
 |_,_,_=>false
theorem Ko {P:Program} {t:TypeId} {z:SV} {x y:Value} {e:Bool} {w:World} (d:Nat) (hk:kindOk P t z=true) (hf:nj z (.v x)=true) (he:mW (.v x) (.v y)=some e):
  (Op.equalIn (d+1) t x y).run P w= .ok e w:=by
 cases z with
 |v z=>
  cases z with
  |int k n=>
   obtain⟨a,rfl⟩:=XV hf;obtain⟨b,rfl,rfl⟩:=eq_int he;simp only[kindOk] at hk;split at hk
   ·rename_i k' hu;rw[run_equalIn_int w d t k k' a b hu,Bool.beq_eq_decide_eq]
   ·cases hk
  |string n=>
   obtain⟨a,rfl⟩:=XU hf;obtain⟨b,rfl,rfl⟩:=Zj he;simp only[kindOk] at hk;split at hk
   ·rename_i hu;rw[run_equalIn_string w d t a b hu,yt,yt,Bool.beq_eq_decide_eq]
   ·cases hk
  |bool n=>
   cases x<;>simp only[nj] at hf;case bool a=>
    cases y<;>simp only[mW] at he;case bool b=>
     cases he;simp only[kindOk] at hk;split at hk
     ·rename_i hu;rw[run_equalIn_bool' w d t a b hu]
     ·cases hk
    all_goals cases he
   all_goals cases hf
  |_=>cases hk
 |_=>cases hk
theorem GM {P:Program} {d:Nat} {w:World} {cs ds:List Value}:∀{fs:List Field} {zs:List SV} {off:Nat} {us vs:List Value} {b:Bool},
  BD P off zs fs=true->jd zs (us.map .v)=true->gT (us.map .v) (vs.map .v)=some b->cs.drop off=us->ds.drop off=vs->(Op.eqFields (d+1) ⟨cs⟩ ⟨ds⟩ fs).run P w= .ok b w
 |[],zs,off,us,vs,b,h,hf,he,hu,hv=>by
  cases zs with
  |nil=>
   cases Dm hf;rw[List.map_nil] at he;obtain⟨_,rfl⟩:=Lz he;rfl
  |cons z zs=>cases h
 |f::fs,zs,off,us,vs,b,h,hf,he,hu,hv=>by
  cases zs with
  |nil=>cases h
  |cons z zs=>
   simp only[BD,cY,gz,bne_iff_ne] at h;obtain⟨⟨⟨⟨h1,h2⟩,h3⟩,h4⟩,h5⟩:=h;obtain⟨x,IH,rfl,g1,g2⟩:=C2 hf;obtain⟨y,IF,e,e',rfl,g3,g4,rfl⟩:=F3 he;have hx:cs[off]? =some x:=by
    have:=congrArg (fun l:List Value=>l[0]?) hu;simpa using this
   have hy:ds[off]? =some y:=by
    have:=congrArg (fun l:List Value=>l[0]?) hv;simpa using this
   have B8:cs.drop (off+1)=IH:=by
    have:=congrArg (List.drop 1) hu;rw[List.drop_drop] at this;simpa [Nat.add_comm] using this
   have IV:ds.drop (off+1)=IF:=by
    have:=congrArg (List.drop 1) hv;rw[List.drop_drop] at this;simpa [Nat.add_comm] using this
   subst h2;simp only[Op.eqFields,aj h1,Sem.run_bind,wy h3 (show _ from hx),wy h3 (show _ from hy),Result.andThen_ok,Ko d h4 g1 g3];cases e with
   |false=>simp
   |true=>
    simp only[Bool.not_true,Bool.false_eq_true,if_false,Bool.true_and];exact GM h5 g2 g4 B8 IV
theorem NJ {P:Program} {t:TypeId} {zs:List SV} {fs:List Field} (hz:ft P t=some zs) (hg:P.eqGuardType P.depth t=false) (hu:P.underlying t=some (.struct (P.fieldsOf t))) (hp:P.stoodInHeld t=false)
  (Cj:(P.fieldsOf t).toList=fs) (h:BD P 0 zs fs=true):uo P t:=by
 intro xs ys b w o o' op he hf;rw[hz] at hf;refine⟨run_eqGuard_agg w op t o o' _ _ hg,?_⟩;show(Op.equalIn (9999+1) t _ _).run _ w=_;rw[run_equalIn_struct w 9999 t _ _ hu hp,Cj];exact GM (d:=9998) h hf he rfl rfl
theorem adK:eo Tryz.prog 4=some none:=by kernel_rfl
theorem sz4:bC Tryz.prog 4=1:=by kernel_rfl
theorem IB:eo Tryz.prog 30=some (some 3):=by kernel_rfl
theorem abm:bC Tryz.prog 30=3:=by kernel_rfl
theorem OP:ft Tryz.prog 30=some [.v (.int .i64 0),.v (.int .u8 0),.v (.string (bs []))]:=by kernel_rfl
theorem Y8:cM Tryz.prog 30 0=some (0,none,1):=by kernel_rfl
theorem Y7:cM Tryz.prog 30 1=some (1,none,1):=by kernel_rfl
theorem Y6:cM Tryz.prog 30 2=some (2,none,1):=by kernel_rfl
theorem adB:nd Tryz.prog 30=true:=by kernel_rfl
theorem qc:uo Tryz.prog 30:=NJ OP (by kernel_rfl) (by kernel_rfl) (by kernel_rfl) rfl (by kernel_rfl)
theorem adG:eo Tryz.prog 33=some (some 8):=by kernel_rfl
theorem szX:bC Tryz.prog 33=8:=by kernel_rfl
theorem Zw:ft Tryz.prog 33=some [.v (.int .i64 0),.v (.int .i64 0),.v (.string (bs [])),.v (.string (bs [])),.v (.int .i64 0),.v (.int .u8 0),.v (.string (bs [])),.v (.slice none 0 0)]:=by kernel_rfl
theorem Y5:cM Tryz.prog 33 0=some (0,none,1):=by kernel_rfl
theorem Y4:cM Tryz.prog 33 1=some (1,none,1):=by kernel_rfl
theorem Y3:cM Tryz.prog 33 2=some (2,none,1):=by kernel_rfl
theorem Y2:cM Tryz.prog 33 3=some (3,none,1):=by kernel_rfl
theorem Y1:cM Tryz.prog 33 4=some (4,some 3,3):=by kernel_rfl
theorem Y0:cM Tryz.prog 33 5=some (7,none,1):=by kernel_rfl
theorem adA:nd Tryz.prog 33=true:=by kernel_rfl
theorem aaZ:eo Tryz.prog 31=some none:=by kernel_rfl
theorem abu:bC Tryz.prog 31=1:=by kernel_rfl
theorem adn:iQ Tryz.prog 31=some 33:=by kernel_rfl
theorem aaY:eo Tryz.prog 55=some none:=by kernel_rfl
theorem adH:eo Tryz.prog 165=some (some 5):=by kernel_rfl
theorem szS:bC Tryz.prog 165=5:=by kernel_rfl
theorem Zx:ft Tryz.prog 165=some [.v (.bool false),.v (.bool false),.v (.bool false),.v (.int .i64 0),.v (.int .i64 0)]:=by kernel_rfl
theorem Zd:cM Tryz.prog 165 0=some (0,none,1):=by kernel_rfl
theorem Zc:cM Tryz.prog 165 1=some (1,none,1):=by kernel_rfl
theorem Zb:cM Tryz.prog 165 2=some (2,none,1):=by kernel_rfl
theorem Za:cM Tryz.prog 165 3=some (3,none,1):=by kernel_rfl
theorem Y9:cM Tryz.prog 165 4=some (4,none,1):=by kernel_rfl
theorem adC:nd Tryz.prog 165=true:=by kernel_rfl
attribute [go_sem] adK sz4 IB abm OP Y8 Y7 Y6 adB adG szX Zw Y5 Y4 Y3 Y2 Y1 Y0 adA aaZ abu adn aaY adH szS Zx Zd Zc Zb Za Y9 adC
def eH:List UInt8:=[60,105,110,105,116,62]
def wJ:List UInt8:=[60,99,108,105,110,105,116,62]
def pg (s:List UInt8):Bool:=decide (s=eH)||decide (s=wJ)||(eF s&&decide (Lib.indexByte s 47<0))
def eP (s:List UInt8):Bool:=pg s&&decide (s.getD 0 0≠60)&& !dT s&& !fz.contains s
theorem SL (s:List UInt8) (m:Mem) (hs:BL s):FnH Tryz.prog 208 [.v (.string (bs s))] ⟨[],[]⟩ m fun r H' _=>r= .v (.bool (pg s))/\H' =⟨[],[]⟩:=by
 refine aL IJ Tryz.func208 ?_
 ·simp only[go_sem];refine⟨fun h=> ?_,fun h=>⟨hs,fun h1=>ab ((JI s 47 m).mono ?_),fun h1=> ?_⟩⟩
  ·simp only[pg,eH,wJ];rcases h with h |h<;>simp [h]
  ·rintro r H' m' hm ⟨rfl,rfl⟩;simp only[go_sem];have h2:=h.1;have h3:=h.2;simp [pg,eH,wJ,h1,h2,h3]
  ·have h2:=h.1;have h3:=h.2;simp [pg,eH,wJ,h1,h2,h3]
abbrev cfM:Cfg:=fP (fun _=>false) [(208,eZ BL fun s=> .bool (pg s)),(192,eZ BL fun s=> .bool (eF s)),(134,eZ BL fun s=> .bool (dT s))]
theorem P2:cK cfM Tryz.prog:=pure_cons (by kernel_rfl) (fM SL) (pure_cons (by kernel_rfl) (fM FK) (pure_cons (by kernel_rfl) (fM Ab) pure_nil))
theorem My {s:List UInt8} (h:pg s=true):0<s.length:=by
 cases s with
 |nil=>simp [pg,eH,wJ,eF,gD] at h
 |cons a r=>simp
theorem F1 (s:List UInt8) (m:Mem) (hs:BL s):FnH Tryz.prog 155 [.v (.string (bs s))] ⟨[],[]⟩ m fun r H' _=>r= .v (.bool (eP s))/\H' =⟨[],[]⟩:=by
 refine aL P2 Tryz.func155 ?_
 ·simp only[go_sem];have e:∀u:UInt8,((u.toNat:Int)=60)=(u=60):=fun u=>propext ⟨fun h=>UInt8.toNat_inj.1 (by have:(60:UInt8).toNat=60:=rfl;omega),fun h=>by rw[h];rfl⟩
  simp only[e];refine⟨hs,fun h=>⟨by omega,by have:=My h;omega⟩,fun _=>hs,fun h=>ab ((Fv m).mono ?_),fun h=> ?_⟩
  ·rintro r H' m' hm ⟨rfl,rfl,rfl⟩;simp only[go_sem];refine⟨by kernel_rfl,fun a c m1 aN hc cu=>dh ((yf fz s a 28 c m1 cu (by omega)).mono ?_)⟩;rintro r H' m' aH ⟨rfl,rfl⟩;have h1:=h.1.1;have h2:=h.1.2;have h3:=h.2;generalize hb:fz.contains s=kb
   simp only[go_sem];rw[eP,h1,h3,hb,bX h2];rfl
  ·rw[eP];rcases h with (h |h) |h
   ·simp [h]
   ·have:decide (s.getD 0 0≠60)=false:=by rw[h];rfl
    rw[this];simp
   ·simp [h]
def tz (d b:Int) (s:List UInt8):Bool:=if d<0\/8<d then false else if b=73\/b=74 then decide (s=[]) else if b=86 then decide (d=0)&&decide (s=[]) else if b=76 then eF s else false
def gR (d b:Int) (s:List UInt8):Bool:=tz d b s&&decide (b≠86)&&(decide (b≠76)||dT s)
def rG (F:Int->Int->List UInt8->Bool):List Value->Option (Prop×Value)
 |[.agg ⟨[.int .i64 d,.int .u8 b,.string s]⟩]=>some (BL (tl s),.bool (F d b (tl s)))
 |_=>none
attribute [go_sem] rG.eq_1
theorem u0 {P:Program} {f:FuncId} {F:Int->Int->List UInt8->Bool} (h:∀d b a m,BL a->FnH P f [.v (.agg ⟨[.int .i64 d,.int .u8 b,.string (bs a)]⟩)] ⟨[],[]⟩ m fun r H' _=>r= .v (.bool (F d b a))/\H' =⟨[],[]⟩):ou P f (rG F):=fun cL y hy hB m=>by
 unfold rG at hy;split at hy
 ·rename_i d b a;cases hy;have:=h d b (tl a) m hB;rwa [lH] at this
 ·cases hy
theorem R5 (d b:Int) (s:List UInt8) (m:Mem) (hs:BL s):FnH Tryz.prog 211 [.v (.agg ⟨[.int .i64 d,.int .u8 b,.string (bs s)]⟩)] ⟨[],[]⟩ m fun r H' _=>r= .v (.bool (tz d b s))/\H' =⟨[],[]⟩:=by
 refine aL P2 Tryz.func211 ?_
 ·simp only[go_sem];refine⟨fun h=>by simp only[tz,aj h],fun h=> ?_⟩;have h0:¬(d<0\/8<d):=fun h' =>h'.elim h.1 h.2
  simp only[tz,ae h0];refine⟨fun h1=> ?_,fun h1=> ?_⟩
  ·simp [h1]
  ·refine⟨fun h2=>by simp [h2],fun h2=> ?_⟩;refine⟨fun h3=>by simp [h3],fun h3=>⟨fun h4=>⟨hs,by simp [h4]⟩,fun h4=>by simp [h1,h2,h3,h4]⟩⟩
abbrev cfT:Cfg:=fP (fun _=>false) [(211,rG tz),(134,eZ BL fun s=> .bool (dT s))]
theorem puT:cK cfT Tryz.prog:=pure_cons (by kernel_rfl) (u0 R5) (pure_cons (by kernel_rfl) (fM Ab) pure_nil)
theorem FQ (d b:Int) (s:List UInt8) (m:Mem) (hs:BL s):FnH Tryz.prog 157 [.v (.agg ⟨[.int .i64 d,.int .u8 b,.string (bs s)]⟩)] ⟨[],[]⟩ m fun r H' _=>r= .v (.bool (gR d b s))/\H' =⟨[],[]⟩:=by
 refine aL puT Tryz.func157 ?_
 ·simp only[go_sem];refine⟨hs,fun _=>hs,?_⟩;simp [gR]
def oW (c:UInt8):Bool:=decide (c.toNat=10)||(decide (32<=c.toNat)&&decide (c.toNat<=126))
def qR (s:List UInt8):Bool:=s.all oW&&decide (s.length<=1024)
theorem Sw (s:List UInt8) (m:Mem) (hs:BL s):FnH Tryz.prog 210 [.v (.string (bs s))] ⟨[],[]⟩ m fun r H' _=>r= .v (.bool (qR s))/\H' =⟨[],[]⟩:=by
 refine aL nu Tryz.func210 ?_
 ·simp only[go_sem];refine cO nu (fun k:Nat=>⟨[⟨0,[],.v (.string (bs s))⟩,⟨6,[],.v (.int .i64 s.length)⟩,⟨7,[],.v (.int .i64 k)⟩],[],[],[],0,m⟩)
   (fun k=>k<=s.length/\(s.take k).all oW=true) (fun k=>s.length - k) 0 (fun _ _=>aq _) (fun _ _=> .inl rfl) ?_ ?_ ?_
  ·simp only[go_sem];rfl
  ·simp
  ·rintro k ⟨hk,hp⟩;simp only[go_sem];refine⟨fun ao=> ?_,fun cQ=> ?_⟩
   ·have cE:k<s.length:=by omega
    have hd:=drop_at cE;refine⟨⟨by omega,ao⟩,fun h=> ?_,fun h=>⟨by unfold az;have:s.length<=4611686018427387904:=hs;omega,k+1,by omega,⟨by omega,?_⟩,by omega⟩⟩
    ·have hb:oW (s.getD k 0)=false:=by
      simp only[oW,Bool.or_eq_false_iff,Bool.and_eq_false_iff,decide_eq_false_iff_not];exact⟨by omega,by omega⟩
     have:s.all oW=false:=by
      rw[<- List.take_append_drop k s,List.all_append,hd,List.all_cons,hb];simp
     rw[qR,this,Bool.false_and]
    ·have hb:oW (s.getD k 0)=true:=by
      simp only[oW,Bool.or_eq_true,cY,gz];omega
     rw[List.take_succ_eq_append_getElem cE,List.all_append,hp,List.all_cons];have e:s.getD k 0=s[k]:=by rw[List.getD_eq_getElem?_getD,List.getElem?_eq_getElem cE];rfl
     rw[e] at hb;simp [hb]
   ·rw[gm (by omega)] at hp;rw[qR,hp,Bool.true_and,decide_eq_decide];omega
def nX (k:Int):Bool×Bool×Bool×Int×Int:=
 if k=6 then(true,false,false,0,0)
 else if k=7 then(true,false,false,1,1)
 else if k=8 then(true,true,false,0,0)
 else if k=9\/k=16 then(false,false,false,2,2)
 else if k=10 then(true,false,false,1,17)
 else if k=11 then(true,true,false,0,16)
 else if k=12 then(true,false,false,0,16)
 else if k=13 then(false,true,false,0,16)
 else if k=14\/k=17\/k=18 then(false,false,true,1,1)
 else if k=15\/k=19\/k=20\/k=21 then(false,false,false,1,1)
 else(false,false,false,0,0)
def isKind (k:Int):Bool:=decide (1<=k)&&decide (k<=21)
theorem kinds {k:Int} (h:isKind k=true):k=1\/k=2\/k=3\/k=4\/k=5\/k=6\/k=7\/k=8\/k=9\/k=10\/k=11\/k=12\/k=13\/k=14\/k=15\/k=16\/k=17\/k=18\/k=19\/k=20\/k=21:=by
 simp only[isKind,cY,gz] at h;omega
theorem Sc (k:Int) (m:Mem):FnH Tryz.prog 154 [.v (.int .i64 k)] ⟨[],[]⟩ m fun r H' m' =>m' =m/\H' =⟨[],[]⟩/\r= .tup [.agg [.v (.bool (nX k).1),.v (.bool (nX k).2.1),.v (.bool (nX k).2.2.1),.v (.int .i64 (nX k).2.2.2.1),.v (.int .i64 (nX k).2.2.2.2)],.v (.bool (isKind k))]:=by
 refine aL nu Tryz.func154 ?_
 ·cases hk:isKind k with
  |true=>
   rcases kinds hk with h |h |h |h |h |h |h |h |h |h |h |h |h |h |h |h |h |h |h |h |h<;>subst h<;>simp only[go_sem,nX,Int.reduceEq,aF,aQ]
  |false=>
   have iu:¬(1<=k/\k<=21):=by simpa [isKind] using hk
   have e:∀j:Int,1<=j->j<=21->(k=j)=False:=fun j h1 h2=>eq_false fun h=>iu (h▸⟨h1,h2⟩)
   have e1:=e 1 (by decide) (by decide);have e2:=e 2 (by decide) (by decide);have e3:=e 3 (by decide) (by decide);have e4:=e 4 (by decide) (by decide);have e5:=e 5 (by decide) (by decide);have e6:=e 6 (by decide) (by decide);have e7:=e 7 (by decide) (by decide);have e8:=e 8 (by decide) (by decide);have e9:=e 9 (by decide) (by decide);have gQ:=e 10 (by decide) (by decide);have ke:=e 11 (by decide) (by decide);have wm:=e 12 (by decide) (by decide);have wk:=e 13 (by decide) (by decide);have wj:=e 14 (by decide) (by decide);have wi:=e 15 (by decide) (by decide);have wh:=e 16 (by decide) (by decide);have wg:=e 17 (by decide) (by decide);have we:=e 18 (by decide) (by decide);have Jx:=e 19 (by decide) (by decide);have Jw:=e 20 (by decide) (by decide);have Jv:=e 21 (by decide) (by decide);simp only[go_sem,nX,e1,e2,e3,e4,e5,e6,e7,e8,e9,gQ,ke,wm,wk,wj,wi,wh,wg,we,Jx,Jw,Jv,aQ]
def qf (k n:Int) (s:List UInt8):Bool:=
 if k=1 then decide (0<=n)&&decide (n<=2147483647)&&decide (s=[])
 else if k=2 then decide (0<=n)&&decide (s=[])
 else if k=3 then decide (n=0)&&qR s
 else if k=15 then decide (n=0)&&(decide (s=[45])||decide (s=[33]))
 else if k=16 then decide (n=0)&&opsL.contains s
 else decide (n=0)&&decide (s=[])
abbrev cfP:Cfg:=fP (fun _=>false) [(210,eZ BL fun s=> .bool (qR s))]
theorem puP:cK cfP Tryz.prog:=pure_cons (by kernel_rfl) (fM Sw) pure_nil
theorem VB (k n:Int) (s c:List UInt8) (d b:Int) (nm:List UInt8) (sl:Value) (m:Mem) (hg:Glob m) (hs:BL s):
  FnH Tryz.prog 156 [.v (.agg ⟨[.int .i64 k,.int .i64 n,.string (bs s),.string (bs c),.int .i64 d,.int .u8 b,.string (bs nm),sl]⟩)] ⟨[],[]⟩ m fun r H' m' =>an m m' /\H' =⟨[],[]⟩/\r= .v (.bool (qf k n s)):=by
 refine aL puP Tryz.func156 ?_
 ·simp only[go_sem];refine⟨fun h=>by simp only[qf,aj h],fun h1=>⟨fun h=>by simp only[qf,ae h1,aj h],fun h2=>⟨fun h=>⟨fun _=>hs,by simp only[qf,ae h1,ae h2,aj h]⟩,fun h3=>⟨fun h=>by simp only[qf,ae h1,ae h2,ae h3,aj h],fun h4=>⟨fun h=> ?_,fun h=>by simp only[qf,ae h1,ae h2,ae h3,ae h4,ae h]⟩⟩⟩⟩⟩;have s9:=hg.2;refine s9.elim fun ad s9=>s9.elim fun cp s9=>⟨.slice (some ad) 19 cp,fun _=>s9.1,fun hn=>ab ((yf opsL s (some ad) 19 cp m s9.2.2 (by omega)).mono ?_),fun hn=> ?_⟩
  ·rintro r H' m' hm ⟨rfl,rfl⟩;simp only[go_sem];refine⟨.inr hm,?_⟩;simp only[qf,ae h1,ae h2,ae h3,ae h4,aj h,bX hn,Bool.true_and]
  ·simp only[qf,ae h1,ae h2,ae h3,ae h4,aj h,bo hn,Bool.false_and]
def qX (k n:Int) (s c:List UInt8) (d b:Int) (nm:List UInt8) (l:Nat):Bool:=
 isKind k&&decide ((nX k).2.2.2.1<=l)&&decide (l<=(nX k).2.2.2.2)&&(if(nX k).1=true then eP s&&decide (n=0) else qf k n s)&&(if(nX k).2.1=true then dT c else decide (c=[]))
  &&(if(nX k).2.2.1=true then gR d b nm&&(decide (k≠14)||decide (d<8)) else decide (d=0)&&decide (b=0)&&decide (nm=[]))
abbrev pK:Cfg:=fP (fun _=>false) [(155,eZ BL fun s=> .bool (eP s)),(157,rG gR),(134,eZ BL fun s=> .bool (dT s))]
theorem pz:cK pK Tryz.prog:=pure_cons (by kernel_rfl) (fM F1) (pure_cons (by kernel_rfl) (u0 FQ) (pure_cons (by kernel_rfl) (fM Ab) pure_nil))
theorem aX {P:Program} {f:FuncId} {args jY:List SV} {H:Hp} {m:Mem} {R:SV->Hp->Mem->Prop} (h:FnH P f args H m R) (e:∀V,jY.map (den V)=args.map (den V)):FnH P f jY H m R:=
 fun V w D h1 h2 h3=>by rw[e V];exact h V w D h1 h2 h3
theorem TO (k n:Int) (s c:List UInt8) (d b:Int) (nm:List UInt8) (a:Option Addr) (l cp:Nat) (m:Mem) (hg:Glob m) (hs:BL s) (hc:BL c) (hn:BL nm):
  FnH Tryz.prog 64 [.v (.agg ⟨[.int .i64 k,.int .i64 n,.string (bs s),.string (bs c),.int .i64 d,.int .u8 b,.string (bs nm),.slice a l cp]⟩)] ⟨[],[]⟩ m fun r H' m' =>an m m' /\H' =⟨[],[]⟩/\r= .v (.bool (qX k n s c d b nm l)):=by
 refine aL pz Tryz.func64 ?_
 ·simp only[go_sem];refine ab (((Sc k m).mono (R' :=fun r H' m' =>m' =m/\H' =⟨[],[]⟩/\∃i cl ty lo hi,nX k=(i,cl,ty,lo,hi)/\r= .tup [.agg [.v (.bool i),.v (.bool cl),.v (.bool ty),.v (.int .i64 lo),.v (.int .i64 hi)],.v (.bool (isKind k))]) fun r H' m' hm h=>⟨h.1,h.2.1,_,_,_,_,_,rfl,h.2.2⟩).mono ?_);rintro r H' m' hm ⟨rfl,rfl,i,cl,ty,lo,hi,xG,rfl⟩;simp only[go_sem,qc];have Cf:∀x:Bool,(isKind k=false\/(l:Int)<lo)\/hi<(l:Int)->false=(isKind k&&decide (lo<=(l:Int))&&decide ((l:Int)<=hi)&&x):=fun x h=>by
   rcases h with (h |h) |h
   ·simp [h]
   ·rw[bo (by omega:¬lo<=(l:Int))];simp
   ·rw[bo (by omega:¬(l:Int)<=hi)];simp
  have hN:qX k n s c d b nm l=(isKind k&&decide (lo<=(l:Int))&&decide ((l:Int)<=hi)&&(if i=true then eP s&&decide (n=0) else qf k n s)&&(if cl=true then dT c else decide (c=[]))
    &&(if ty=true then gR d b nm&&(decide (k≠14)||decide (d<8)) else decide (d=0)&&decide (b=0)&&decide (nm=[]))):=by simp only[qX,xG]
  refine⟨fun h=> ?_,fun h=> ?_⟩
  ·rw[hN,Bool.and_assoc,Bool.and_assoc];exact Cf _ h
  ·have e1:=h.1.1;have e2:decide (lo<=(l:Int))=true:=bX (by have:=h.1.2;omega);have e3:decide ((l:Int)<=hi)=true:=bX (by have:=h.2;omega);have hM:qX k n s c d b nm l=((if i=true then eP s&&decide (n=0) else qf k n s)&&(if cl=true then dT c else decide (c=[]))&&(if ty=true then gR d b nm&&(decide (k≠14)||decide (d<8)) else decide (d=0)&&decide (b=0)&&decide (nm=[]))):=by
    rw[hN,e1,e2,e3];simp only[Bool.true_and]
   refine⟨fun hi=>⟨hs,fun bW=>⟨fun _=>hc,fun ht=>⟨fun _=>hn,by rw[hM];simp [hi,bW,ht,Bool.and_assoc]⟩,fun ht=>by rw[hM];simp [hi,bW,ht,Bool.and_assoc]⟩,fun bW=>⟨fun ht=>⟨fun _=>hn,by rw[hM];simp [hi,bW,ht,Bool.and_assoc]⟩,fun ht=>by rw[hM];simp [hi,bW,ht,Bool.and_assoc]⟩⟩,fun hi=>ab ((aX (VB k n s c d b nm (.slice a l cp) m' hg hs) (fun V=>rfl)).mono ?_)⟩;rintro r H' m2 aH ⟨hle,rfl,rfl⟩;simp only[go_sem,qc];exact⟨fun bW=>⟨fun _=>hc,fun ht=>⟨fun _=>hn,hle,by rw[hM];simp [hi,bW,ht,Bool.and_assoc]⟩,fun ht=>⟨hle,by rw[hM];simp [hi,bW,ht,Bool.and_assoc]⟩⟩,fun bW=>⟨fun ht=>⟨fun _=>hn,hle,by rw[hM];simp [hi,bW,ht,Bool.and_assoc]⟩,fun ht=>⟨hle,by rw[hM];simp [hi,bW,ht,Bool.and_assoc]⟩⟩⟩
structure Ty where
 dim:Int
 base:Int
 name:List UInt8
inductive Ex where
 |mk (k n:Int) (s c:List UInt8) (ty:Ty) (args:List Ex)
inductive St where
 |mk (k:Int) (name:List UInt8) (ty:Ty) (tg ex:Ex) (body alt:List St)
abbrev aA:Nat:=2000000
def lh (t:Ty):Prop:=az t.dim/\(0<=t.base/\t.base<256)/\t.name.length<=aA
def dt (k n:Int) (s c:List UInt8) (ty:Ty) (sl:Value):List Value:=[.int .i64 k,.int .i64 n,.string (bs s),.string (bs c),.int .i64 ty.dim,.int .u8 ty.base,.string (bs ty.name),sl]
def adQ (k n:Int) (s c:List UInt8) (ty:Ty) (l:Nat):Prop:=az k/\az n/\s.length<=aA/\c.length<=aA/\lh ty/\l<=aA
mutual
def bk (m:Mem):Ex->List Value->Prop
 | .mk k n s c ty args,cs=>∃a cp xs,cs=dt k n s c ty (.slice a args.length cp)/\args.length<=cp/\aK m a args.length 8 xs/\adQ k n s c ty args.length/\ea m args xs
def ea (m:Mem):List Ex->List Value->Prop
 |[],_=>True
 |e::r,xs=>bk m e (xs.take 8)/\ea m r (xs.drop 8)
end
theorem tJ {m:Mem}:∀{l:List Ex} {xs:List Value} {i:Nat} (_:ea m l xs) (hi:i<l.length),bk m l[i] ((xs.drop (i * 8)).take 8)
 |[],_,_,_,hi=>absurd hi (Nat.not_lt_zero _)
 |e::r,xs,0,h,_=>by simp only[ea] at h;simpa using h.1
 |e::r,xs,i+1,h,hi=>by
  simp only[ea] at h;have:=tJ (i:=i) h.2 (by simpa using hi);rw[List.drop_drop] at this;rw[show(i+1) * 8=8+i * 8 by omega];exact this
mutual
theorem Dp {m m' :Mem} (hle:m.le m'):∀(e:Ex) (cs:List Value),bk m e cs->bk m' e cs
 | .mk k n s c ty args,cs,h=>by
  simp only[bk] at h ⊢;obtain⟨a,cp,xs,h1,h2,h3,h4,h5⟩:=h;exact⟨a,cp,xs,h1,h2,AZ hle h3,h4,C3 hle args xs h5⟩
theorem C3 {m m' :Mem} (hle:m.le m'):∀(l:List Ex) (xs:List Value),ea m l xs->ea m' l xs
 |[],_,_=>by simp only[ea]
 |e::r,xs,h=>by
  simp only[ea] at h ⊢;exact⟨Dp hle e _ h.1,C3 hle r _ h.2⟩
end
mutual
def bL:Ex->Nat
 | .mk _ _ _ _ _ args=>ki args+1
def ki:List Ex->Nat
 |[]=>0
 |e::r=>max (bL e) (ki r)
end
theorem yx:∀{l:List Ex} {i:Nat} (hi:i<l.length),bL l[i]<=ki l
 |[],_,hi=>absurd hi (Nat.not_lt_zero _)
 |e::r,0,_=>by simp only[ki];exact Nat.le_max_left _ _
 |e::r,i+1,hi=>by
  have:=yx (l:=r) (i:=i) (by simpa using hi);simp only[ki];exact cR this (Nat.le_max_right _ _)
theorem CV:∀{l:List Ex} {i:Nat} (hi:i<l.length),ki (l.take (i+1))=max (ki (l.take i)) (bL l[i])
 |[],_,hi=>absurd hi (Nat.not_lt_zero _)
 |e::r,0,_=>by simp [ki]
 |e::r,i+1,hi=>by
  have:=CV (l:=r) (i:=i) (by simpa using hi);simp only[List.take_succ_cons,ki,this];rw[List.getElem_cons_succ,Nat.max_assoc]
def aB (f:FuncId) (args:List SV) (m:Mem) (v:Value):Prop:=FnH Tryz.prog f args ⟨[],[]⟩ m fun r H' m' =>an m m' /\H' =⟨[],[]⟩/\r= .v v
theorem UN {α:Type} {l:List α} {B:α->Bool} {k:Nat} (h:k<l.length):(l.take (k+1)).any B=((l.take k).any B||B l[k]):=by
 rw[List.take_succ_eq_append_getElem h,List.any_append];simp
theorem Glob.upM {m m' :Mem} (h:Glob m) (hm:an m m'):Glob m' :=by
 rcases hm with rfl |hm
 ·exact h
 ·exact h.up hm
theorem aZ {m m' :Mem} {e:Ex} {cs:List Value} (hle:an m m') (h:bk m e cs):bk m' e cs:=by
 rcases hle with rfl |hle
 ·exact h
 ·exact Dp hle e cs h
theorem yn {m m' :Mem} {l:List Ex} {cs:List Value} (hle:an m m') (h:ea m l cs):ea m' l cs:=by
 rcases hle with rfl |hle
 ·exact h
 ·exact C3 hle l cs h
theorem aD {m m' :Mem} {a:Option Addr} {n sz:Nat} {xs:List Value} (hle:an m m') (h:aK m a n sz xs):aK m' a n sz xs:=by
 rcases hle with rfl |hle
 ·exact h
 ·exact AZ hle h
theorem aa {m m' jo:Mem} (h:an m m') (h' :an m' jo):an m jo:=by
 rcases h with rfl |h
 ·exact h'
 ·rcases h' with rfl |h'
  ·exact .inr h
  ·exact .inr (Mem.le_trans h h')
theorem RT (f:FuncId) (B:Ex->Bool) (l:List Ex) (a:Option Addr) (n c:Nat) (xs:List Value) (m:Mem) (hl:l.length=n) (hr:aK m a n 8 xs) (he:ea m l xs) (hn:n<=aA) (ax:iJ Tryz.prog f=true)
  (hf:∀i (hi:i<l.length) cs m',an m m' ->bk m' l[i] cs->aB f [.v (.agg ⟨cs⟩)] m' (.bool (B l[i]))):
  FnH Tryz.prog 158 [.v (.slice a n c),.v (.func (.func f) ⟨[]⟩ ⟨[]⟩)] ⟨[],[]⟩ m fun r H' m' =>an m m' /\H' =⟨[],[]⟩/\∃i:Int,r= .v (.int .i64 i)/\decide (0<=i)=l.any B:=by
 refine aL ay Tryz.func158 ?_
 ·simp only[go_sem];refine cO ay (fun x:Nat×Mem=>⟨[⟨0,[],.v (.slice a n c)⟩,⟨1,[],.v (.func (.func f) ⟨[]⟩ ⟨[]⟩)⟩,⟨7,[],.v (.int .i64 n)⟩,⟨8,[],.v (.int .i64 x.1)⟩],[],[],[],0,x.2⟩)
   (fun x=>an m x.2/\x.1<=n/\(l.take x.1).any B=false) (fun x=>n - x.1) (0,m) (fun _ _=>aq _) (fun x hx=>hx.1) ?_ ?_ ?_
  ·simp only[go_sem];rfl
  ·exact⟨.inl rfl,au _,rfl⟩
  ·rintro⟨k,mm⟩ ⟨h1,h2,h3⟩;simp only at h1 h2 h3;have dU:gA.own f=false:=rfl;have Qn:∀(hk:k<n),Rd mm (ct a (k * 8)) ((xs.drop (k * 8)).take 8)/\a≠none:=fun hk=>dG (aD h1 hr) hk
   have I6:∀(hk:k<n),((xs.drop (k * 8)).take 8).length=8:=fun hk=>by
    have:=hr.1;have hm:(k+1) * 8<=n * 8:=Nat.mul_le_mul_right _ hk;rw[List.length_take,cH];omega
   simp only[go_sem,dU];refine⟨fun ao=> ?_,fun cQ=>⟨h1,?_⟩⟩
   ·have hk:k<n:=by clear hf;omega
    have cE:k<l.length:=by clear hf;omega
    refine⟨⟨by clear hf;omega,ao,(Qn hk).2⟩,_,⟨(Qn hk).1,I6 hk⟩,ax,dh ((hf k cE _ mm h1 (aZ h1 (tJ he cE))).mono ?_)⟩;clear hf;rintro r H' m' hm ⟨hle,rfl,rfl⟩;simp only[go_sem];refine⟨fun hb=>⟨aa h1 hle,?_⟩,fun hb=>⟨by unfold az;simp only[aA] at hn;omega,(k+1,m'),⟨by simp,.inl rfl⟩,⟨aa h1 hle,by simp only;omega,?_⟩,by simp only;omega⟩⟩
    ·have:l.any B=true:=List.any_eq_true.2 ⟨_,List.getElem_mem cE,hb⟩;rw[this];simp
    ·simp only;rw[UN cE,h3,hb];rfl
   ·rw[gm (by clear hf;omega)] at h3;rw[h3];rfl
theorem JJ (f:FuncId) (B:Ex->Bool) (l:List Ex) (a:Option Addr) (n c:Nat) (xs:List Value) (m:Mem) (hl:l.length=n) (hr:aK m a n 8 xs) (he:ea m l xs) (hn:n<=aA) (ax:iJ Tryz.prog f=true)
  (hf:∀i (hi:i<l.length) cs m',an m m' ->bk m' l[i] cs->aB f [.v (.agg ⟨cs⟩)] m' (.bool (B l[i]))):
  aB 65 [.v (.slice a n c),.v (.func (.func f) ⟨[]⟩ ⟨[]⟩)] m (.bool (l.any B)):=by
 refine aL ay Tryz.func65 ?_
 ·simp only[go_sem];refine ab ((RT f B l a n c xs m hl hr he hn ax hf).mono ?_);clear hf;rintro r H' m' hm ⟨hle,rfl,i,rfl,hi⟩;simp only[go_sem];exact⟨hle,hi⟩
mutual
def dS:Ex->Bool
 | .mk k n s c ty args=>qX k n s c ty.dim ty.base ty.name args.length&&kT args
def kT:List Ex->Bool
 |[]=>true
 |e::r=>dS e&&kT r
end
theorem FB:∀(l:List Ex),(!l.any fun e=> !dS e)=kT l
 |[]=>rfl
 |e::r=>by
  simp only[List.any_cons,kT,<- FB r];cases dS e<;>simp
theorem pM:∀(h:Nat) (e:Ex) (cs:List Value) (m:Mem),bL e<=h->Glob m->bk m e cs->aB 33 [.v (.agg ⟨cs⟩)] m (.bool (dS e))
 |0,.mk k n s c ty args,cs,m,hd,_,_=>by simp [bL] at hd
 |h+1,.mk k n s c ty args,cs,m,hd,hg,he=>by
  simp only[bk] at he;obtain⟨a,cp,xs,rfl,bl,hr,ax,fm⟩:=he;have hn:=ax.2.2.2.2.2;simp only[bL] at hd;have hf:∀i (hi:i<args.length) cs m',an m m' ->bk m' args[i] cs->aB 66 [.v (.agg ⟨cs⟩)] m' (.bool (!dS args[i])):=fun i hi cs m' hle bh=>by
   have hlen:∃c0 c1 c2 c3 c4 c5 c6 c7,cs=[c0,c1,c2,c3,c4,c5,c6,c7]:=by
    cases rf:args[i] with
    |mk k n s c ty args=>
     rw[rf] at bh;simp only[bk] at bh;obtain⟨a,cp,xs,rfl,_⟩:=bh;exact⟨_,_,_,_,_,_,_,_,rfl⟩
   have ih:=pM h args[i] cs m' (by have:=yx hi;omega) (hg.upM hle) bh;obtain⟨c0,c1,c2,c3,c4,c5,c6,c7,rfl⟩:=hlen;refine aL ay Tryz.func66 ?_
   ·simp only[go_sem];refine ab ((aX ih (fun V=>rfl)).mono ?_);rintro r H' m2 aH ⟨aY,rfl,rfl⟩;simp only[go_sem];exact aY
  have hv:=fun m' (hm:an m m')=>JJ 66 (fun e=> !dS e) args a args.length cp xs m' rfl (aD hm hr) (yn hm fm) hn (by kernel_rfl) (fun i hi cs m2 hle=>hf i hi cs m2 (aa hm hle))
  have aaa:=TO k n s c ty.dim ty.base ty.name a args.length cp m hg (cR ax.2.2.1 (by decide)) (cR ax.2.2.2.1 (by decide)) (cR ax.2.2.2.2.1.2.2 (by decide));clear hf;refine enter gA ay Tryz.func33 rfl rfl (by kernel_rfl) rfl ?_ ?_
  ·simp only[go_sem,dt]
  ·simp only[go_sem,dt];refine ab ((aX aaa (fun V=>rfl)).mono ?_);rintro r H' m2 aH ⟨hle,rfl,rfl⟩;simp only[go_sem];refine⟨fun hb=>ab ((hv m2 hle).mono ?_),fun hb=>⟨hle,?_⟩⟩
   ·clear hv;rintro r H' m3 bN ⟨kL,rfl,rfl⟩;simp only[go_sem];refine⟨aa hle kL,?_⟩;rw[FB,dS,hb,Bool.true_and]
   ·rw[dS,hb,Bool.false_and]
structure Nd where
 k:Int
 n:Int
 s:List UInt8
 c:List UInt8
 ty:Ty
 a:Option Addr
 l:Nat
 cp:Nat
def Nd.cs (x:Nd):List Value:=[.int .i64 x.k,.int .i64 x.n,.string (bs x.s),.string (bs x.c),.int .i64 x.ty.dim,.int .u8 x.ty.base,.string (bs x.ty.name),.slice x.a x.l x.cp]
theorem qI {m:Mem} {e:Ex} {cs:List Value} (h:bk m e cs):∃x:Nd,cs=x.cs:=by
 cases e with
 |mk k n s c ty args=>
  simp only[bk] at h;obtain⟨a,cp,xs,rfl,_⟩:=h;exact⟨⟨k,n,s,c,ty,a,args.length,cp⟩,rfl⟩
theorem An:∀(h:Nat) (e:Ex) (cs:List Value) (m:Mem),bL e<=h->h<=aA->bk m e cs->aB 34 [.v (.agg ⟨cs⟩)] m (.int .i64 (bL e))
 |0,.mk k n s c ty args,cs,m,hd,_,_=>by simp [bL] at hd
 |h+1,.mk k n s c ty args,cs,m,hd,hb,he=>by
  simp only[bk] at he;obtain⟨a,cp,xs,rfl,bl,hr,ax,fm⟩:=he;have hn:=ax.2.2.2.2.2;simp only[bL] at hd;refine enter gA ay Tryz.func34 rfl rfl (by kernel_rfl) rfl ?_ ?_
  ·simp only[go_sem,dt]
  ·simp only[go_sem,dt];refine cO ay (fun x:Nat×Mem=>⟨[⟨3,[],.v (.int .i64 (ki (args.take x.1)))⟩,⟨7,[],.v (.slice a args.length cp)⟩,⟨8,[],.v (.int .i64 args.length)⟩,⟨9,[],.v (.int .i64 x.1)⟩],[],[],[],1,x.2⟩)
    (fun x=>an m x.2/\x.1<=args.length) (fun x=>args.length - x.1) (0,m) (fun _ _=>aq _) (fun x hx=>hx.1) ?_ ?_ ?_
   ·simp only[go_sem];exact⟨rfl,rfl⟩
   ·exact⟨.inl rfl,au _⟩
   ·rintro⟨i,mm⟩ ⟨h1,h2⟩;simp only at h1 h2;have hx:∀(hi:i<args.length),∃x:Nd,Rd mm (ct a (i * 8)) x.cs/\a≠none/\aB 34 [.v (.agg ⟨x.cs⟩)] mm (.int .i64 (bL args[i])):=fun hi=>by
     have bh:=aZ h1 (tJ fm hi);obtain⟨x,hx⟩:=qI bh;have cu:=dG (aD h1 hr) hi;rw[hx] at bh cu;exact⟨x,cu.1,cu.2,An h args[i] x.cs mm (by have:=yx hi;omega) (by omega) bh⟩
    simp only[go_sem];refine⟨fun ao=> ?_,fun cQ=> ?_⟩
    ·refine Exists.elim (hx (by clear hx;omega)) fun x cB=>⟨⟨by clear hx cB;omega,ao,cB.2.1⟩,x.cs,⟨cB.1,rfl⟩,?_⟩
     clear hx;have ha:=cB.2.2;simp only[go_sem,Nd.cs];refine ab ((aX ha (fun V=>rfl)).mono ?_);clear cB ha;rintro r H' m2 aH ⟨aY,rfl,rfl⟩;simp only[go_sem];have hi:i<args.length:=by omega
     have jC:=CV hi;refine⟨by unfold az;simp only[aA] at hn;omega,(i+1,m2),⟨⟨?_,by simp⟩,.inl rfl⟩,⟨aa h1 aY,by simp only;omega⟩,by simp only;omega⟩;simp only;rw[jC];split<;>omega
    ·clear hx;have:args.take i=args:=gm (by omega);rw[this];simp only[bL];exact⟨by unfold az;simp only[aA] at hb;omega,h1,by omega⟩
mutual
def eG:Ex->Nat
 | .mk _ _ _ _ _ args=>fF args+1
def fF:List Ex->Nat
 |[]=>0
 |e::r=>eG e+fF r
end
theorem aa0:eo Tryz.prog 45=some none:=by kernel_rfl
theorem abv:bC Tryz.prog 45=1:=by kernel_rfl
attribute [go_sem] aa0 abv
def sg (s:List UInt8):Tk:=⟨6,s,0,0⟩
def kw (s:List UInt8):Tk:=⟨2,s,0,0⟩
def rH (s:List UInt8):Tk:=⟨1,s,0,0⟩
theorem AB {l:List (List UInt8)} {a:Option Addr} {n:Nat} {m:Mem} (hr:aK m a n 1 (strs l)) {k:Nat} (hk:k<l.length):Rd m (ct a k) [.string (bs l[k])]/\a≠none:=by
 have hl:l.length=n:=by have:=hr.1;simpa [strs] using this
 obtain⟨hx,h,cP⟩:=DP hr (by omega:k<n);have e:(strs l)[k]= .string (bs l[k]):=by simp [strs]
 rw[e] at h;exact⟨h,cP⟩
def iI:List UInt8:=[105,110,116]
def iE:List UInt8:=[108,111,110,103]
def wS:List UInt8:=[118,111,105,100]
def aaQ (b:Int) (nm:List UInt8):Tk:=if b=73 then kw iI else if b=74 then kw iE else if b=86 then kw wS else rH nm
def ado (d:Int):List Tk:=(List.replicate d.toNat [sg [91],sg [93]]).flatten
def H8 (d b:Int) (nm:List UInt8):List Tk:=aaQ b nm::ado d
def OH:Bool->List (List Tk)->List Tk
 |_,[]=>[]
 |f,t::r=>(if f=true then t else sg [44]::t)++OH false r
def vn (l:List (List Tk)):List Tk:=sg [40]::(OH true l++[sg [41]])
def acN (k:Int):Bool:=decide (k=15)||decide (k=16)||decide (k=17)||decide (k=18)
def acm (b:Bool) (t:List Tk):List Tk:=if b=true then vn [t] else t
def BI (ts:List (Bool×List Tk)) (i:Nat):List Tk:=(ts.getD i (false,[])).2
def vS (ts:List (Bool×List Tk)) (i:Nat):List Tk:=acm (ts.getD i (false,[])).1 (ts.getD i (false,[])).2
def ZT (k n:Int) (s c:List UInt8) (ty:Ty) (ts:List (Bool×List Tk)):List Tk:=
 if k=1 then[⟨3,[],n,0⟩]
 else if k=2 then[⟨4,[],n,0⟩]
 else if k=3 then[⟨5,s,0,0⟩]
 else if k=4 then[kw [110,117,108,108]]
 else if k=5 then[kw [116,104,105,115]]
 else if k=6 then[rH s]
 else if k=7 then vS ts 0++[sg [46]]++[rH s]
 else if k=8 then[rH c]++[sg [46]]++[rH s]
 else if k=9 then vS ts 0++[sg [91]]++BI ts 1++[sg [93]]
 else if k=10 then vS ts 0++[sg [46]]++[rH s]++vn ((ts.drop 1).map (·.2))
 else if k=11 then[rH c]++[sg [46]]++[rH s]++vn (ts.map (·.2))
 else if k=12 then[kw [115,117,112,101,114]]++[sg [46]]++[rH s]++vn (ts.map (·.2))
 else if k=13 then[kw [110,101,119]]++[rH c]++vn (ts.map (·.2))
 else if k=14 then[kw [110,101,119]]++H8 ty.dim ty.base ty.name++[sg [91]]++BI ts 0++[sg [93]]
 else if k=15 then[sg s]++vS ts 0
 else if k=16 then vS ts 0++[sg s]++vS ts 1
 else if k=17 then vS ts 0++[kw [97,115]]++H8 ty.dim ty.base ty.name
 else if k=18 then vS ts 0++[kw [105,115]]++H8 ty.dim ty.base ty.name
 else if k=19 then[kw [108,101,110]]++vn [BI ts 0]
 else if k=20 then[kw iI]++vn [BI ts 0]
 else if k=21 then[kw iE]++vn [BI ts 0]
 else[]
def Ex.k:Ex->Int | .mk k _ _ _ _ _=>k
mutual
def H3:Ex->List Tk
 | .mk k n s c ty args=>ZT k n s c ty (OB args)
def OB:List Ex->List (Bool×List Tk)
 |[]=>[]
 |e::r=>(acN e.k,H3 e)::OB r
end
abbrev cap:Nat:=800000000
theorem JZ:∀{l:List Ex},kT l=true->∀e∈l,dS e=true
 |[],_,e,he=>by cases he
 |x::r,h,e,he=>by
  simp only[kT,cY] at h;rcases List.mem_cons.1 he with rfl |he
  ·exact h.1
  ·exact JZ h.2 e he
theorem F2:∀{l:List Ex} {e:Ex},e∈l->bL e<=ki l
 |[],e,he=>by cases he
 |x::r,e,he=>by
  simp only[ki];rcases List.mem_cons.1 he with rfl |he
  ·omega
  ·have:=F2 he;omega
def PJ (e:Ex):List UInt8×Int:=if dS e=true then(if 24<bL e then([],9) else Z0 (H3 e)) else([],4)
structure Sd where
 k:Int
 name:List UInt8
 ty:Ty
 tg:Nd
 ex:Nd
 a:Option Addr
 l:Nat
 cp:Nat
 b:Option Addr
 l2:Nat
 cp2:Nat
def Sd.cs (x:Sd):List Value:=[.int .i64 x.k,.string (bs x.name),.int .i64 x.ty.dim,.int .u8 x.ty.base,.string (bs x.ty.name),.int .i64 x.tg.k,.int .i64 x.tg.n,.string (bs x.tg.s),.string (bs x.tg.c),.int .i64 x.tg.ty.dim,.int .u8 x.tg.ty.base,.string (bs x.tg.ty.name),.slice x.tg.a x.tg.l x.tg.cp,.int .i64 x.ex.k,.int .i64 x.ex.n,.string (bs x.ex.s),.string (bs x.ex.c),.int .i64 x.ex.ty.dim,.int .u8 x.ex.ty.base,.string (bs x.ex.ty.name),.slice x.ex.a x.ex.l x.ex.cp,.slice x.a x.l x.cp,.slice x.b x.l2 x.cp2]
theorem aaU:eo Tryz.prog 73=some (some 23):=by kernel_rfl
theorem abo:bC Tryz.prog 73=23:=by kernel_rfl
theorem X9:ft Tryz.prog 73=some [.v (.int .i64 0),.v (.string (bs [])),.v (.int .i64 0),.v (.int .u8 0),.v (.string (bs [])),.v (.int .i64 0),.v (.int .i64 0),.v (.string (bs [])),.v (.string (bs [])),.v (.int .i64 0),.v (.int .u8 0),.v (.string (bs [])),.v (.slice none 0 0),.v (.int .i64 0),.v (.int .i64 0),.v (.string (bs [])),.v (.string (bs [])),.v (.int .i64 0),.v (.int .u8 0),.v (.string (bs [])),.v (.slice none 0 0),.v (.slice none 0 0),.v (.slice none 0 0)]:=by kernel_rfl
theorem aaI:nd Tryz.prog 73=true:=by kernel_rfl
theorem Zp:eo Tryz.prog 36=some none:=by kernel_rfl
theorem ZD:bC Tryz.prog 36=1:=by kernel_rfl
theorem aav:iQ Tryz.prog 36=some 73:=by kernel_rfl
theorem Xr:cM Tryz.prog 73 0=some (0,none,1):=by kernel_rfl
theorem Xq:cM Tryz.prog 73 1=some (1,none,1):=by kernel_rfl
theorem Xp:cM Tryz.prog 73 2=some (2,some 3,3):=by kernel_rfl
theorem Xo:cM Tryz.prog 73 3=some (5,some 8,8):=by kernel_rfl
theorem Xn:cM Tryz.prog 73 4=some (13,some 8,8):=by kernel_rfl
theorem Xm:cM Tryz.prog 73 5=some (21,none,1):=by kernel_rfl
theorem Xl:cM Tryz.prog 73 6=some (22,none,1):=by kernel_rfl
structure Mc where
 fl:Int
 res:Ty
 name:List UInt8
 pa:Option Addr
 pl:Nat
 pc:Nat
 hb:Bool
 a:Option Addr
 l:Nat
 cp:Nat
def Mc.cs (x:Mc):List Value:=[.int .i64 x.fl,.int .i64 x.res.dim,.int .u8 x.res.base,.string (bs x.res.name),.string (bs x.name),.slice x.pa x.pl x.pc,.bool x.hb,.slice x.a x.l x.cp]
theorem aaX:eo Tryz.prog 98=some (some 8):=by kernel_rfl
theorem abr:bC Tryz.prog 98=8:=by kernel_rfl
theorem Yb:ft Tryz.prog 98=some [.v (.int .i64 0),.v (.int .i64 0),.v (.int .u8 0),.v (.string (bs [])),.v (.string (bs [])),.v (.slice none 0 0),.v (.bool false),.v (.slice none 0 0)]:=by kernel_rfl
theorem aaL:nd Tryz.prog 98=true:=by kernel_rfl
theorem Zr:eo Tryz.prog 57=some none:=by kernel_rfl
theorem ZF:bC Tryz.prog 57=1:=by kernel_rfl
theorem aax:iQ Tryz.prog 57=some 98:=by kernel_rfl
theorem XE:cM Tryz.prog 98 0=some (0,none,1):=by kernel_rfl
theorem XD:cM Tryz.prog 98 1=some (1,some 3,3):=by kernel_rfl
theorem XC:cM Tryz.prog 98 2=some (4,none,1):=by kernel_rfl
theorem XB:cM Tryz.prog 98 3=some (5,none,1):=by kernel_rfl
theorem XA:cM Tryz.prog 98 4=some (6,none,1):=by kernel_rfl
theorem Xz:cM Tryz.prog 98 5=some (7,none,1):=by kernel_rfl
structure Cc where
 fl:Int
 name:List UInt8
 super:List UInt8
 ia:Option Addr
 il:Nat
 ic:Nat
 fa:Option Addr
 fn:Nat
 fc:Nat
 ma:Option Addr
 ml:Nat
 mc:Nat
 sa:Option Addr
 sl:Nat
 sc:Nat
def Cc.cs (x:Cc):List Value:=[.int .i64 x.fl,.string (bs x.name),.string (bs x.super),.slice x.ia x.il x.ic,.slice x.fa x.fn x.fc,.slice x.ma x.ml x.mc,.slice x.sa x.sl x.sc]
theorem aa2:eo Tryz.prog 59=some (some 7):=by kernel_rfl
theorem abx:bC Tryz.prog 59=7:=by kernel_rfl
theorem Yd:ft Tryz.prog 59=some [.v (.int .i64 0),.v (.string (bs [])),.v (.string (bs [])),.v (.slice none 0 0),.v (.slice none 0 0),.v (.slice none 0 0),.v (.slice none 0 0)]:=by kernel_rfl
theorem aaN:nd Tryz.prog 59=true:=by kernel_rfl
theorem Zt:eo Tryz.prog 23=some none:=by kernel_rfl
theorem ZH:bC Tryz.prog 23=1:=by kernel_rfl
theorem aaz:iQ Tryz.prog 23=some 59:=by kernel_rfl
theorem XO:cM Tryz.prog 59 0=some (0,none,1):=by kernel_rfl
theorem XN:cM Tryz.prog 59 1=some (1,none,1):=by kernel_rfl
theorem XM:cM Tryz.prog 59 2=some (2,none,1):=by kernel_rfl
theorem XL:cM Tryz.prog 59 3=some (3,none,1):=by kernel_rfl
theorem XK:cM Tryz.prog 59 4=some (4,none,1):=by kernel_rfl
theorem XJ:cM Tryz.prog 59 5=some (5,none,1):=by kernel_rfl
theorem XI:cM Tryz.prog 59 6=some (6,none,1):=by kernel_rfl
structure Pc where
 ty:Ty
 name:List UInt8
def Pc.cs (x:Pc):List Value:=[.int .i64 x.ty.dim,.int .u8 x.ty.base,.string (bs x.ty.name),.string (bs x.name)]
theorem aaW:eo Tryz.prog 160=some (some 4):=by kernel_rfl
theorem abq:bC Tryz.prog 160=4:=by kernel_rfl
theorem NU:ft Tryz.prog 160=some [.v (.int .i64 0),.v (.int .u8 0),.v (.string (bs [])),.v (.string (bs []))]:=by kernel_rfl
theorem aaK:nd Tryz.prog 160=true:=by kernel_rfl
theorem Zq:eo Tryz.prog 96=some none:=by kernel_rfl
theorem ZE:bC Tryz.prog 96=1:=by kernel_rfl
theorem aaw:iQ Tryz.prog 96=some 160:=by kernel_rfl
theorem Xy:cM Tryz.prog 160 0=some (0,some 3,3):=by kernel_rfl
theorem Xx:cM Tryz.prog 160 1=some (3,none,1):=by kernel_rfl
structure Fc where
 fl:Int
 ty:Ty
 name:List UInt8
def Fc.cs (x:Fc):List Value:=[.int .i64 x.fl,.int .i64 x.ty.dim,.int .u8 x.ty.base,.string (bs x.ty.name),.string (bs x.name)]
theorem aa1:eo Tryz.prog 94=some (some 5):=by kernel_rfl
theorem abw:bC Tryz.prog 94=5:=by kernel_rfl
theorem NV:ft Tryz.prog 94=some [.v (.int .i64 0),.v (.int .i64 0),.v (.int .u8 0),.v (.string (bs [])),.v (.string (bs []))]:=by kernel_rfl
theorem aaM:nd Tryz.prog 94=true:=by kernel_rfl
theorem Zs:eo Tryz.prog 56=some none:=by kernel_rfl
theorem ZG:bC Tryz.prog 56=1:=by kernel_rfl
theorem aay:iQ Tryz.prog 56=some 94:=by kernel_rfl
theorem XH:cM Tryz.prog 94 0=some (0,none,1):=by kernel_rfl
theorem XG:cM Tryz.prog 94 1=some (1,some 3,3):=by kernel_rfl
theorem XF:cM Tryz.prog 94 2=some (4,none,1):=by kernel_rfl
theorem abt:bC Tryz.prog 55=1:=by kernel_rfl
attribute [go_sem] aaU abo X9 aaI Zp ZD aav Xr Xq Xp Xo Xn Xm Xl aaX abr Yb aaL Zr ZF aax XE XD XC XB XA Xz aa2 abx Yd aaN Zt ZH aaz XO XN XM XL XK XJ XI aaW abq NU aaK Zq ZE aaw Xy Xx aa1 abw NV aaM Zs ZG aay XH XG XF abt
def fX (n:Nat) (B:Nat->Bool):Bool:=(List.range n).all B
theorem r0 {n:Nat} {B:Nat->Bool}:fX (n+1) B=(fX n B&&B n):=by simp [fX,List.range_succ,List.all_append]
theorem kW {n k:Nat} {B:Nat->Bool} (hk:k<n) (h:B k=false):fX n B=false:=by
 simp only[fX,List.all_eq_false,List.mem_range];exact⟨k,hk,by simp [h]⟩
theorem aao (f:FuncId) (B:Nat->Bool) (a:Option Addr) (n c:Nat) (a2:Option Addr) (n2 c2:Nat) (xs ys:List Value) (m:Mem) (hr:aK m a n 8 xs) (bJ:aK m a2 n2 8 ys) (hn:n<=aA) (ax:iJ Tryz.prog f=true)
  (hx:∀i,i<n->n=n2->∃X Y:Nd,(xs.drop (i * 8)).take 8=X.cs/\(ys.drop (i * 8)).take 8=Y.cs/\∀m',an m m' ->aB f [.v (.agg ⟨X.cs⟩),.v (.agg ⟨Y.cs⟩)] m' (.bool (B i))):
  aB 266 [.v (.slice a n c),.v (.slice a2 n2 c2),.v (.func (.func f) ⟨[]⟩ ⟨[]⟩)] m (.bool (decide (n=n2)&&fX n B)):=by
 refine aL ay Tryz.func266 ?_
 ·simp only[go_sem];refine⟨fun cP=> ?_,fun heq=> ?_⟩
  ·have:¬n=n2:=by clear hx;omega
   rw[bo this];rfl
  ·have heq:n=n2:=by clear hx;omega
   subst heq;refine cO ay (fun x:Nat×Mem=>⟨[⟨1,[],.v (.slice a2 n c2)⟩,⟨2,[],.v (.func (.func f) ⟨[]⟩ ⟨[]⟩)⟩,⟨15,[],.v (.slice a n c)⟩,⟨16,[],.v (.int .i64 n)⟩,⟨17,[],.v (.int .i64 x.1)⟩],[],[],[],0,x.2⟩)
    (fun x=>an m x.2/\x.1<=n/\fX x.1 B=true) (fun x=>n - x.1) (0,m) (fun _ _=>aq _) (fun x hx=>hx.1) ?_ ?_ ?_
   ·simp only[go_sem];rfl
   ·exact⟨.inl rfl,au _,rfl⟩
   ·rintro⟨k,mm⟩ ⟨h1,h2,h3⟩;simp only at h1 h2 h3;have dU:gA.own f=false:=rfl;have hy:∀(hk:k<n),∃X Y:Nd,(Rd mm (ct a (k * 8)) X.cs/\a≠none)/\(Rd mm (ct a2 (k * 8)) Y.cs/\a2≠none)/\aB f [.v (.agg ⟨X.cs⟩),.v (.agg ⟨Y.cs⟩)] mm (.bool (B k)):=fun hk=>by
     obtain⟨X,Y,e1,e2,e3⟩:=hx k hk rfl;have r1:=dG (aD h1 hr) hk;have r2:=dG (aD h1 bJ) hk;rw[e1] at r1;rw[e2] at r2;exact⟨X,Y,r1,r2,e3 mm h1⟩
    clear hx;simp only[go_sem,dU];refine⟨fun ao=> ?_,fun cQ=>⟨h1,?_⟩⟩
    ·have hk:k<n:=by clear hy;omega
     refine Exists.elim (hy hk) fun X bb=>Exists.elim bb fun Y jc=>⟨⟨by clear hy bb jc;omega,ao,jc.1.2⟩,X.cs,⟨jc.1.1,rfl⟩,?_⟩
     clear hy bb;have ha:=jc.2.2;simp only[go_sem,dU,Nd.cs];refine⟨⟨by clear jc ha;omega,ao,jc.2.1.2⟩,Y.cs,⟨jc.2.1.1,rfl⟩,?_⟩;clear jc;simp only[go_sem,dU,Nd.cs];refine⟨ax,dh ((aX ha (fun V=>rfl)).mono ?_)⟩;clear ha;rintro r H' m2 aH ⟨aY,rfl,rfl⟩;simp only[go_sem];refine⟨fun hb=>⟨aa h1 aY,?_⟩,fun hb=>⟨by unfold az;simp only[aA] at hn;omega,(k+1,m2),⟨by simp,.inl rfl⟩,⟨aa h1 aY,by simp only;omega,?_⟩,by simp only;omega⟩⟩
     ·rw[kW hk hb];simp
     ·simp only;rw[r0,h3,hb];rfl
    ·have:k=n:=by clear hy;omega
     rw[<- this,h3];simp
theorem Ph (f:FuncId) (B:Nat->Bool) (a:Option Addr) (n c:Nat) (a2:Option Addr) (n2 c2:Nat) (xs ys:List Value) (m:Mem) (hr:aK m a n 23 xs) (bJ:aK m a2 n2 23 ys) (hn:n<=aA) (ax:iJ Tryz.prog f=true)
  (hx:∀i,i<n->n=n2->∃X Y:Sd,(xs.drop (i * 23)).take 23=X.cs/\(ys.drop (i * 23)).take 23=Y.cs/\∀m',an m m' ->aB f [.v (.agg ⟨X.cs⟩),.v (.agg ⟨Y.cs⟩)] m' (.bool (B i))):
  aB 252 [.v (.slice a n c),.v (.slice a2 n2 c2),.v (.func (.func f) ⟨[]⟩ ⟨[]⟩)] m (.bool (decide (n=n2)&&fX n B)):=by
 refine aL ay Tryz.func252 ?_
 ·simp only[go_sem];refine⟨fun cP=> ?_,fun heq=> ?_⟩
  ·have:¬n=n2:=by clear hx;omega
   rw[bo this];rfl
  ·have heq:n=n2:=by clear hx;omega
   subst heq;refine cO ay (fun x:Nat×Mem=>⟨[⟨1,[],.v (.slice a2 n c2)⟩,⟨2,[],.v (.func (.func f) ⟨[]⟩ ⟨[]⟩)⟩,⟨15,[],.v (.slice a n c)⟩,⟨16,[],.v (.int .i64 n)⟩,⟨17,[],.v (.int .i64 x.1)⟩],[],[],[],0,x.2⟩)
    (fun x=>an m x.2/\x.1<=n/\fX x.1 B=true) (fun x=>n - x.1) (0,m) (fun _ _=>aq _) (fun x hx=>hx.1) ?_ ?_ ?_
   ·simp only[go_sem];rfl
   ·exact⟨.inl rfl,au _,rfl⟩
   ·rintro⟨k,mm⟩ ⟨h1,h2,h3⟩;simp only at h1 h2 h3;have dU:gA.own f=false:=rfl;have hy:∀(hk:k<n),∃X Y:Sd,(Rd mm (ct a (k * 23)) X.cs/\a≠none)/\(Rd mm (ct a2 (k * 23)) Y.cs/\a2≠none)/\aB f [.v (.agg ⟨X.cs⟩),.v (.agg ⟨Y.cs⟩)] mm (.bool (B k)):=fun hk=>by
     obtain⟨X,Y,e1,e2,e3⟩:=hx k hk rfl;have r1:=dG (aD h1 hr) hk;have r2:=dG (aD h1 bJ) hk;rw[e1] at r1;rw[e2] at r2;exact⟨X,Y,r1,r2,e3 mm h1⟩
    clear hx;simp only[go_sem,dU];refine⟨fun ao=> ?_,fun cQ=>⟨h1,?_⟩⟩
    ·have hk:k<n:=by clear hy;omega
     refine Exists.elim (hy hk) fun X bb=>Exists.elim bb fun Y jc=>⟨⟨by clear hy bb jc;omega,ao,jc.1.2⟩,X.cs,⟨jc.1.1,rfl⟩,?_⟩
     clear hy bb;have ha:=jc.2.2;simp only[go_sem,dU,Sd.cs];refine⟨⟨by clear jc ha;omega,ao,jc.2.1.2⟩,Y.cs,⟨jc.2.1.1,rfl⟩,?_⟩;clear jc;simp only[go_sem,dU,Sd.cs];refine⟨ax,dh ((aX ha (fun V=>rfl)).mono ?_)⟩;clear ha;rintro r H' m2 aH ⟨aY,rfl,rfl⟩;simp only[go_sem];refine⟨fun hb=>⟨aa h1 aY,?_⟩,fun hb=>⟨by unfold az;simp only[aA] at hn;omega,(k+1,m2),⟨by simp,.inl rfl⟩,⟨aa h1 aY,by simp only;omega,?_⟩,by simp only;omega⟩⟩
     ·rw[kW hk hb];simp
     ·simp only;rw[r0,h3,hb];rfl
    ·have:k=n:=by clear hy;omega
     rw[<- this,h3];simp
theorem JO:∀{x1 x2 ys:List Value} {b:Bool},gT ((x1++x2).map .v) (ys.map .v)=some b->∃b1 b2,gT (x1.map .v) ((ys.take x1.length).map .v)=some b1/\gT (x2.map .v) ((ys.drop x1.length).map .v)=some b2/\b=(b1&&b2)/\x1.length<=ys.length
 |[],x2,ys,b,h=>⟨true,b,by simp [gT],by simpa using h,by simp,au _⟩
 |x::x1,x2,ys,b,h=>by
  obtain⟨y,r,e,e',rfl,h1,h2,rfl⟩:=F3 (xs:=x1++x2) h;obtain⟨b1,b2,g1,g2,rfl,g4⟩:=JO h2;refine⟨e&&b1,b2,?_,g2,by rw[Bool.and_assoc],by simp only[cv];omega⟩;simp only[br,cv,List.take_succ_cons,gT,h1,g1,Option.bind_some,Option.map_some]
theorem KB:∀{n:Nat} {zs:List SV} {us:List Value},jd zs (us.map .v)=true->jd (zs.take n) ((us.take n).map .v)=true/\jd (zs.drop n) ((us.drop n).map .v)=true/\us.length=zs.length
 |0,zs,us,h=>⟨by simp [jd],by simpa using h,by
  induction zs generalizing us with
  |nil=>rw[Dm h];rfl
  |cons z zs ih=>obtain⟨x,r,rfl,_,h2⟩:=C2 h;simp [ih _ h2]⟩
 |n+1,[],us,h=>by rw[Dm h];simp [jd]
 |n+1,z::zs,us,h=>by
  obtain⟨x,r,rfl,h1,h2⟩:=C2 h;obtain⟨g1,g2,g3⟩:=KB (n:=n) h2;refine⟨?_,g2,by simp [g3]⟩;simp only[List.take_succ_cons,br,jd,h1,g1,Bool.and_self]
def zc (P:Program) (N:TypeId) (sz:Nat):Nat->List SV->List Field->Bool
  |_,zs,[]=>zs.isEmpty
  |off,zs,f::fs=>f.name != "_" &&decide (f.offset=off)&&
      (if f.type=N then decide (0<sz/\sz<=zs.length)&&BD P 0 (zs.take sz) (P.fieldsOf N).toList&&zc P N sz (off+sz) (zs.drop sz) fs
       else decide (eo P f.type=some none)&&(match zs with |z::r=>kindOk P f.type z&&zc P N sz (off+1) r fs |[]=>false))
theorem F9 {P:Program} {N:TypeId} {sz d:Nat} {w:World} {cs ds:List Value} (hN:eo P N=some (some sz)) (hu:P.underlying N=some (.struct (P.fieldsOf N))) (hp:P.stoodInHeld N=false):∀{fs:List Field} {zs:List SV} {off:Nat} {us vs:List Value} {b:Bool},
  zc P N sz off zs fs=true->jd zs (us.map .v)=true->gT (us.map .v) (vs.map .v)=some b->cs.drop off=us->ds.drop off=vs->(Op.eqFields (d+2) ⟨cs⟩ ⟨ds⟩ fs).run P w= .ok b w
 |[],zs,off,us,vs,b,h,hf,he,_,_=>by
  have:zs=[]:=by simpa [zc] using h
  subst this;cases Dm hf;rw[List.map_nil] at he;obtain⟨_,rfl⟩:=Lz he;rfl
 |f::fs,zs,off,us,vs,b,h,hf,he,hus,lq=>by
  simp only[zc,cY,gz,bne_iff_ne] at h;obtain⟨⟨h1,h2⟩,h3⟩:=h;subst h2;by_cases hT:f.type=N
  ·rw[aj hT] at h3;simp only[cY,gz] at h3;obtain⟨⟨k1,k2⟩,k3⟩:=h3;obtain⟨g1,g2,g3⟩:=KB (n:=sz) hf;have acR:us=us.take sz++us.drop sz:=(List.take_append_drop sz us).symm;rw[acR] at he;obtain⟨b1,b2,c1,c2,rfl,c4⟩:=JO he;have hlen:(us.take sz).length=sz:=by rw[List.length_take];omega
   rw[hlen] at c1 c2 c4;have bW:f.offset+sz<=cs.length:=by have:=congrArg List.length hus;rw[cH] at this;omega
   have qw:f.offset+sz<=ds.length:=by have:=congrArg List.length lq;rw[cH] at this;omega
   have p1:(part f.type ⟨cs⟩ f.offset).run P w= .ok (.agg ⟨us.take sz⟩) w:=by rw[hT];exact wy hN ⟨by rw[hus],bW⟩
   have p2:(part f.type ⟨ds⟩ f.offset).run P w= .ok (.agg ⟨vs.take sz⟩) w:=by rw[hT];exact wy hN ⟨by rw[lq],qw⟩
   have p3:(Op.equalIn (d+2) f.type (.agg ⟨us.take sz⟩) (.agg ⟨vs.take sz⟩)).run P w= .ok b1 w:=by
    rw[hT,run_equalIn_struct w (d+1) N _ _ hu hp];exact GM (d:=d) k2 g1 c1 rfl rfl
   simp only[Op.eqFields,aj h1,Sem.run_bind,p1,p2,Result.andThen_ok,p3];cases b1 with
   |false=>simp
   |true=>
    simp only[Bool.not_true,Bool.false_eq_true,if_false,Bool.true_and];exact F9 hN hu hp k3 g2 c2 (by rw[<- List.drop_drop,hus]) (by rw[<- List.drop_drop,lq])
  ·rw[ae hT] at h3;simp only[cY,gz] at h3;obtain⟨k1,k2⟩:=h3;cases zs with
   |nil=>cases k2
   |cons z zs=>
    simp only[cY] at k2;obtain⟨x,IH,rfl,g1,g2⟩:=C2 hf;obtain⟨y,IF,e,e',rfl,g3,g4,rfl⟩:=F3 he;have hx:cs[f.offset]? =some x:=by
     have:=congrArg (fun l:List Value=>l[0]?) hus;simpa using this
    have hy:ds[f.offset]? =some y:=by
     have:=congrArg (fun l:List Value=>l[0]?) lq;simpa using this
    have B8:cs.drop (f.offset+1)=IH:=by
     have:=congrArg (List.drop 1) hus;rw[List.drop_drop] at this;simpa [Nat.add_comm] using this
    have IV:ds.drop (f.offset+1)=IF:=by
     have:=congrArg (List.drop 1) lq;rw[List.drop_drop] at this;simpa [Nat.add_comm] using this
    simp only[Op.eqFields,aj h1,Sem.run_bind,wy k1 (show _ from hx),wy k1 (show _ from hy),Result.andThen_ok,Ko (d+1) k2.1 g1 g3];cases e with
    |false=>simp
    |true=>
     simp only[Bool.not_true,Bool.false_eq_true,if_false,Bool.true_and];exact F9 hN hu hp k2.2 g2 g4 B8 IV
theorem MK {P:Program} {t N:TypeId} {sz:Nat} {zs:List SV} {fs:List Field} (hN:eo P N=some (some sz)) (huN:P.underlying N=some (.struct (P.fieldsOf N))) (hpN:P.stoodInHeld N=false) (hz:ft P t=some zs) (hg:P.eqGuardType P.depth t=false)
  (hu:P.underlying t=some (.struct (P.fieldsOf t))) (hp:P.stoodInHeld t=false) (Cj:(P.fieldsOf t).toList=fs) (h:zc P N sz 0 zs fs=true):uo P t:=by
 intro xs ys b w o o' op he hf;rw[hz] at hf;refine⟨run_eqGuard_agg w op t o o' _ _ hg,?_⟩;show(Op.equalIn (9999+1) t _ _).run _ w=_;rw[run_equalIn_struct w 9999 t _ _ hu hp,Cj];exact F9 (d:=9997) hN huN hpN h hf he rfl rfl
theorem aaq:uo Tryz.prog 160:=MK (N:=30) IB (by kernel_rfl) (by kernel_rfl) NU (by kernel_rfl) (by kernel_rfl) (by kernel_rfl) rfl (by kernel_rfl)
theorem aar:uo Tryz.prog 94:=MK (N:=30) IB (by kernel_rfl) (by kernel_rfl) NV (by kernel_rfl) (by kernel_rfl) (by kernel_rfl) rfl (by kernel_rfl)
def Ty.eq (x y:Ty):Bool:=decide (x.dim=y.dim)&&(decide (x.base=y.base)&&decide (x.name=y.name))
def Pc.eq (x y:Pc):Bool:=decide (x.ty.dim=y.ty.dim)&&(decide (x.ty.base=y.ty.base)&&(decide (x.ty.name=y.ty.name)&&decide (x.name=y.name)))
def Fc.eq (x y:Fc):Bool:=decide (x.fl=y.fl)&&(decide (x.ty.dim=y.ty.dim)&&(decide (x.ty.base=y.ty.base)&&(decide (x.ty.name=y.ty.name)&&decide (x.name=y.name))))
structure Md where
 fl:Int
 res:Ty
 name:List UInt8
 params:List Pc
 hb:Bool
 body:List St
structure Cd where
 fl:Int
 name:List UInt8
 super:List UInt8
 ifs:List (List UInt8)
 fields:List Fc
 methods:List Md
 init:List St
def jn {α:Type} (e:α->α->Bool):List α->List α->Bool
 |[],[]=>true
 |a::r,b::t=>e a b&&jn e r t
 |_,_=>false
def fe {α:Type} (e:α->α->Bool) (l l2:List α) (i:Nat):Bool:=match l[i]?,l2[i]? with |some a,some b=>e a b |_,_=>false
theorem Ui {n:Nat} {B:Nat->Bool}:fX (n+1) B=(B 0&&fX n fun i=>B (i+1)):=by
 simp only[fX,List.range_succ_eq_map,List.all_cons,List.all_map];rfl
theorem qE {α:Type} (e:α->α->Bool):∀(l l2:List α),jn e l l2=(decide (l.length=l2.length)&&fX l.length (fe e l l2))
 |[],[]=>rfl
 |[],b::t=>by simp [jn]
 |a::r,[]=>by simp [jn]
 |a::r,b::t=>by
  rw[jn,qE e r t,cv,cv,Ui];have e1:decide (r.length+1=t.length+1)=decide (r.length=t.length):=by rw[decide_eq_decide];omega
  have e2:fe e (a::r) (b::t) 0=e a b:=rfl;have e3:(fun i=>fe e (a::r) (b::t) (i+1))=fe e r t:=by funext i;simp only[fe,List.getElem?_cons_succ]
  rw[e1,e2,e3];cases e a b<;>cases decide (r.length=t.length)<;>rfl
theorem yR {α:Type} {e:α->α->Bool} {l l2:List α} {i:Nat} (h:i<l.length) (h2:i<l2.length):fe e l l2 i=e l[i] l2[i]:=by
 simp only[fe,List.getElem?_eq_getElem h,List.getElem?_eq_getElem h2]
mutual
def iP:Ex->Ex->Bool
 | .mk k n s c ty args,.mk k' n' s' c' ty' jY=>decide (k=k')&&decide (n=n')&&decide (s=s')&&decide (c=c')&&Ty.eq ty ty' &&nl args jY
def nl:List Ex->List Ex->Bool
 |[],[]=>true
 |a::r,b::t=>iP a b&&nl r t
 |[],_::_=>false
 |_::_,[]=>false
end
theorem Gw:∀(l l2:List Ex),nl l l2=jn iP l l2
 |[],[]=>by simp only[nl,jn]
 |a::r,b::t=>by simp only[nl,jn,Gw r t]
 |[],_::_=>by simp only[nl,jn]
 |_::_,[]=>by simp only[nl,jn]
mutual
def de:St->St->Bool
 | .mk k nm ty tg ex body alt,.mk k' nm' ty' BH Cv rj BE=>decide (k=k')&&decide (nm=nm')&&Ty.eq ty ty' &&iP tg BH&&iP ex Cv&&ib body rj&&ib alt BE
def ib:List St->List St->Bool
 |[],[]=>true
 |a::r,b::t=>de a b&&ib r t
 |[],_::_=>false
 |_::_,[]=>false
end
theorem C5:∀(l l2:List St),ib l l2=jn de l l2
 |[],[]=>by simp only[ib,jn]
 |a::r,b::t=>by simp only[ib,jn,C5 r t]
 |[],_::_=>by simp only[ib,jn]
 |_::_,[]=>by simp only[ib,jn]
def qy (x y:Md):Bool:=decide (x.fl=y.fl)&&Ty.eq x.res y.res&&decide (x.name=y.name)&&(x.hb==y.hb)&&jn Pc.eq x.params y.params&&ib x.body y.body
def qz (x y:Cd):Bool:=decide (x.fl=y.fl)&&decide (x.name=y.name)&&decide (x.super=y.super)&&decide (x.ifs=y.ifs)&&jn Fc.eq x.fields y.fields&&jn qy x.methods y.methods&&ib x.init y.init
/-! In memory. -/
structure StOk (k:Int) (nm:List UInt8) (ty:Ty) (l l2:Nat):Prop where
 k:az k
 nm:nm.length<=aA
 ty:lh ty
 l:l<=aA
 l2:l2<=aA
mutual
def fu (m:Mem):St->List Value->Prop
 | .mk k nm ty tg ex body alt,cs=>∃x:Sd,(cs=x.cs/\x.k=k/\x.name=nm/\x.ty=ty)/\bk m tg x.tg.cs/\bk m ex x.ex.cs/\(x.l=body.length/\x.l<=x.cp/\x.l2=alt.length/\x.l2<=x.cp2)/\StOk k nm ty body.length alt.length/\
   ∃xs ys,aK m x.a x.l 23 xs/\aK m x.b x.l2 23 ys/\bF m body xs/\bF m alt ys
def bF (m:Mem):List St->List Value->Prop
 |[],_=>True
 |e::r,xs=>fu m e (xs.take 23)/\bF m r (xs.drop 23)
end
theorem qQ {m:Mem}:∀{l:List St} {xs:List Value} {i:Nat} (_:bF m l xs) (hi:i<l.length),fu m l[i] ((xs.drop (i * 23)).take 23)
 |[],_,_,_,hi=>absurd hi (Nat.not_lt_zero _)
 |e::r,xs,0,h,_=>by simp only[bF] at h;simpa using h.1
 |e::r,xs,i+1,h,hi=>by
  simp only[bF] at h;have:=qQ (i:=i) h.2 (by simpa using hi);rw[List.drop_drop] at this;rw[show(i+1) * 23=23+i * 23 by omega];exact this
mutual
theorem LL {m m' :Mem} (hle:m.le m'):∀(e:St) (cs:List Value),fu m e cs->fu m' e cs
 | .mk k nm ty tg ex body alt,cs,h=>by
  simp only[fu] at h ⊢;obtain⟨x,h1,h2,h3,h4,h5,xs,ys,h6,h7,h8,h9⟩:=h;exact⟨x,h1,Dp hle _ _ h2,Dp hle _ _ h3,h4,h5,xs,ys,AZ hle h6,AZ hle h7,Ae hle body xs h8,Ae hle alt ys h9⟩
theorem Ae {m m' :Mem} (hle:m.le m'):∀(l:List St) (xs:List Value),bF m l xs->bF m' l xs
 |[],_,_=>by simp only[bF]
 |e::r,xs,h=>by
  simp only[bF] at h ⊢;exact⟨LL hle e _ h.1,Ae hle r _ h.2⟩
end
theorem dv {m m' :Mem} {l:List St} {cs:List Value} (hle:an m m') (h:bF m l cs):bF m' l cs:=by
 rcases hle with rfl |hle
 ·exact h
 ·exact Ae hle l cs h
theorem tj {m m' :Mem} {l:St} {cs:List Value} (hle:an m m') (h:fu m l cs):fu m' l cs:=by
 rcases hle with rfl |hle
 ·exact h
 ·exact LL hle l cs h
theorem GK {m:Mem} {e:St} {cs:List Value} (h:fu m e cs):∃x:Sd,cs=x.cs:=by
 cases e with
 |mk k nm ty tg ex body alt=>
  simp only[fu] at h;obtain⟨x,h1,_⟩:=h;exact⟨x,h1.1⟩
def mZ {α:Type} (R:α->List Value->Prop) (sz:Nat):List α->List Value->Prop
 |[],_=>True
 |e::r,xs=>R e (xs.take sz)/\mZ R sz r (xs.drop sz)
theorem pf {α:Type} {R:α->List Value->Prop} {sz:Nat}:∀{l:List α} {xs:List Value} {i:Nat} (_:mZ R sz l xs) (hi:i<l.length),R l[i] ((xs.drop (i * sz)).take sz)
 |[],_,_,_,hi=>absurd hi (Nat.not_lt_zero _)
 |e::r,xs,0,h,_=>by simpa using h.1
 |e::r,xs,i+1,h,hi=>by
  have:=pf (i:=i) h.2 (by simpa using hi);rw[List.drop_drop] at this;rw[show(i+1) * sz=sz+i * sz by rw[Nat.succ_mul,Nat.add_comm]];exact this
theorem ra {α:Type} {R R' :α->List Value->Prop} {sz:Nat} (h:∀a cs,R a cs->R' a cs):∀{l:List α} {xs:List Value},mZ R sz l xs->mZ R' sz l xs
 |[],_,_=>trivial
 |_::_,_,hl=>⟨h _ _ hl.1,ra h hl.2⟩
def flat {α:Type} (f:α->List Value) (l:List α):List Value:=(l.map f).flatten
theorem qN {α:Type} {f:α->List Value} {sz:Nat} (hf:∀x,(f x).length=sz):∀{l:List α} {i:Nat} (hi:i<l.length),((flat f l).drop (i * sz)).take sz=f l[i]
 |[],_,hi=>absurd hi (Nat.not_lt_zero _)
 |x::r,0,_=>by
  simp only[flat,br,List.flatten_cons,Nat.zero_mul,List.drop_zero,List.getElem_cons_zero];rw[<- hf x,List.take_left]
 |x::r,i+1,hi=>by
  have:=qN hf (l:=r) (i:=i) (by simpa using hi);simp only[List.getElem_cons_succ];rw[<- this,Nat.succ_mul,Nat.add_comm,<- List.drop_drop];congr 2
  simp only[flat,br,List.flatten_cons];rw[<- hf x,List.drop_left]
structure PcOk (p:Pc):Prop where
 ty:lh p.ty
 name:p.name.length<=aA
structure FcOk (p:Fc):Prop where
 fl:az p.fl
 ty:lh p.ty
 name:p.name.length<=aA
structure MdOk (d:Md):Prop where
 fl:az d.fl
 res:lh d.res
 name:d.name.length<=aA
 pl:d.params.length<=aA
 ps:∀p∈d.params,PcOk p
 l:d.body.length<=aA
def gq (m:Mem) (d:Md) (cs:List Value):Prop:=∃x:Mc,(cs=x.cs/\x.fl=d.fl/\x.res=d.res/\x.name=d.name/\x.hb=d.hb)/\(x.pl=d.params.length/\x.pl<=x.pc/\x.l=d.body.length/\x.l<=x.cp)/\MdOk d/\
 aK m x.pa x.pl 4 (flat Pc.cs d.params)/\∃xs,aK m x.a x.l 23 xs/\bF m d.body xs
structure CdOk (d:Cd):Prop where
 fl:az d.fl
 name:d.name.length<=aA
 super:d.super.length<=aA
 il:d.ifs.length<=aA
 ifs:∀s∈d.ifs,s.length<=aA
 fn:d.fields.length<=aA
 fs:∀s∈d.fields,FcOk s
 ml:d.methods.length<=aA
 l:d.init.length<=aA
def jW (m:Mem) (d:Cd) (cs:List Value):Prop:=∃x:Cc,(cs=x.cs/\x.fl=d.fl/\x.name=d.name/\x.super=d.super)/\(x.il=d.ifs.length/\x.il<=x.ic/\x.fn=d.fields.length/\x.fn<=x.fc/\x.ml=d.methods.length/\x.ml<=x.mc/\x.sl=d.init.length/\x.sl<=x.sc)/\CdOk d/\
 aK m x.ia x.il 1 (strs d.ifs)/\aK m x.fa x.fn 5 (flat Fc.cs d.fields)/\∃xs ys,aK m x.ma x.ml 8 xs/\mZ (gq m) 8 d.methods xs/\aK m x.sa x.sl 23 ys/\bF m d.init ys
theorem qH {m m' :Mem} (hle:an m m') {d:Md} {cs:List Value} (h:gq m d cs):gq m' d cs:=by
 obtain⟨x,h1,h2,h3,h4,xs,h5,h6⟩:=h;exact⟨x,h1,h2,h3,aD hle h4,xs,aD hle h5,dv hle h6⟩
theorem nM {m m' :Mem} (hle:an m m') {d:Cd} {cs:List Value} (h:jW m d cs):jW m' d cs:=by
 obtain⟨x,h1,h2,h3,h4,h5,xs,ys,h6,h7,h8,h9⟩:=h;exact⟨x,h1,h2,h3,aD hle h4,aD hle h5,xs,ys,aD hle h6,ra (fun _ _=>qH hle) h7,aD hle h8,dv hle h9⟩
def qW (m:Mem) (l:List Cd) (a:Option Addr) (n c:Nat):Prop:=n=l.length/\n<=c/\n<=aA/\∃xs,aK m a n 7 xs/\mZ (jW m) 7 l xs
theorem Vr {m m' :Mem} (hle:an m m') {l:List Cd} {a:Option Addr} {n c:Nat} (h:qW m l a n c):qW m' l a n c:=by
 obtain⟨h1,h2,h3,xs,h4,h5⟩:=h;exact⟨h1,h2,h3,xs,aD hle h4,ra (fun _ _=>nM hle) h5⟩
mutual
def fh:St->Nat
 | .mk _ _ _ _ _ body alt=>max (df body) (df alt)+1
def df:List St->Nat
 |[]=>0
 |e::r=>max (fh e) (df r)
end
theorem oM:∀{l:List St} {e:St},e∈l->fh e<=df l
 |[],e,he=>by cases he
 |x::r,e,he=>by
  simp only[df];rcases List.mem_cons.1 he with rfl |he
  ·omega
  ·have:=oM he;omega
theorem MJ {m:Mem} {l l2:List Ex} {xs ys:List Value} (h1:ea m l xs) (h2:ea m l2 ys) {f:FuncId} (hf:∀a∈l,∀b∈l2,∀ca cb m',an m m' ->bk m' a ca->bk m' b cb->aB f [.v (.agg ⟨ca⟩),.v (.agg ⟨cb⟩)] m' (.bool (iP a b))):
  ∀i,i<l.length->l.length=l2.length->∃X Y:Nd,(xs.drop (i * 8)).take 8=X.cs/\(ys.drop (i * 8)).take 8=Y.cs/\∀m',an m m' ->aB f [.v (.agg ⟨X.cs⟩),.v (.agg ⟨Y.cs⟩)] m' (.bool (fe iP l l2 i)):=fun i hi he=>by
 have r1:=tJ h1 hi;have r2:=tJ h2 (by omega:i<l2.length);obtain⟨X,hX⟩:=qI r1;obtain⟨Y,hY⟩:=qI r2;rw[hX] at r1;rw[hY] at r2;refine⟨X,Y,hX,hY,fun m' hle=> ?_⟩;rw[yR hi (by omega)];exact hf _ (List.getElem_mem hi) _ (List.getElem_mem _) _ _ m' hle (aZ hle r1) (aZ hle r2)
theorem Ht:∀(h:Nat) (a b:Ex) (ca cb:List Value) (m:Mem),bL a<=h->bk m a ca->bk m b cb->aB 251 [.v (.agg ⟨ca⟩),.v (.agg ⟨cb⟩)] m (.bool (iP a b))
 |0,.mk k n s c ty args,b,ca,cb,m,hd,_,_=>by simp [bL] at hd
 |h+1,.mk k n s c ty args,.mk k' n' s' c' ty' jY,ca,cb,m,hd,ha,hb=>by
  simp only[bk] at ha hb;obtain⟨a,cp,xs,rfl,bl,hr,ax,fm⟩:=ha;obtain⟨a',cp',xs',rfl,hcp',xI,hok',hes'⟩:=hb;simp only[bL] at hd;have hE:=fun m' (hle:an m m')=>aao 251 (fe iP args jY) a args.length cp a' jY.length cp' xs xs' m' (aD hle hr) (aD hle xI) ax.2.2.2.2.2 (by kernel_rfl)
   (MJ (yn hle fm) (yn hle hes') fun x hx y hy cx cy jo aY r1 r2=>Ht h x y cx cy jo (by have:=F2 hx;omega) r1 r2)
  simp only[<- qE] at hE;refine enter gA ay Tryz.func251 rfl rfl (by kernel_rfl) rfl ?_ ?_
  ·simp only[go_sem,dt]
  ·simp only[go_sem,dt,qc];refine⟨fun h=>ab ((hE m (.inl rfl)).mono ?_),fun h=> ?_⟩
   ·clear hE;rintro r H' m2 aH ⟨aY,rfl,rfl⟩;simp only[go_sem];refine⟨aY,?_⟩;simp only[iP,Gw,Ty.eq,h,aF,Bool.true_and]
   ·clear hE;simp only[iP,Ty.eq];rcases h with (((h |h) |h) |h) |h |h |h<;>simp [h]
theorem DL {α N:Type} {R:Mem->α->List Value->Prop} {uK:N->List Value} {sz:Nat} {e:α->α->Bool} (Ql:∀m m' a c,an m m' ->R m a c->R m' a c) (hN:∀m a c,R m a c->∃x:N,c=uK x) {m:Mem} {l l2:List α} {xs ys:List Value}
  (h1:∀i (hi:i<l.length),R m l[i] ((xs.drop (i * sz)).take sz)) (h2:∀i (hi:i<l2.length),R m l2[i] ((ys.drop (i * sz)).take sz)) {f:FuncId} (hf:∀a∈l,∀b∈l2,∀ca cb m',an m m' ->R m' a ca->R m' b cb->aB f [.v (.agg ⟨ca⟩),.v (.agg ⟨cb⟩)] m' (.bool (e a b))):
  ∀i,i<l.length->l.length=l2.length->∃X Y:N,(xs.drop (i * sz)).take sz=uK X/\(ys.drop (i * sz)).take sz=uK Y/\∀m',an m m' ->aB f [.v (.agg ⟨uK X⟩),.v (.agg ⟨uK Y⟩)] m' (.bool (fe e l l2 i)):=fun i hi he=>by
 have r1:=h1 i hi;have r2:=h2 i (by omega:i<l2.length);obtain⟨X,hX⟩:=hN _ _ _ r1;obtain⟨Y,hY⟩:=hN _ _ _ r2;rw[hX] at r1;rw[hY] at r2;refine⟨X,Y,hX,hY,fun m' hle=> ?_⟩;rw[yR hi (by omega)];exact hf _ (List.getElem_mem hi) _ (List.getElem_mem _) _ _ m' (hle) (Ql _ _ _ _ hle r1) (Ql _ _ _ _ hle r2)
theorem oT:∀(h:Nat) (a b:St) (ca cb:List Value) (m:Mem),fh a<=h->fu m a ca->fu m b cb->aB 236 [.v (.agg ⟨ca⟩),.v (.agg ⟨cb⟩)] m (.bool (de a b))
 |0,.mk k nm ty tg ex body alt,b,ca,cb,m,hd,_,_=>by simp [fh] at hd
 |h+1,.mk k nm ty tg ex body alt,.mk k' nm' ty' BH Cv rj BE,ca,cb,m,hd,ha,hb=>by
  simp only[fu] at ha hb;obtain⟨x,⟨rfl,rfl,rfl,rfl⟩,dk,hex,⟨hl,bl,bP,dW⟩,ax,xs,ys,r1,r2,s1,s2⟩:=ha;obtain⟨x',⟨rfl,rfl,rfl,rfl⟩,htg',xi,⟨kv,hcp',hl2',hcp2'⟩,hok',xs',ys',r1',r2',s1',s2'⟩:=hb;simp only[fh] at hd;have hT:=fun m' (hle:an m m')=>Ht _ tg BH x.tg.cs x'.tg.cs m' (aq _) (aZ hle dk) (aZ hle htg')
  have hX:=fun m' (hle:an m m')=>Ht _ ex Cv x.ex.cs x'.ex.cs m' (aq _) (aZ hle hex) (aZ hle xi)
  have hB:∀m',an m m' ->aB 252 [.v (.slice x.a x.l x.cp),.v (.slice x'.a x'.l x'.cp),.v (.func (.func 236) ⟨[]⟩ ⟨[]⟩)] m' (.bool (ib body rj)):=fun m' hle=>by
   have hf:=DL (R:=fu) (uK:=Sd.cs) (e:=de) (f:=236) (fun _ _ _ _=>tj) (fun _ _ _=>GK) (fun i hi=>qQ (dv hle s1) hi) (fun i hi=>qQ (dv hle s1') hi)
    (fun a ha b hb ca cb m2 aY=>oT h a b ca cb m2 (by have:=oM ha;omega))
   rw[C5,qE];rw[<- hl,<- kv] at hf ⊢;exact Ph _ _ x.a x.l x.cp x'.a x'.l x'.cp xs xs' m' (aD hle r1) (aD hle r1') (by rw[hl];exact ax.l) (by kernel_rfl) hf
  have hA:∀m',an m m' ->aB 252 [.v (.slice x.b x.l2 x.cp2),.v (.slice x'.b x'.l2 x'.cp2),.v (.func (.func 236) ⟨[]⟩ ⟨[]⟩)] m' (.bool (ib alt BE)):=fun m' hle=>by
   have hf:=DL (R:=fu) (uK:=Sd.cs) (e:=de) (f:=236) (fun _ _ _ _=>tj) (fun _ _ _=>GK) (fun i hi=>qQ (dv hle s2) hi) (fun i hi=>qQ (dv hle s2') hi)
    (fun a ha b hb ca cb m2 aY=>oT h a b ca cb m2 (by have:=oM ha;omega))
   rw[C5,qE];rw[<- bP,<- hl2'] at hf ⊢;exact Ph _ _ x.b x.l2 x.cp2 x'.b x'.l2 x'.cp2 ys ys' m' (aD hle r2) (aD hle r2') (by rw[bP];exact ax.l2) (by kernel_rfl) hf
  clear s1 s2 s1' s2';refine enter gA ay Tryz.func236 rfl rfl (by kernel_rfl) rfl ?_ ?_
  ·simp only[go_sem,Sd.cs,Nd.cs]
  ·simp only[go_sem,Sd.cs,Nd.cs,qc];refine⟨fun h=>ab ((aX (hT m (.inl rfl)) (fun V=>rfl)).mono ?_),fun h=> ?_⟩
   ·clear hT;rintro r H' m2 aH ⟨l2,rfl,rfl⟩;simp only[go_sem,Sd.cs,Nd.cs];have e0:de (St.mk x.k x.name x.ty tg ex body alt) (St.mk x'.k x'.name x'.ty BH Cv rj BE)=(iP tg BH&&iP ex Cv&&ib body rj&&ib alt BE):=by simp only[de,Ty.eq,h,aF,Bool.true_and]
    refine⟨fun h1=>ab ((aX (hX m2 l2) (fun V=>rfl)).mono ?_),fun h1=> ?_⟩
    ·clear hX;rintro r H' m3 bN ⟨l3,rfl,rfl⟩;simp only[go_sem,Sd.cs,Nd.cs];refine⟨fun h2=>ab ((hB m3 (aa l2 l3)).mono ?_),fun h2=> ?_⟩
     ·clear hB;rintro r H' m4 dd ⟨l4,rfl,rfl⟩;simp only[go_sem,Sd.cs,Nd.cs];refine⟨fun h3=>ab ((hA m4 (aa (aa l2 l3) l4)).mono ?_),fun h3=> ?_⟩
      ·clear hA;rintro r H' m5 cW ⟨l5,rfl,rfl⟩;simp only[go_sem,Sd.cs,Nd.cs];refine⟨aa (aa (aa l2 l3) l4) l5,?_⟩;rw[e0,h1,h2,h3];rfl
      ·refine⟨aa (aa l2 l3) l4,?_⟩;rw[e0,h3,Bool.and_false];rfl
     ·refine⟨aa l2 l3,?_⟩;rw[e0,h2,Bool.and_false];rfl
    ·refine⟨l2,?_⟩;rw[e0,h1];rfl
   ·clear hT hX hB hA;simp only[de,Ty.eq];rcases h with (h |h) |h |h |h<;>simp [h]
theorem Dk {m:Mem} {e:Md} {cs:List Value} (h:gq m e cs):∃x:Mc,cs=x.cs:=by
 obtain⟨x,h1,_⟩:=h;exact⟨x,h1.1⟩
theorem V9 {m:Mem} {e:Cd} {cs:List Value} (h:jW m e cs):∃x:Cc,cs=x.cs:=by
 obtain⟨x,h1,_⟩:=h;exact⟨x,h1.1⟩
end Go.Proofs.YtimddhkipjedcaaGreatDoor.E

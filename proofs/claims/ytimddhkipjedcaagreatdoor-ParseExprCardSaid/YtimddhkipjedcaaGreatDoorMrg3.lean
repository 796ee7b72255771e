/- Several texts in one. -/
import Derived.Lib.ParseIntB
import Derived.Shelf.LaysC
import Derived.Shelf.Strconv.ParseIntPublic10
import Derived.Laws.StructEq
import Derived.Test.YtimddhkipjedcaaGreatDoorMrg2
set_option linter.unusedSimpArgs false
set_option linter.unusedVariables false
set_option maxHeartbeats 4000000
set_option maxRecDepth 20000
namespace Go.Proofs.YtimddhkipjedcaaGreatDoor.E
open Go Go.RowKit
def bS (first:Bool):List UInt8->Nat
 |[]=>0
 |c::r=>if cM c.toNat||(!first&&dk c.toNat) then 1+bS false r else 0
theorem BQ (c:Int) (m:Mem):FnH Tryz.prog 114 [.v (.int .u8 c)] ⟨[],[]⟩ m fun r H' _=>r= .v (.bool (cM c))/\H' =⟨[],[]⟩:=by
 refine aH mQ Tryz.func114 ?_
 ·simp only[go_sem];rfl
theorem BY (c:Int) (m:Mem):FnH Tryz.prog 116 [.v (.int .u8 c)] ⟨[],[]⟩ m fun r H' _=>r= .v (.bool (dk c))/\H' =⟨[],[]⟩:=by
 refine aH mQ Tryz.func116 ?_
 ·simp only[go_sem];rfl
def AG (s:List UInt8) (i:Int) (b:List UInt8):Bool:=decide ((b.length:Int)<=s.length - i)&&decide (((s.take (i+b.length).toNat).drop i.toNat)=b)
theorem Mj (s b:List UInt8) (i:Int) (m:Mem) (h0:0<=i) (h1:i<=s.length) (hs:s.length<=4611686018427387904) (hb:b.length<=1000):
  FnH Tryz.prog 113 [.v (.string (bs s)),.v (.int .i64 i),.v (.string (bs b))] ⟨[],[]⟩ m fun r H' _=>r= .v (.bool (AG s i b))/\H' =⟨[],[]⟩:=by
 refine aH mQ Tryz.func113 ?_
 ·simp only[go_sem];have:∀h:(b.length:Int)<=s.length - i,ax (i+b.length):=fun h=>by unfold ax;omega
  exact⟨by unfold ax;omega,this,fun h=>⟨h0,by omega,by omega⟩,rfl⟩
def gX (s:List UInt8):Int×Bool:=
 match Lib.parseIntB 64 s with
 | .ok v=>(v,true)
 | .range=>(Lib.intSat 64 s,false)
 |_=>(0,false)
def cP:Bool->List UInt8->Nat
 |_,[]=>0
 |true,c::r=>if c.toNat=10 then 1+cP false r else 1+cP true r
 |false,c::r=>if c.toNat=9\/c.toNat=10\/c.toNat=13\/c.toNat=32 then 1+cP false r else if c.toNat=47/\r.head?.map UInt8.toNat=some 47 then 1+cP true r else 0
theorem vx:∀(b:Bool) (l:List UInt8),cP b l<=l.length
 |_,[]=>by simp [cP]
 |true,c::r=>by
  have h1:=vx false r;have h2:=vx true r;simp only[cP,cC];split<;>omega
 |false,c::r=>by
  have h1:=vx false r;have h2:=vx true r;simp only[cP,cC];split
  ·omega
  ·split<;>omega
theorem BW {a b:List UInt8}:gZ a b=true↔∃r,a=b++r:=by
 simp only[gZ,cO,gA];constructor
 ·rintro⟨_,h⟩;exact⟨a.drop b.length,by conv=>lhs;rw[<- List.take_append_drop b.length a,h]⟩
 ·rintro⟨r,rfl⟩;exact⟨by rw[bY];omega,by simp⟩
theorem GC {c:UInt8} {n:Nat} (h:c.toNat=n):c=UInt8.ofNat n:=by rw[<- h];simp
theorem xj {c:UInt8} {r:List UInt8}:gZ (c::r) [47,47]=true↔c.toNat=47/\r.head?.map UInt8.toNat=some 47:=by
 rw[BW];constructor
 ·rintro⟨t,h⟩;simp only[jt,List.nil_append,List.cons.injEq] at h;rw[h.1,h.2];simp
 ·rintro⟨h1,h2⟩;cases r with
  |nil=>simp at h2
  |cons d r=>
   simp only[List.head?_cons,Option.map_some,de] at h2;exact⟨r,by rw[GC h1,GC h2];rfl⟩
theorem z6 (c:UInt8):∀(l:List UInt8),Lib.indexByte l c<l.length
 |[]=>by simp [Lib.indexByte]
 |d::r=>by
  have:=z6 c r;simp only[Lib.indexByte,cC];split
  ·omega
  ·split<;>omega
abbrev mZ:Tk:=⟨0,[],0,0⟩
def o8 (l:List UInt8):Option (List UInt8):=eQ.find? fun o=>gZ l o
def lS (c:UInt8):Int:=Lib.indexByte qo c
def dp:List UInt8->Nat×Int×Bool
  |[]=>(0,0,false)
  |c::r=>if c.toNat=34\/c.toNat=92 then(1,c.toNat,true) else if c.toNat=110 then(1,10,true) else if c.toNat=120 then
      (match r with
        |h::l::_=>(3,IntKind.u8.wrap (16 * lS h+lS l),decide (0<=lS h)&&decide (0<=lS l))
        |_=>(0,0,false)) else(0,0,false)
def j7:Nat->List UInt8->Option (List UInt8×Nat)
  |0,_=>none
  |_+1,[]=>none
  |f+1,c::r=>if c.toNat=34 then some ([],1) else if c.toNat<32\/126<c.toNat then none else
      if c.toNat=92 then(if(dp r).2.2=true then(j7 f (r.drop (dp r).1)).map fun x=>(UInt8.ofNat (dp r).2.1.toNat::x.1,1+(dp r).1+x.2) else none)
      else(j7 f r).map fun x=>(c::x.1,1+x.2)
def jx (l:List UInt8):Option (List UInt8×Nat):=j7 (l.length+1) l
theorem wrap_u8 (n:Int):∃x:UInt8,IntKind.u8.wrap n=x.toNat:=by
 have h:0<=IntKind.u8.wrap n/\IntKind.u8.wrap n<256:=by
  have e:IntKind.u8.wrap n=n % 256:=by simp [IntKind.wrap,IntKind.bits,IntKind.signed]
  rw[e];omega
 exact⟨UInt8.ofNat (IntKind.u8.wrap n).toNat,by rw[UInt8.toNat_ofNat'];omega⟩
theorem Ke (l:List UInt8):∃x:UInt8,(dp l).2.1=x.toNat:=by
 unfold dp;split
 ·exact⟨0,rfl⟩
 ·rename_i c r;split
  ·exact⟨c,rfl⟩
  ·split
   ·exact⟨10,rfl⟩
   ·split
    ·split
     ·exact wrap_u8 _
     ·exact⟨0,rfl⟩
    ·exact⟨0,rfl⟩
theorem Cv (l:List UInt8):(dp l).1<=l.length/\((dp l).2.2=true->1<=(dp l).1):=by
 unfold dp;split
 ·simp
 ·rename_i c r;split
  ·simp
  ·split
   ·simp
   ·split
    ·split
     ·simp
     ·simp
    ·simp
def cJ:List UInt8->Nat
 |[]=>0
 |c::r=>if dk c.toNat then 1+cJ r else 0
theorem Gz:∀l,cJ l<=l.length
 |[]=>by simp [cJ]
 |c::r=>by
  have:=Gz r;simp only[cJ,cC];split<;>omega
def fg (l:List UInt8):Bool×Int×Nat×Bool:=
 let d:=cJ l
 let az:=decide ((l.drop d).head?.map UInt8.toNat=some 76)
 let v:=gX (l.take d)
 (az,v.1,if az=true then d+1 else d,v.2&&decide (v.1<=if az=true then 9223372036854775807 else 2147483647)&&(decide ((l.head?.map UInt8.toNat)≠some 48)||decide (d=1)))
def jA (s:List UInt8) (p:Nat):List UInt8:=(s.drop p).take (cJ (s.drop p))
theorem MT {s:List UInt8} {p k:Nat} (hp:p<s.length) (hk:k<=s.length) (nW:k=p+cJ (s.drop p)) (yo:p<k):
  (s.take k).drop p=jA s p/\(jA s p).length=k - p/\fg (s.drop p)=(decide ((k:Int)<s.length/\(((s.getD k 0).toNat:Nat):Int)=76),(gX (jA s p)).1,(if((k:Int)<s.length/\(((s.getD k 0).toNat:Nat):Int)=76) then k - p+1 else k - p),
   (gX (jA s p)).2&&decide ((gX (jA s p)).1<=if((k:Int)<s.length/\(((s.getD k 0).toNat:Nat):Int)=76) then 9223372036854775807 else 2147483647)&&(decide (((jA s p).getD 0 0).toNat≠48)||decide ((jA s p).length=1))):=by
 have iZ:(s.take k).drop p=(s.drop p).take (cJ (s.drop p)):=by
  rw[List.drop_take];congr 1;omega
 have hdn:(s.drop p).drop (cJ (s.drop p))=s.drop k:=by rw[List.drop_drop,nW]
 have rQ:((s.drop p).take (cJ (s.drop p))).length=k - p:=by rw[List.length_take];have:=Gz (s.drop p);omega
 have hd0:((s.drop p).take (cJ (s.drop p))).getD 0 0=(s.drop p).getD 0 0:=by
  rw[List.getD_eq_getElem?_getD,List.getElem?_take,ah (by omega),List.getD_eq_getElem?_getD]
 have H4:cJ (s.drop p)=k - p:=by omega
 have hh0:(s.drop p).head?.map UInt8.toNat=some ((s.drop p).getD 0 0).toNat:=by
  rw[drop_at hp];rfl
 have hh1:((s.drop k).head?.map UInt8.toNat=some 76)=((k:Int)<s.length/\(((s.getD k 0).toNat:Nat):Int)=76):=by
  rw[eq_iff_iff];rcases Nat.lt_or_ge k s.length with h' |h'
  ·rw[drop_at h'];simp only[List.head?_cons,Option.map_some,de];omega
  ·rw[List.drop_of_length_le h'];simp only[List.head?_nil,Option.map_none];constructor
   ·intro h;cases h
   ·intro h;omega
 refine⟨iZ,rQ,?_⟩;unfold jA
 have hN:fg (s.drop p)=(decide (((s.drop p).drop (cJ (s.drop p))).head?.map UInt8.toNat=some 76),(gX ((s.drop p).take (cJ (s.drop p)))).1,
  (if decide (((s.drop p).drop (cJ (s.drop p))).head?.map UInt8.toNat=some 76)=true then cJ (s.drop p)+1 else cJ (s.drop p)),
  (gX ((s.drop p).take (cJ (s.drop p)))).2&&decide ((gX ((s.drop p).take (cJ (s.drop p)))).1<=if decide (((s.drop p).drop (cJ (s.drop p))).head?.map UInt8.toNat=some 76)=true then 9223372036854775807 else 2147483647)&&(decide (((s.drop p).head?.map UInt8.toNat)≠some 48)||decide (cJ (s.drop p)=1))):=rfl
 rw[hN,hdn,rQ,hd0,hh0];generalize (s.drop p).take (cJ (s.drop p))=t
 rw[H4];simp only[hh1,gA,ne_eq,de]
def lk:Nat->List UInt8->Nat
 |0,_=>0
 |f+1,l=>if gZ l [58,58]=true/\bS true (l.drop 2)≠0 then 2+bS true (l.drop 2)+lk f (l.drop (2+bS true (l.drop 2))) else 0
def iJ (l:List UInt8):Nat:=bS true l+lk (l.length+1) (l.drop (bS true l))
def fu (l:List UInt8):List UInt8:=Lib.replaceAll (l.take (iJ l)) [58,58] [47]
theorem vz:∀(b:Bool) (l:List UInt8),bS b l<=l.length
 |_,[]=>by simp [bS]
 |b,c::r=>by
  have:=vz false r;simp only[bS,cC];split<;>omega
theorem CN {a b:List UInt8} (h:gZ a b=true):b.length<=a.length:=by
 obtain⟨r,rfl⟩:=BW.1 h;rw[bY];omega
def gJ (l:List UInt8):Option (Int×List UInt8×Int×Nat):=
 match l with
 |[]=>none
 |c::r=>
  if cM c.toNat=true then(if dX (fu l)=true then some (if fb.contains (fu l)=true then 2 else 1,fu l,0,iJ l) else none)
  else if dk c.toNat=true then(if(fg l).2.2.2=true then some (if(fg l).1=true then 4 else 3,[],(fg l).2.1,(fg l).2.2.1) else none)
  else if c.toNat=34 then(match jx r with
   |some (b,n)=>if b.length<=1024 then some (5,b,0,1+n) else none
   |none=>none)
  else(o8 l).map fun o=>(6,o,0,o.length)
theorem Ml:∀(f:Nat) (l:List UInt8),lk f l<=l.length
 |0,_=>au _
 |f+1,l=>by
  simp only[lk];split
  ·rename_i h;have h1:=vz true (l.drop 2);have h2:=Ml f (l.drop (2+bS true (l.drop 2)));have h3:=CN h.1;simp only[cj,cC,fm] at h1 h2 h3;omega
  ·exact au _
theorem Xs (l:List UInt8):iJ l<=l.length:=by
 have h1:=vz true l;have h2:=Ml (l.length+1) (l.drop (bS true l));rw[cj] at h2;unfold iJ;omega
theorem EM:∀(f:Nat) (l:List UInt8) (b:List UInt8) (n:Nat),j7 f l=some (b,n)->1<=n/\n<=l.length
 |0,l,b,n,h=>by cases h
 |f+1,[],b,n,h=>by cases h
 |f+1,c::r,b,n,h=>by
  simp only[j7] at h;split at h
  ·cases h;simp
  ·split at h
   ·cases h
   ·split at h
    ·split at h
     ·obtain⟨⟨b',n'⟩,h',e⟩:=Option.map_eq_some_iff.1 h;cases e;have h1:=EM f _ _ _ h';have h2:=(Cv r).1;rw[cj] at h1;simp only[cC];omega
     ·cases h
    ·obtain⟨⟨b',n'⟩,h',e⟩:=Option.map_eq_some_iff.1 h;cases e;have h1:=EM f _ _ _ h';simp only[cC];omega
theorem QO {l o:List UInt8} (h:o8 l=some o):1<=o.length/\o.length<=l.length:=by
 have h1:=List.find?_some h;have h2:=List.mem_of_find?_eq_some h;exact⟨(by decide:∀o∈eQ,1<=o.length) o h2,CN h1⟩
theorem FA {l:List UInt8} {k:Int} {t:List UInt8} {n:Int} {len:Nat} (h:gJ l=some (k,t,n,len)):1<=len/\len<=l.length:=by
 cases l with
 |nil=>cases h
 |cons c r=>
  simp only[gJ] at h;split at h
  ·rename_i hs;split at h
   ·cases h;refine⟨?_,Xs _⟩;have:1<=bS true (c::r):=by
     simp only[bS];rw[ah (by rw[hs];rfl)];omega
    unfold iJ;omega
   ·cases h
  ·split at h
   ·rename_i hd;split at h
    ·cases h;have h1:=Gz (c::r);have h2:1<=cJ (c::r):=by simp only[cJ];rw[ah hd];omega
     simp only[fg];split
     ·rename_i hb;refine⟨by omega,?_⟩;rcases Nat.lt_or_ge (cJ (c::r)) (c::r).length with h3 |h3
      ·omega
      ·rw[List.drop_of_length_le h3] at hb;simp at hb
     ·exact⟨h2,h1⟩
    ·cases h
   ·split at h
    ·split at h
     ·rename_i b n' hq;split at h
      ·cases h;have:=EM _ _ _ _ hq;simp only[cC];omega
      ·cases h
     ·cases h
    ·obtain⟨o,ho,e⟩:=Option.map_eq_some_iff.1 h;cases e;exact QO ho
def mG (s:List UInt8):Nat->Nat->List Tk->List Tk×Int×Int
 |0,_,acc=>(acc,0,0)
 |f+1,p,acc=>
  let q:=p+cP false (s.drop p)
  if s.length<=q then(acc,0,0) else if 5000<=acc.length then([],0,5) else
   match gJ (s.drop q) with
   |none=>([],q,70)
   |some (k,t,n,len)=>mG s f (q+len) (acc++[⟨k,t,n,q⟩])
def aD (s:List UInt8):List Tk×Int×Int:=if 20000<s.length then([],0,8) else mG s (s.length+1) 0 []
theorem IG (a:List Tk) (t:Tk):cG a++[Value.int .i64 t.k,.string (bs t.s),.int .i64 t.n,.int .i64 t.at_]=cG (a++[t]):=by simp [cG]
def uH (x:List Tk×Int×Int) (r:SV) (H' :Hp):Prop:=
 (x.2.2=0/\∃k u,r= .tup [.vec k u,.v (.int .i64 x.2.1),.v (.int .i64 x.2.2)]/\H' =⟨[],[⟨k,u,50,4,x.1.length,cG x.1⟩]⟩)\/
 (x.2.2≠0/\x.1=[]/\r= .tup [.v (.slice none 0 0),.v (.int .i64 x.2.1),.v (.int .i64 x.2.2)]/\H' =⟨[],[]⟩)
def AO (c:Int):Int:=if dk c then c - 48 else if 97<=c/\c<=102 then c - 97+10 else -1
theorem Mo (c:UInt8):AO c.toNat=lS c:=by
 have h:∀n:Nat,n<256->AO (n:Int)=lS (UInt8.ofNat n):=by decide
 have:=h c.toNat c.toNat_lt;simpa using this
theorem EG (n:Int):IntKind.u8.wrap n=n % 256:=by simp [IntKind.wrap,IntKind.bits,IntKind.signed]
theorem Ep {n:Int} (h:0<=n/\n<1000):IntKind.i64.wrap n=n:=by
 simp [IntKind.wrap,IntKind.bits,IntKind.signed];omega
theorem xJ (c:Int):dk c=true↔48<=c/\c<=57:=by simp [dk]
abbrev cf8:Cfg:=fh (fun _=>false) [(114,lv cM),(116,lv dk)]
theorem A4:cd cf8 Tryz.prog:=pure_cons (by kernel_rfl) (qc BQ) (pure_cons (by kernel_rfl) (qc BY) pure_nil)
def Dt (F:Int->Value):List Value->Option (Prop×Value)
 |[.int .u8 c]=>some (0<=c/\c<=255,F c)
 |_=>none
attribute [go_sem] Dt.eq_1
theorem Uh (c:Int) (m:Mem) (hc:0<=c/\c<=255):FnH Tryz.prog 220 [.v (.int .u8 c)] ⟨[],[]⟩ m fun r H' _=>r= .v (.int .i64 (AO c))/\H' =⟨[],[]⟩:=by
 refine aH A4 Tryz.func220 ?_
 ·simp only[go_sem];unfold AO;refine⟨fun h=> ?_,fun h=>⟨fun h2=> ?_,fun h2=> ?_⟩⟩
  ·rw[ah h];have:=(xJ c).1 h;rw[EG,Ep (by omega)];omega
  ·rw[ae (by rw[h];exact Bool.false_ne_true),ah h2,EG,Ep (by omega)];exact⟨by unfold ax;omega,by omega⟩
  ·rw[ae (by rw[h];exact Bool.false_ne_true),ae (by omega)]
theorem Ji (s:List UInt8) (p:Nat) (m:Mem) (hp:p<=s.length) (hs:s.length<=1000000) (hd:p<s.length->dk (s.getD p 0).toNat=false):
  FnH Tryz.prog 177 [.v (.string (bs s)),.v (.int .i64 p)] ⟨[],[]⟩ m fun r H' m' =>r= .v (.int .i64 (p+bS true (s.drop p):Nat))/\H' =⟨[],[]⟩/\m' =m:=by
 refine aH A4 Tryz.func177 ?_
 ·simp only[go_sem];refine cK A4 (fun k:Nat=>⟨[⟨0,[],.v (.string (bs s))⟩,⟨1,[],.v (.int .i64 k)⟩],[],[],[],0,m⟩)
   (fun k=>p<=k/\k<=s.length/\p+bS true (s.drop p)=k+bS (k==p) (s.drop k)) (fun k=>s.length - k) p (fun _ _=>aq _) (fun _ _=> .inl rfl) ?_ ?_ ?_
  ·simp only[go_sem]
  ·exact⟨aq _,hp,by simp⟩
  ·rintro k ⟨h1,h2,h3⟩;simp only[go_sem];refine⟨fun h=>⟨by omega,h⟩,fun h=>⟨by omega,h.2⟩,fun h=>⟨by unfold ax;omega,k+1,rfl,⟨by omega,by omega,?_⟩,by omega⟩,fun h=> ?_⟩
   ·rw[h3,drop_at (by omega)];have cY:(k+1==p)=false:=by rw[beq_eq_false_iff_ne];omega
    simp only[bS,cY];rw[ah]
    ·omega
    ·rcases h.2 with h' |h'
     ·rw[h'];rfl
     ·rcases Nat.lt_or_ge p k with h4 |h4
      ·have:(k==p)=false:=by rw[beq_eq_false_iff_ne];omega
       rw[this,h'];simp
      ·obtain rfl:p=k:=by omega
       rw[hd (by omega)] at h';cases h'
   ·have h0:bS (k==p) (s.drop k)=0:=by
     rcases Nat.lt_or_ge k s.length with h4 |h4
     ·rw[drop_at h4];simp only[bS];rcases h with h |h
      ·omega
      ·rw[ae];rw[h.1,h.2];simp
     ·rw[List.drop_of_length_le h4];cases (k==p)<;>rfl
    rw[h3,h0];rfl
theorem W6 {P:Program} {f:FuncId} {F:Int->Value} (h:∀c m,0<=c/\c<=255->FnH P f [.v (.int .u8 c)] ⟨[],[]⟩ m fun r H' _=>r= .v (F c)/\H' =⟨[],[]⟩):nJ P f (Dt F):=fun b5 y hy hB m=>by
 unfold Dt at hy;split at hy
 ·cases hy;exact h _ m hB
 ·cases hy
abbrev cf9:Cfg:=fh (fun _=>false) [(220,Dt fun c=> .int .i64 (AO c)),(114,lv cM),(116,lv dk)]
theorem DQ:cd cf9 Tryz.prog:=pure_cons (by kernel_rfl) (W6 Uh) (pure_cons (by kernel_rfl) (qc BQ) (pure_cons (by kernel_rfl) (qc BY) pure_nil))
def fX:List UInt8->Int×Nat
 |[]=>(0,0)
 |c::r=>if(c.toNat<32\/126<c.toNat)\/c.toNat=34 then(0,0) else if c.toNat≠92 then(c.toNat,1) else if(dp r).2.2=true then((dp r).2.1,1+(dp r).1) else(0,0)
theorem Ux {s:List UInt8} {q:Nat} (h:s.length<=q):dp (s.drop q)=(0,0,false):=by
 rw[List.drop_of_length_le h];rfl
theorem Kd {s:List UInt8} {q:Nat} (h:q<s.length) (hc:(s.getD q 0).toNat=34\/(s.getD q 0).toNat=92):dp (s.drop q)=(1,((s.getD q 0).toNat:Int),true):=by
 rw[drop_at h];simp only[dp];rw[ah hc]
theorem XP {s:List UInt8} {q:Nat} (h:q<s.length) (hc:(s.getD q 0).toNat=110):dp (s.drop q)=(1,10,true):=by
 rw[drop_at h];simp only[dp];rw[ae (by omega),ah hc]
theorem Np {s:List UInt8} {q:Nat} (h:q+2<s.length) (hc:(s.getD q 0).toNat=120):
  dp (s.drop q)=(3,IntKind.u8.wrap (16 * lS (s.getD (q+1) 0)+lS (s.getD (q+2) 0)),decide (0<=lS (s.getD (q+1) 0))&&decide (0<=lS (s.getD (q+2) 0))):=by
 rw[drop_at (by omega),drop_at (k:=q+1) (by omega),drop_at (k:=q+1+1) (by omega)];simp only[dp];rw[ae (by omega),ae (by omega),ah hc]
theorem Rw {s:List UInt8} {q:Nat} (h:q<s.length) (hs:s.length<=q+2) (hc:(s.getD q 0).toNat=120):dp (s.drop q)=(0,0,false):=by
 rw[drop_at h];simp only[dp];rw[ae (by omega),ae (by omega),ah hc];have hl:(s.drop (q+1)).length<=1:=by rw[cj];omega
 split
 ·rename_i h l t e;rw[e] at hl;simp at hl
 ·rfl
theorem Wu {s:List UInt8} {q:Nat} (h:q<s.length) (h1:¬((s.getD q 0).toNat=34\/(s.getD q 0).toNat=92)) (h2:¬(s.getD q 0).toNat=110) (h3:¬(s.getD q 0).toNat=120):dp (s.drop q)=(0,0,false):=by
 rw[drop_at h];simp only[dp];rw[ae h1,ae h2,ae h3]
theorem SL {s:List UInt8} {p:Nat} (h:p<s.length) (hc:((s.getD p 0).toNat<32\/126<(s.getD p 0).toNat)\/(s.getD p 0).toNat=34):fX (s.drop p)=(0,0):=by
 rw[drop_at h];simp only[fX];rw[ah hc]
theorem QC {s:List UInt8} {p:Nat} (h:p<s.length) (hc:¬(((s.getD p 0).toNat<32\/126<(s.getD p 0).toNat)\/(s.getD p 0).toNat=34)) (h2:(s.getD p 0).toNat≠92):fX (s.drop p)=(((s.getD p 0).toNat:Int),1):=by
 rw[drop_at h];simp only[fX];rw[ae hc,ah h2]
theorem tG {s:List UInt8} {p:Nat} (h:p<s.length) (h2:(s.getD p 0).toNat=92) {x:Nat×Int×Bool} (he:dp (s.drop (p+1))=x):fX (s.drop p)=if x.2.2=true then(x.2.1,1+x.1) else(0,0):=by
 rw[drop_at h];simp only[fX];rw[ae (by omega),ae (by omega),he]
theorem SJ (s:List UInt8) (p:Nat) (m:Mem) (hp:p<s.length) (hs:s.length<=1000000):
  FnH Tryz.prog 180 [.v (.string (bs s)),.v (.int .i64 p)] ⟨[],[]⟩ m fun r H' m' =>r= .tup [.v (.int .u8 (fX (s.drop p)).1),.v (.int .i64 (fX (s.drop p)).2)]/\H' =⟨[],[]⟩/\m' =m:=by
 have e1:((p:Int)+1).toNat=p+1:=by omega
 have e2:((p:Int)+2).toNat=p+2:=by omega
 have e3:((p:Int)+3).toNat=p+3:=by omega
 have hb:∀x:UInt8,(0:Int)<=x.toNat/\(x.toNat:Int)<=255:=fun x=>by have:=x.toNat_lt;omega
 refine aH DQ Tryz.func180 ?_
 ·simp only[go_sem,e1,e2,e3,Mo];have hI:∀n:Int,0<=n->n<=2000000->ax n:=fun n _ _=>by unfold ax;omega
  refine⟨by omega,fun h=>by rw[SL hp (by omega)];rfl,fun h=>⟨fun h2=>by rw[QC hp (by omega) (by omega)];rfl,fun Ps=>⟨by unfold ax;omega,fun wH=> ?_,fun wH=> ?_⟩⟩⟩
  ·rw[tG hp (by omega) (Ux (by omega))];rfl
  ·have hq:p+1<s.length:=by omega
   refine⟨by unfold ax;omega,by omega,fun yP=>⟨fun _=>⟨by unfold ax;omega,by omega,?_⟩,fun h=>absurd yP h⟩,fun yP=>⟨fun h=> ?_,fun h=> ?_⟩⟩
   ·rw[tG hp (by omega) (Kd hq (by omega))];rfl
   ·rw[tG hp (by omega) (Kd hq (by omega))];exact⟨by unfold ax;omega,by omega,rfl⟩
   ·refine⟨fun abI=>by rw[tG hp (by omega) (XP hq (by omega))];rfl,fun abI=>⟨fun abH=>⟨by unfold ax;omega,fun _=>by unfold ax;omega,fun _=>by omega,fun _=>hb _,fun _=>by unfold ax;omega,fun _=>by omega,fun _=>hb _,fun h4=> ?_,fun h4=> ?_⟩,fun abH=> ?_⟩⟩
    ·have hx:=tG hp (by omega) (Np (q:=p+1) (by omega) (by omega));rw[ah (by rw[bO h4.1.2,bO h4.2];rfl)] at hx;have D8:Lib.indexByte qo (s.getD (p+2) 0)<16:=z6 _ qo;have yN:Lib.indexByte qo (s.getD (p+3) 0)<16:=z6 _ qo;have tC:=h4.1.2;have h42:=h4.2;refine ly DQ (by kernel_rfl) (by kernel_rfl) (by kernel_rfl) ?_;simp only[go_sem,e1,e2,e3,Mo];rw[hx];unfold lS at tC h42 ⊢;refine⟨by unfold ax;omega,by omega,hb _,by unfold ax;omega,by unfold ax;omega,by omega,hb _,by unfold ax;omega,?_⟩;rw[Int.mul_comm];rfl
    ·rcases Nat.lt_or_ge (p+3) s.length with h5 |h5
     ·rw[tG hp (by omega) (Np (q:=p+1) (by omega) (by omega)),ae]
      ·rfl
      ·simp only[cO,gA];rintro⟨x,y⟩;rcases h4 with (h4 |h4) |h4
       ·omega
       ·exact h4 x
       ·exact h4 y
     ·rw[tG hp (by omega) (Rw (q:=p+1) (by omega) (by omega) (by omega))];rfl
    ·rw[tG hp (by omega) (Wu hq (by omega) (by omega) (by omega))];rfl
def RN (p:Nat) (o:Option (Int×List UInt8×Int×Nat)) (r:SV):Prop:=
 ∃(t:Tk) (e:Int) (b:Bool),r= .tup [Tk.sv t,.v (.int .i64 e),.v (.bool b)]/\
  match o with
  |some (k,tt,n,len)=>b=true/\t=⟨k,tt,n,p⟩/\e=(p+len:Nat)
  |none=>b=false
theorem SK (l:List UInt8):(fX l).2<=l.length:=by
 cases l with
 |nil=>simp [fX]
 |cons c r=>
  have:=(Cv r).1;simp only[fX,cC];split
  ·omega
  ·split
   ·omega
   ·split<;>simp only<;>omega
theorem RA (l:List UInt8):∃x:UInt8,(fX l).1=x.toNat:=by
 cases l with
 |nil=>exact⟨0,rfl⟩
 |cons c r=>
  simp only[fX];split
  ·exact⟨0,rfl⟩
  ·split
   ·exact⟨c,rfl⟩
   ·split
    ·exact Ke r
    ·exact⟨0,rfl⟩
theorem QZ {f:Nat} {c:UInt8} {r:List UInt8} {x:UInt8} (hc:c.toNat≠34) (hx:(fX (c::r)).1=x.toNat):
  j7 (f+1) (c::r)=if(fX (c::r)).2=0 then none else(j7 f ((c::r).drop (fX (c::r)).2)).map fun y=>(x::y.1,(fX (c::r)).2+y.2):=by
 simp only[j7];rw[ae hc];by_cases h1:c.toNat<32\/126<c.toNat
 ·have wN:fX (c::r)=(0,0):=by simp only[fX];rw[ah (.inl h1)]
  rw[ah h1,wN];rfl
 ·rw[ae h1];by_cases h2:c.toNat=92
  ·rw[ah h2];by_cases h3:(dp r).2.2=true
   ·have h4:=(Cv r).2 h3;have wN:fX (c::r)=((dp r).2.1,1+(dp r).1):=by simp only[fX];rw[ae (by omega),ae (by omega),ah h3]
    rw[wN] at hx ⊢;have hx:(dp r).2.1=x.toNat:=hx;rw[ah h3,hx];have e1:UInt8.ofNat ((x.toNat:Nat):Int).toNat=x:=by simp
    have e2:(c::r).drop (1+(dp r).1)=r.drop (dp r).1:=by rw[Nat.add_comm,List.drop_succ_cons]
    show _=if 1+(dp r).1=0 then none else(j7 f ((c::r).drop (1+(dp r).1))).map fun y=>(x::y.1,1+(dp r).1+y.2)
    rw[ae (by omega),e1,e2]
   ·have wN:fX (c::r)=(0,0):=by simp only[fX];rw[ae (by omega),ae (by omega),ae h3]
    rw[ae h3,wN];rfl
  ·rw[ae h2];have wN:fX (c::r)=((c.toNat:Int),1):=by simp only[fX];rw[ae (by omega),ah h2]
   rw[wN] at hx ⊢;have hx:(c.toNat:Int)=x.toNat:=hx;have e1:c=x:=UInt8.toNat_inj.1 (by omega);show _=if 1=0 then none else(j7 f ((c::r).drop 1)).map fun y=>(x::y.1,1+y.2)
   rw[ae (by decide),List.drop_succ_cons,List.drop_zero,e1]
theorem RR (s:List UInt8) (p:Nat) (m:Mem) (hp:p<s.length) (hs:s.length<=1000000):
  FnH Tryz.prog 118 [.v (.string (bs s)),.v (.int .i64 p)] ⟨[],[]⟩ m fun r H' m' =>m' =m/\H' =⟨[],[]⟩/\
   RN p (match jx (s.drop (p+1)) with
    |some (b,n)=>if b.length<=1024 then some (5,b,0,1+n) else none
    |none=>none) r:=by
 refine aH DQ Tryz.func118 ?_
 ·simp only[go_sem];refine⟨by unfold ax;omega,?_⟩;refine cK DQ (fun x:Nat×List UInt8×Nat=>⟨[⟨0,[],.v (.string (bs s))⟩,⟨1,[],.v (.int .i64 p)⟩,⟨4,[],.box 0 0⟩,⟨7,[],.vec 1 x.2.2⟩,⟨8,[],.v (.int .i64 x.1)⟩],[],[⟨0,50,mZ.cells⟩],[⟨1,x.2.2,5,1,x.2.1.length,kh x.2.1⟩],2,m⟩)
   (fun x=>p+1<=x.1/\x.1<=s.length/\x.2.1.length<=x.1/\∃f,s.length - x.1<f/\jx (s.drop (p+1))=(j7 f (s.drop x.1)).map fun y=>(x.2.1++y.1,x.1 - (p+1)+y.2)) (fun x=>s.length - x.1) (p+1,[],0) (fun _ _=>aq _) (fun _ _=> .inl rfl) ?_ ?_ ?_
  ·simp only[go_sem];exact⟨rfl,rfl⟩
  ·refine⟨aq _,hp,au _,(s.drop (p+1)).length+1,by rw[cj];omega,?_⟩;show jx _=(jx _).map _;cases jx (s.drop (p+1)) with
   |none=>rfl
   |some x=>simp
  ·rintro⟨q,b,v⟩ ⟨h1,h2,h3,f,hf,hq⟩;simp only at h1 h2 h3 hf hq;have ef:f=(f - 1)+1:=by omega
   rw[ef] at hq;simp only[go_sem];refine⟨fun h=>by omega,fun h=>ab ((SJ s q m (by omega) hs).mono ?_),fun h=>⟨b,rfl,by unfold ax;omega,?_⟩⟩
   ·rintro r H' m' hm ⟨rfl,rfl,rfl⟩;simp only[go_sem];have HK:q<s.length:=by omega
    have bN:=SK (s.drop q);rw[cj] at bN;obtain⟨x,hx⟩:=RA (s.drop q);have fQ:j7 (f - 1+1) (s.drop q)=if(fX (s.drop q)).2=0 then none else(j7 (f - 1) ((s.drop q).drop (fX (s.drop q)).2)).map fun y=>(x::y.1,(fX (s.drop q)).2+y.2):=by
     rw[drop_at HK] at hx ⊢;exact QZ (by omega) hx
    rw[fQ,List.drop_drop] at hq;rw[hx];generalize (fX (s.drop q)).2=n at hq bN ⊢
    refine⟨fun h0=> ?_,fun h0=>⟨⟨by omega,by simp only[maxLen];omega⟩,by unfold ax;omega,(q+n,b++[x],v+1),⟨⟨rfl,rfl⟩,rfl,by simp,by rw[FX];rfl⟩,⟨by simp only;omega,by simp only;omega,by simp only[bY,fI];omega,f - 1,by simp only;omega,?_⟩,by simp only;omega⟩⟩
    ·rw[ah (by omega)] at hq;have hq:jx (s.drop (p+1))=none:=hq;rw[hq];exact⟨mZ,0,false,rfl,rfl⟩
    ·rw[ae (by omega)] at hq;rw[hq];cases j7 (f - 1) (s.drop (q+n)) with
     |none=>rfl
     |some y=>
      have:q - (p+1)+(n+y.2)=q+n - (p+1)+y.2:=by omega
      simp [this]
   ·rcases Nat.lt_or_ge q s.length with hl |hl
    ·have yP:(s.getD q 0).toNat=34:=by omega
     rw[drop_at hl] at hq;simp only[j7] at hq;rw[ah yP] at hq;have hq:jx (s.drop (p+1))=some (b++[],q - (p+1)+1):=hq;rw[hq,List.append_nil,bO (by omega:(q:Int)<s.length),Bool.true_and];refine⟨⟨5,b,0,p⟩,_,_,rfl,?_⟩;by_cases hb:b.length<=1024
     ·simp only[ah hb];exact⟨bO (by omega),trivial,by omega⟩
     ·simp only[ae hb];exact bg (by omega)
    ·rw[List.drop_of_length_le hl] at hq;have hq:jx (s.drop (p+1))=none:=hq;rw[hq,bg (by omega:¬(q:Int)<s.length),Bool.false_and];refine⟨⟨5,b,0,p⟩,_,false,rfl,?_⟩;rfl
def A5 (B:List UInt8->Int->List UInt8->Prop) (F:List UInt8->Int->List UInt8->Value):List Value->Option (Prop×Value)
 |[.string a,.int .i64 c,.string b]=>some (B (tl a) c (tl b),F (tl a) c (tl b))
 |_=>none
theorem MR {P:Program} {f:FuncId} {B:List UInt8->Int->List UInt8->Prop} {F:List UInt8->Int->List UInt8->Value}
  (h:∀a c b m,B a c b->FnH P f [.v (.string (bs a)),.v (.int .i64 c),.v (.string (bs b))] ⟨[],[]⟩ m fun r H' _=>r= .v (F a c b)/\H' =⟨[],[]⟩):
  nJ P f (A5 B F):=fun b5 y hy hB m=>by
 unfold A5 at hy;split at hy
 ·rename_i a c b;cases hy;have:=h (tl a) c (tl b) m hB;rwa [la,la] at this
 ·cases hy
attribute [go_sem] A5.eq_1
abbrev OS (s:List UInt8) (i:Int) (b:List UInt8):Prop:=0<=i/\i<=s.length/\s.length<=4611686018427387904/\b.length<=1000
abbrev cfA:Cfg:=fh (fun _=>false) [(113,A5 OS fun s i b=> .bool (AG s i b)),(114,lv cM),(116,lv dk)]
theorem tf:cd cfA Tryz.prog:=pure_cons (by kernel_rfl) (fun b5 y hy hB m=>MR (fun a c b m h=>Mj a b c m h.1 h.2.1 h.2.2.1 h.2.2.2) b5 y hy hB m) (pure_cons (by kernel_rfl) (qc BQ) (pure_cons (by kernel_rfl) (qc BY) pure_nil))
theorem Cs {s b:List UInt8} {q:Nat} (h:q<=s.length):AG s q b=gZ (s.drop q) b:=by
 unfold AG gZ;have e1:decide ((b.length:Int)<=s.length - q)=decide ((b.length:Int)<=(s.drop q).length):=by rw[decide_eq_decide,cj];omega
 have e2:((q:Int)+b.length).toNat=q+b.length:=by omega
 rw[e1,e2,Int.toNat_natCast,List.drop_take];have e3:q+b.length - q=b.length:=by omega
 rw[e3]
theorem JJ (s:List UInt8) (p:Nat) (m:Mem) (hp:p<=s.length) (hs:s.length<=1000000):
  FnH Tryz.prog 45 [.v (.string (bs s)),.v (.int .i64 p)] ⟨[],[]⟩ m fun r H' m' =>r= .v (.int .i64 (p+cP false (s.drop p):Nat))/\H' =⟨[],[]⟩/\m' =m:=by
 refine aH tf Tryz.func45 ?_
 ·simp only[go_sem];refine cK tf (fun k:Nat=>⟨[⟨0,[],.v (.string (bs s))⟩,⟨1,[],.v (.int .i64 k)⟩],[],[],[],0,m⟩)
   (fun k=>p<=k/\k<=s.length/\p+cP false (s.drop p)=k+cP false (s.drop k)) (fun k=>s.length - k) p (fun _ _=>aq _) (fun _ _=> .inl rfl) ?_ ?_ ?_
  ·simp only[go_sem]
  ·exact⟨aq _,hp,rfl⟩
  ·rintro k ⟨h1,h2,h3⟩;simp only[go_sem];refine⟨fun ao=> ?_,fun cA=> ?_⟩
   ·have bV:k<s.length:=by omega
    rw[drop_at bV] at h3;simp only[cP] at h3;refine⟨by omega,fun hw=>⟨by unfold ax;omega,k+1,rfl,⟨by omega,bV,?_⟩,by omega⟩,fun hw=>⟨⟨by omega,by omega,by omega,by simp⟩,fun hi=> ?_,fun hi=> ?_⟩⟩
    ·rw[ah (by omega)] at h3;omega
    ·rw[Cs h2,drop_at bV] at hi;rw[ae (by omega),ae (fun hh=>by rw[xj.2 hh] at hi;cases hi)] at h3;rw[h3];rfl
    ·rw[Cs h2,drop_at bV] at hi;rw[ae (by omega),ah (xj.1 hi)] at h3;have fQ:p+cP false (s.drop p)=k+cP true (s.drop k):=by
      rw[h3,drop_at bV];simp only[cP];rw[ae (by have:=(xj.1 hi).1;omega)]
     refine cK tf (fun j:Nat=>⟨[⟨0,[],.v (.string (bs s))⟩,⟨1,[],.v (.int .i64 j)⟩],[],[],[],0,m⟩)
      (fun j=>k<=j/\j<=s.length/\p+cP false (s.drop p)=j+cP true (s.drop j)) (fun j=>s.length - j) k (fun _ _=>aq _) (fun _ _=> .inl rfl) ?_ ?_ ?_
     ·simp only[go_sem]
     ·exact⟨aq _,h2,fQ⟩
     ·rintro j ⟨g1,g2,g3⟩;simp only[go_sem];refine⟨fun h=>by omega,fun h=>⟨by unfold ax;omega,j+1,rfl,⟨by omega,by omega,?_⟩,by omega⟩,fun h=>⟨j,rfl,⟨by omega,g2,?_⟩,?_⟩⟩
      ·rw[g3,drop_at (by omega)];simp only[cP];rw[ae (by omega)];omega
      ·rcases Nat.lt_or_ge j s.length with g4 |g4
       ·rw[g3,drop_at g4];simp only[cP];rw[ah (by omega),ah (by omega)]
       ·rw[g3,List.drop_of_length_le g4];rfl
      ·rcases Nat.lt_or_ge k j with g4 |g4
       ·omega
       ·have:=(xj.1 hi).1;obtain rfl:j=k:=by omega
        omega
   ·have e:s.drop k=[]:=List.drop_of_length_le (by omega);rw[e] at h3;rw[h3];rfl
theorem PL (s:List UInt8) (p:Nat) (m:Mem) (hp:p<=s.length) (hs:s.length<=1000000):
  FnH Tryz.prog 119 [.v (.string (bs s)),.v (.int .i64 p)] ⟨[],[]⟩ m fun r H' m' =>m' =m/\H' =⟨[],[]⟩/\RN p ((o8 (s.drop p)).map fun o=>(6,o,0,o.length)) r:=by
 refine aH tf Tryz.func119 ?_
 ·simp only[go_sem];refine ab ((Qe m).mono ?_);rintro r H' m' hm ⟨rfl,rfl,rfl⟩;simp only[go_sem];refine cK tf (fun k:Nat=>⟨[⟨0,[],.v (.string (bs s))⟩,⟨1,[],.v (.int .i64 p)⟩,⟨4,[],.box 0 0⟩,⟨7,[],.vec 1 0⟩,⟨8,[],.v (.int .i64 k)⟩],[],[⟨0,50,mZ.cells⟩],[⟨1,0,9,1,30,strs eQ⟩],2,m'⟩)
   (fun k=>k<=30/\o8 (s.drop p)=(eQ.drop k).find? fun o=>gZ (s.drop p) o) (fun k=>30 - k) 0 (fun _ _=>aq _) (fun _ _=> .inl rfl) ?_ ?_ ?_
  ·simp only[go_sem];rfl
  ·exact⟨by omega,rfl⟩
  ·rintro k ⟨hk,hf⟩;have ga:eQ.length=30:=rfl;have fQ:(strs eQ).length=30:=rfl;refine Classical.byCases (fun ao:k<30=> ?_) (fun cA:¬k<30=> ?_)
   ·have wc:k<eQ.length:=ao;have e:(strs eQ).getD k undef= .string (bs eQ[k]):=by
     rw[List.getD_eq_getElem?_getD,strs,List.getElem?_map,List.getElem?_eq_getElem wc];rfl
    have uX:eQ[k].length<=3:=(by decide:∀o∈eQ,o.length<=3) _ (List.getElem_mem wc);rw[List.drop_eq_getElem_cons wc,List.find?_cons] at hf;simp only[go_sem,e];rw[Cs hp];refine⟨fun h=>⟨by omega,by omega,⟨by omega,by omega,by omega,by omega⟩,fun hi=> ?_,fun hi=>⟨by unfold ax;omega,k+1,rfl,⟨by omega,?_⟩,by omega⟩⟩,fun h=>by omega⟩
    ·have qN:o8 (s.drop p)=some eQ[k]:=by rw[hf,hi]
     refine cw (.hoist 0 (.hoist 1 (.hoist 2 (.hoist 3 (.hoist 4 (.hoist 5 (.hoist 6 (.hoist 7 (.hoist 8 (.hoist 9 (.hoist 10 (.hoist 11 (.hoist 12 (.alt 13 [12,11,10,9,8,7,6] (.hoist 14 (.hoist 15 .done)) .stop)))))))))))))) tf (by kernel_rfl) (by kernel_rfl) ?_;simp only[go_sem,e];rw[qN];exact⟨by omega,by omega,by omega,by omega,by unfold ax;omega,⟨6,eQ[k],0,p⟩,_,_,rfl,rfl,rfl,rfl⟩
    ·rw[hf,hi]
   ·simp only[go_sem];refine⟨fun h=>by omega,fun h=> ?_⟩;obtain rfl:k=30:=by omega
    have e:eQ.drop 30=[]:=rfl;rw[e] at hf;have hf:o8 (s.drop p)=none:=hf;rw[hf];exact⟨mZ,0,false,rfl,rfl⟩
def nq:Nat->List UInt8->Option Nat
 |n,[]=>some n
 |n,c::r=>if n<=(9223372036854775807 - (c.toNat - 48)) / 10 then nq (n * 10+(c.toNat - 48)) r else none
theorem Ks {M:Nat}:∀(l:List UInt8) (acc u:Nat),Lib.parseUintM M acc l= .ok u->acc<=u
 |[],acc,u,h=>by simp only[Lib.parseUintM,Lib.NumEnd.ok.injEq] at h;omega
 |c::r,acc,u,h=>by
  simp only[Lib.parseUintM] at h;split at h
  ·split at h
   ·cases h
   ·split at h
    ·cases h
    ·have:=Ks r _ u h;omega
  ·cases h
theorem IW:∀(l:List UInt8) (n:Nat),n<=9223372036854775807->(∀c∈l,dk c.toNat=true)->
  match nq n l with
  |some v=>Lib.parseUintM 18446744073709551615 n l= .ok v/\v<=9223372036854775807
  |none=>∀u,Lib.parseUintM 18446744073709551615 n l= .ok u->9223372036854775808<=u
 |[],n,hn,_=>⟨rfl,hn⟩
 |c::r,n,hn,hd=>by
  have hc:=(xJ _).1 (hd c (df ..));have hr:=fun x hx=>hd x (cu _ hx)
  simp only[nq];by_cases h:n<=(9223372036854775807 - (c.toNat - 48)) / 10
  ·rw[ah h];have ih:=IW r (n * 10+(c.toNat - 48)) (by omega) hr;have e:Lib.parseUintM 18446744073709551615 n (c::r)=Lib.parseUintM 18446744073709551615 (n * 10+(c.toNat - 48)) r:=by
    simp only[Lib.parseUintM];rw[ah (by omega),ae (by omega),ae (by omega)]
   rw[e];exact ih
  ·rw[ae h];intro u hu;simp only[Lib.parseUintM] at hu;rw[ah (by omega)] at hu;split at hu
   ·cases hu
   ·split at hu
    ·cases hu
    ·have:=Ks r _ u hu;omega
theorem Jo {l:List UInt8} (cY:l≠[]) (hd:∀c∈l,dk c.toNat=true):
  match nq 0 l with
  |some v=>gX l=((v:Int),true)/\v<=9223372036854775807
  |none=>(gX l).2=false:=by
 have h:=IW l 0 (by omega) hd;cases l with
 |nil=>exact absurd rfl cY
 |cons c r=>
  have hc:=(xJ _).1 (hd c (df ..));have e:gX (c::r)=match Lib.parseUintM 18446744073709551615 0 (c::r) with
   | .ok u=>if 9223372036854775808<=u then(Lib.intSat 64 (c::r),false) else((u:Int),true)
   | .range=>(Lib.intSat 64 (c::r),false)
   |_=>(0,false):=by
   unfold gX Lib.parseIntB;simp only[Lib.parseUintB];have h43:¬(c.toNat=43\/c.toNat=45):=by omega
   have Pt:¬c.toNat=45:=by omega
   rw[ae h43,ae (List.cons_ne_nil _ _)];cases Lib.parseUintM (2 ^ 64 - 1) 0 (c::r) with
   |ok u=>
    by_cases hu:9223372036854775808<=u
    ·simp [Pt,hu]
    ·simp [Pt,hu]
   |range=>rfl
   |_=>rfl
  rw[e];cases hr:nq 0 (c::r) with
  |some v=>
   rw[hr] at h;rw[h.1];simp only;rw[ae (by omega)];exact⟨rfl,h.2⟩
  |none=>
   rw[hr] at h;cases hm:Lib.parseUintM 18446744073709551615 0 (c::r) with
   |ok u=>
    have:=h u hm;simp only;rw[ah this]
   |range=>rfl
   |_=>rfl
theorem Gj:∀(l:List UInt8),∀c∈l.take (cJ l),dk c.toNat=true
 |[],c,h=>by simp at h
 |d::r,c,h=>by
  simp only[cJ] at h;split at h
  ·rename_i hd;rw[Nat.add_comm,List.take_succ_cons] at h;rcases List.mem_cons.1 h with rfl |h
   ·exact hd
   ·exact Gj r c h
  ·simp at h
theorem P1 (s:List UInt8) (p:Nat) (m:Mem) (hp:p<s.length) (hs:s.length<=1000000) (hd:dk (s.getD p 0).toNat=true):
  FnH Tryz.prog 117 [.v (.string (bs s)),.v (.int .i64 p)] ⟨[],[]⟩ m fun r H' m' =>m' =m/\H' =⟨[],[]⟩/\
   RN p (if(fg (s.drop p)).2.2.2=true then some (if(fg (s.drop p)).1=true then 4 else 3,[],(fg (s.drop p)).2.1,(fg (s.drop p)).2.2.1) else none) r:=by
 refine aH A4 Tryz.func117 ?_
 ·simp only[go_sem];refine cK A4 (fun x:Nat×Nat×Bool=>⟨[⟨0,[],.v (.string (bs s))⟩,⟨1,[],.v (.int .i64 p)⟩,⟨4,[],.box 0 0⟩,⟨7,[],.v (.int .i64 x.1)⟩,⟨8,[],.v (.int .i64 x.2.1)⟩,⟨9,[],.v (.bool x.2.2)⟩],[],[⟨0,50,mZ.cells⟩],[],1,m⟩)
   (fun x=>p<=x.1/\x.1<=s.length/\p+cJ (s.drop p)=x.1+cJ (s.drop x.1)/\x.2.1<=9223372036854775807/\nq 0 (jA s p)=if x.2.2=true then nq x.2.1 ((s.drop x.1).take (cJ (s.drop x.1))) else none) (fun x=>s.length - x.1) (p,0,true) (fun _ _=>aq _) (fun _ _=> .inl rfl) ?_ ?_ ?_
  ·simp only[go_sem];rfl
  ·exact⟨aq _,by omega,rfl,by simp,rfl⟩
  ·rintro⟨k,n,ok⟩ ⟨h1,h2,h3,h4,h5⟩;simp only at h1 h2 h3 h4 h5;simp only[go_sem];refine⟨fun h=>by omega,fun h=> ?_,fun h=> ?_⟩
   ·have bV:k<s.length:=by omega
    have H4:=(xJ _).1 h.2;have iz:cJ (s.drop k)=1+cJ (s.drop (k+1)):=by
     rw[drop_at bV];simp only[cJ];rw[ah h.2]
    have wF:(s.drop k).take (cJ (s.drop k))=s.getD k 0::(s.drop (k+1)).take (cJ (s.drop (k+1))):=by
     rw[iz,drop_at bV,Nat.add_comm,List.take_succ_cons]
    rw[wF] at h5;simp only[nq] at h5;generalize s.getD k 0=c at H4 h5 ⊢
    have hW:IntKind.i64.wrap (IntKind.u8.wrap ((c.toNat:Int) - 48))=((c.toNat - 48:Nat):Int):=by
     rw[EG,Ep (by omega)];omega
    have hT:((9223372036854775807:Int) - ((c.toNat - 48:Nat):Int)).tdiv 10=(((9223372036854775807 - (c.toNat - 48)) / 10:Nat):Int):=by
     rw[Int.tdiv_eq_ediv_of_nonneg (by omega)];omega
    rw[hW,hT];generalize hdd:c.toNat - 48=d at h5 ⊢
    have hd9:d<=9:=by omega
    have hle:decide ((n:Int)<=(((9223372036854775807 - d) / 10:Nat):Int))=decide (n<=(9223372036854775807 - d) / 10):=by rw[decide_eq_decide];omega
    rw[hle]
    refine⟨by omega,fun _=>by unfold ax;omega,fun _=>by decide,fun _=>by unfold ax;omega,fun hy=>⟨by unfold ax;omega,by unfold ax;omega,by unfold ax;omega,(k+1,n * 10+d,true),⟨rfl,by simp only;omega,?_⟩,⟨by simp only;omega,by simp only;omega,by simp only;omega,by simp only;omega,?_⟩,by simp only;omega⟩,
     fun qL=>⟨by unfold ax;omega,(k+1,n,false),⟨rfl,rfl,?_⟩,⟨by simp only;omega,by simp only;omega,by simp only;omega,h4,?_⟩,by simp only;omega⟩⟩
    ·rw[hy.1,bO (by omega:n<=(9223372036854775807 - d) / 10)];rfl
    ·rw[h5,hy.1,ah rfl,ah (by omega:n<=(9223372036854775807 - d) / 10),ah rfl]
    ·rcases qL with h' |h'
     ·rw[h'];rfl
     ·rw[bg (by omega:¬n<=(9223372036854775807 - d) / 10),Bool.and_false]
    ·rw[h5];rcases qL with h' |h'
     ·rw[h'];rfl
     ·rw[ae (by omega:¬n<=(9223372036854775807 - d) / 10)];simp
   ·have jF:cJ (s.drop k)=0:=by
     rcases h with h |h
     ·rw[List.drop_of_length_le (by omega)];rfl
     ·rcases Nat.lt_or_ge k s.length with h' |h'
      ·rw[drop_at h'];simp only[cJ];rw[h];rfl
      ·rw[List.drop_of_length_le h'];rfl
    have nW:k=p+cJ (s.drop p):=by omega
    have yo:p<k:=by
     have:cJ (s.drop p)=1+cJ (s.drop (p+1)):=by rw[drop_at hp];simp only[cJ];rw[ah hd]
     omega
    rw[jF,List.take_zero] at h5;simp only[nq] at h5;obtain⟨iZ,rQ,sV⟩:=MT hp h2 nW yo;have cY:jA s p≠[]:=fun e=>by rw[e] at rQ;simp at rQ;omega
    have rN:=Jo cY (fun c hc=>Gj (s.drop p) c hc);have HY:(jA s p).getD 0 0=s.getD p 0:=by
     rw[jA,List.getD_eq_getElem?_getD,List.getElem?_take,ah (by omega),drop_at hp];rfl
    rw[HY] at sV;rw[rQ] at sV;have hz:(!decide ((((s.getD p 0).toNat:Nat):Int)=48)||decide ((k:Int)=p+1))=(decide ((s.getD p 0).toNat≠48)||decide (k - p=1)):=by
     have e1:decide ((((s.getD p 0).toNat:Nat):Int)=48)=decide ((s.getD p 0).toNat=48):=by rw[decide_eq_decide];omega
     have e2:decide ((k:Int)=p+1)=decide (k - p=1):=by rw[decide_eq_decide];omega
     rw[e1,e2];simp
    refine⟨fun _=>by omega,fun _=>by unfold ax;omega,fun h=>by omega,fun h=>⟨by unfold ax;omega,?_⟩,fun h=> ?_⟩
    ·rw[sV];simp only[ah h,bO h];rw[hz];cases ok with
     |false=>
      have h5:nq 0 (jA s p)=none:=h5;rw[h5] at rN;rw[rN];exact⟨⟨4,[],n,p⟩,_,false,rfl,rfl⟩
     |true=>
      have h5:nq 0 (jA s p)=some n:=h5;rw[h5] at rN;rw[rN.1];simp only[bO (by omega:(n:Int)<=9223372036854775807),Bool.true_and];refine⟨⟨4,[],n,p⟩,_,_,rfl,?_⟩;by_cases hzz:(decide ((s.getD p 0).toNat≠48)||decide (k - p=1))=true
      ·rw[ah hzz];exact⟨hzz,rfl,by omega⟩
      ·rw[ae hzz];simpa using hzz
    ·have h' :¬((k:Int)<s.length/\(((s.getD k 0).toNat:Nat):Int)=76):=fun x=>h.elim (fun y=>y x.1) (fun y=>y x.2)
     rw[sV];simp only[ae h',bg h'];rw[hz];cases ok with
     |false=>
      have h5:nq 0 (jA s p)=none:=h5;rw[h5] at rN;rw[rN];exact⟨⟨3,[],n,p⟩,_,false,rfl,rfl⟩
     |true=>
      have h5:nq 0 (jA s p)=some n:=h5;rw[h5] at rN;rw[rN.1];simp only[Bool.true_and];refine⟨⟨3,[],n,p⟩,_,_,rfl,?_⟩;by_cases hzz:(decide ((n:Int)<=2147483647)&&(decide ((s.getD p 0).toNat≠48)||decide (k - p=1)))=true
      ·rw[ah hzz];exact⟨by rw[Bool.and_comm];exact hzz,rfl,by omega⟩
      ·rw[ae hzz];rw[Bool.and_comm];simpa using hzz
abbrev cfB:Cfg:=fh (fun _=>false) [(113,A5 OS fun s i b=> .bool (AG s i b)),(114,lv cM),(116,lv dk),(170,eB BL fun s=> .bool (dX s))]
theorem OI:cd cfB Tryz.prog:=pure_cons (by kernel_rfl) (fun b5 y hy hB m=>MR (fun a c b m h=>Mj a b c m h.1 h.2.1 h.2.2.1 h.2.2.2) b5 y hy hB m) (pure_cons (by kernel_rfl) (qc BQ) (pure_cons (by kernel_rfl) (qc BY) (pure_cons (by kernel_rfl) (ff Em) pure_nil)))
theorem E8:∀(b:Bool) (l:List UInt8),∀c∈l.take (bS b l),c≠58
 |_,[],c,h=>by simp at h
 |b,d::r,c,h=>by
  simp only[bS] at h;split at h
  ·rename_i hd;rw[Nat.add_comm,List.take_succ_cons] at h;rcases List.mem_cons.1 h with rfl |h
   ·rintro rfl;revert hd;cases b<;>decide
   ·exact E8 false r c h
  ·simp at h
theorem Lj:∀(A:List UInt8),(∀c∈A,c≠58)->Lib.index A [58,58]= -1
 |[],_=>rfl
 |a::A,h=>by
  have ih:=Lj A fun c hc=>h c (cu _ hc)
  have ha:=h a (df ..);have hp:List.isPrefixOf [58,58] (a::A)=false:=by
   simp only[List.isPrefixOf,Bool.and_eq_false_iff];left;exact beq_eq_false_iff_ne.2 fun e=>ha e.symm
  simp only[Lib.index,hp,ih];rfl
theorem Lk:∀(A r:List UInt8),(∀c∈A,c≠58)->Lib.index (A++58::58::r) [58,58]=A.length
 |[],r,_=>by simp [Lib.index,List.isPrefixOf]
 |a::A,r,h=>by
  have ih:=Lk A r fun c hc=>h c (cu _ hc)
  have ha:=h a (df ..);have hp:List.isPrefixOf [58,58] (a::(A++58::58::r))=false:=by
   simp only[List.isPrefixOf,Bool.and_eq_false_iff];left;exact beq_eq_false_iff_ne.2 fun e=>ha e.symm
  simp only[jt,Lib.index,hp,ih];rw[ae (by decide),ae (by simp),cC];rfl
def uu (F:Nat) (s:List UInt8):List UInt8:=Lib.replaceK [58,58] [47] (Lib.countFrom [58,58] F s) s
theorem LP {F:Nat} {A:List UInt8} (h:∀c∈A,c≠58):uu (F+1) A=A:=by
 unfold uu Lib.countFrom;rw[Lj A h];rfl
theorem Vh {F:Nat} {A r:List UInt8} (h:∀c∈A,c≠58):uu (F+1) (A++58::58::r)=A++47::uu F r:=by
 have hi:=Lk A r h;have hd:(A++58::58::r).drop (A.length+([58,58]:List UInt8).length)=r:=by
  rw[List.drop_append];simp
 unfold uu;have hc:Lib.countFrom [58,58] (F+1) (A++58::58::r)=Lib.countFrom [58,58] F r+1:=by
  simp only[Lib.countFrom];rw[hi,ae (by simp),Int.toNat_natCast,hd];omega
 rw[hc,Lib.replaceK_hit _ _ _ _ _ hi,hd];simp
def rA:Nat->List UInt8->List UInt8
 |0,_=>[]
 |f+1,l=>if gZ l [58,58]=true/\bS true (l.drop 2)≠0 then 47::((l.drop 2).take (bS true (l.drop 2))++rA f (l.drop (2+bS true (l.drop 2)))) else[]
theorem MQ:∀(f:Nat) (l A:List UInt8) (F:Nat),(∀c∈A,c≠58)->(A++l.take (lk f l)).length<F->uu F (A++l.take (lk f l))=A++rA f l
 |0,l,A,F,hA,hF=>by
  obtain⟨F,rfl⟩:∃g,F=g+1:=⟨F - 1,by omega⟩;simp only[lk,rA,List.take_zero,List.append_nil];exact LP hA
 |f+1,l,A,F,hA,hF=>by
  obtain⟨F,rfl⟩:∃g,F=g+1:=⟨F - 1,by omega⟩;simp only[lk] at hF;simp only[lk,rA];by_cases h:gZ l [58,58]=true/\bS true (l.drop 2)≠0
  ·rw[ah h] at hF;rw[ah h,ah h];obtain⟨r,hr⟩:=BW.1 h.1;subst hr;have e2:([58,58]++r).drop 2=r:=rfl;have e3:([58,58]++r).drop (2+bS true r)=r.drop (bS true r):=by
    rw[<- List.drop_drop,e2]
   rw[e2,e3] at hF;rw[e2,e3];have e4:([58,58]++r).take (2+bS true r+lk f (r.drop (bS true r)))=58::58::(r.take (bS true r)++(r.drop (bS true r)).take (lk f (r.drop (bS true r)))):=by
    rw[Nat.add_assoc,Nat.add_comm 2];show 58::58::r.take (bS true r+lk f (r.drop (bS true r)))=_;rw[List.take_add]
   rw[e4] at hF;have ih:=MQ f (r.drop (bS true r)) (r.take (bS true r)) F (E8 true r) (by rw[bY,cC,cC] at hF;omega);rw[e4,Vh hA,ih]
  ·rw[ae h,ae h,List.take_zero,List.append_nil];exact LP hA
theorem Nc (l:List UInt8):fu l=l.take (bS true l)++rA (l.length+1) (l.drop (bS true l)):=by
 have e:∀s,Lib.replaceAll s [58,58] [47]=uu (s.length+1) s:=fun s=>by
  unfold Lib.replaceAll Lib.replace uu;rw[ae (by decide)];have:Lib.replaceNum s [58,58] (-1)=Lib.count s [58,58]:=by simp [Lib.replaceNum]
  rw[this];rfl
 have h1:l.take (iJ l)=l.take (bS true l)++(l.drop (bS true l)).take (lk (l.length+1) (l.drop (bS true l))):=by
  unfold iJ;rw[List.take_add]
 unfold fu;rw[e,h1];exact MQ _ _ _ _ (E8 true l) (Nat.lt_succ_self _)
theorem VI {s:List UInt8} (h:fb.contains s=true):dX s=true:=
 (by decide:∀k∈fb,dX k=true) s (by simpa using h)
theorem P8 {c:Int} (h:cM c=true):dk c=false:=by
 cases hd:dk c with
 |false=>rfl
 |true=>
  have:=(xJ _).1 hd;simp only[cM,Bool.or_eq_true,cO,gA] at h;omega
theorem JS {c:UInt8} {r:List UInt8}:bS true (c::r)≠0↔cM c.toNat=true:=by
 simp only[bS];cases h:cM c.toNat
 ·simp
 ·simp
theorem PG (s:List UInt8) (p:Nat) (m:Mem) (hp:p<s.length) (hs:s.length<=1000000) (fQ:cM (s.getD p 0).toNat=true):
  FnH Tryz.prog 115 [.v (.string (bs s)),.v (.int .i64 p)] ⟨[],[]⟩ m fun r H' m' =>m.le m' /\H' =⟨[],[]⟩/\
   RN p (if dX (fu (s.drop p))=true then some (if fb.contains (fu (s.drop p))=true then 2 else 1,fu (s.drop p),0,iJ (s.drop p)) else none) r:=by
 have iz:dk (s.getD p 0).toNat=false:=by
  cases hd:dk (s.getD p 0).toNat with
  |false=>rfl
  |true=>
   have:=(xJ _).1 hd;simp only[cM,Bool.or_eq_true,cO,gA] at fQ;omega
 have km:=vz true (s.drop p);rw[cj] at km;refine aH OI Tryz.func115 ?_
 ·simp only[go_sem];refine ab ((Ji s p m (by omega) hs (fun _=>iz)).mono ?_);rintro r H' m' hm ⟨rfl,rfl,rfl⟩;have iZ:(s.take (p+bS true (s.drop p))).drop p=(s.drop p).take (bS true (s.drop p)):=by
   rw[List.drop_take];congr 1;omega
  simp only[go_sem,iZ];refine⟨⟨by omega,by omega,by omega⟩,?_⟩;refine cK OI (fun x:Nat×List UInt8×Nat=>⟨[⟨0,[],.v (.string (bs s))⟩,⟨1,[],.v (.int .i64 p)⟩,⟨4,[],.box 0 0⟩,⟨7,[],.v (.int .i64 x.1)⟩,⟨8,[],.v (.string (bs x.2.1))⟩],[],[⟨0,50,mZ.cells⟩],[],1,m'⟩)
   (fun x=>p<=x.1/\x.1<=s.length/\x.2.1.length<=x.1/\s.length - x.1<x.2.2/\fu (s.drop p)=x.2.1++rA x.2.2 (s.drop x.1)/\p+iJ (s.drop p)=x.1+lk x.2.2 (s.drop x.1)) (fun x=>s.length - x.1)
   (p+bS true (s.drop p),(s.drop p).take (bS true (s.drop p)),(s.drop p).length+1) (fun _ _=>aq _) (fun _ _=> .inl rfl) ?_ ?_ ?_
  ·simp only[go_sem]
  ·refine⟨Nat.le_add_right _ _,by simp only;omega,by simp only[List.length_take];omega,by simp only[cj];omega,?_,?_⟩
   ·rw[Nc,List.drop_drop]
   ·simp only[iJ,List.drop_drop];omega
  ·rintro⟨e,t,f⟩ ⟨h1,h2,h3,h4,h5,h6⟩;simp only at h1 h2 h3 h4 h5 h6;have ef:f=(f - 1)+1:=by omega
   rw[ef] at h5 h6;simp only[rA] at h5;simp only[lk] at h6;have e2:((e:Int)+2).toNat=e+2:=by omega
   have h2c:(e:Int)+2=((e+2:Nat):Int):=by omega
   have abt:=CN (a:=s.drop e) (b:=[58,58]);rw[cj] at abt;simp only[go_sem,e2,Cs h2];rw[List.drop_drop] at h5 h6;rw[List.drop_drop] at h5 h6;refine⟨⟨by omega,by omega,by omega,by simp⟩,fun _=>by unfold ax;omega,fun _=>by unfold ax;omega,fun h=>by omega,fun h=>⟨by unfold ax;omega,by kernel_rfl,?_⟩,fun h=>⟨by kernel_rfl,?_⟩⟩
   ·have bw:e+2<s.length:=by omega
    have HJ:=Ji s (e+2) m' (by omega) hs (fun _=>P8 h.2);rw[<- h2c] at HJ;have Bj:bS true (s.drop (e+2))≠0:=by rw[drop_at bw];exact JS.2 h.2
    have G8:=vz true (s.drop (e+2));rw[cj] at G8;have aby:(s.take (e+2+bS true (s.drop (e+2)))).drop (e+2)=(s.drop (e+2)).take (bS true (s.drop (e+2))):=by
     rw[List.drop_take];congr 1;omega
    rw[ah ⟨h.1.1,Bj⟩] at h5 h6;refine cE (HJ.mono ?_);rintro r H' iI aG ⟨rfl,rfl,rfl⟩;clear HJ;simp only[go_sem,e2,aby]
    refine⟨by omega,by unfold ax;omega,⟨by omega,by omega,by omega⟩,by simp only[bY,List.length_take,fI];omega,
     (e+2+bS true (s.drop (e+2)),t++[47]++(s.drop (e+2)).take (bS true (s.drop (e+2))),f - 1),⟨rfl,rfl⟩,⟨by simp only;omega,by simp only;omega,by simp only[bY,List.length_take,fI];omega,by simp only;omega,?_,?_⟩,by simp only;omega⟩
    ·rw[h5];simp only[Nat.add_assoc,List.append_assoc,jt,List.nil_append]
    ·rw[h6];simp only[Nat.add_assoc]
   ·have qL:¬(gZ (s.drop e) [58,58]=true/\bS true (s.drop (e+2))≠0):=by
     rintro⟨g1,g2⟩;rcases h with (h |h) |h
     ·rw[h] at g1;cases g1
     ·rw[List.drop_of_length_le (by omega)] at g2;exact g2 rfl
     ·rcases Nat.lt_or_ge (e+2) s.length with g3 |g3
      ·rw[drop_at g3] at g2;have:=JS.1 g2;rw[h] at this;cases this
      ·rw[List.drop_of_length_le g3] at g2;exact g2 rfl
    rw[ae qL] at h5 h6;rw[List.append_nil] at h5;refine cE ((Iz m').mono ?_);rintro r H' iI aG ⟨rfl,rfl,rfl⟩;simp only[go_sem];refine⟨by kernel_rfl,fun ad cp m1 aJ bb bP=>cE ((FM fb t ad 28 cp m1 bP (by decide)).mono ?_)⟩;rintro r H' m4 dc ⟨rfl,rfl⟩;simp only[go_sem];rw[h5];have he:p+iJ (s.drop p)=e:=h6;refine⟨fun hk=>⟨Mem.le_trans aJ dc,?_⟩,fun hk=>⟨by unfold BL;omega,Mem.le_trans aJ dc,?_⟩⟩
    ·rw[ah (VI hk),ah hk];exact⟨⟨2,t,0,p⟩,_,true,rfl,rfl,rfl,by omega⟩
    ·have eP:(if fb.contains t=true then(2:Int) else 1)=1:=ae (by rw[hk];exact Bool.false_ne_true);rw[eP];cases hn:dX t with
     |true=>exact⟨⟨1,t,0,p⟩,_,true,rfl,rfl,rfl,by omega⟩
     |false=>exact⟨⟨1,t,0,p⟩,_,false,rfl,rfl⟩
theorem U5 {s:List UInt8} {p:Nat} (hp:p<s.length) (h1:cM (s.getD p 0).toNat=true):
  gJ (s.drop p)=if dX (fu (s.drop p))=true then some (if fb.contains (fu (s.drop p))=true then 2 else 1,fu (s.drop p),0,iJ (s.drop p)) else none:=by
 rw[drop_at hp];show(if cM (s.getD p 0).toNat=true then _ else _)=_;rw[ah h1]
theorem Ts {s:List UInt8} {p:Nat} (hp:p<s.length) (h1:cM (s.getD p 0).toNat=false) (h2:dk (s.getD p 0).toNat=true):
  gJ (s.drop p)=if(fg (s.drop p)).2.2.2=true then some (if(fg (s.drop p)).1=true then 4 else 3,[],(fg (s.drop p)).2.1,(fg (s.drop p)).2.2.1) else none:=by
 rw[drop_at hp];show(if cM (s.getD p 0).toNat=true then _ else if dk (s.getD p 0).toNat=true then _ else _)=_;rw[ae (by rw[h1];exact Bool.false_ne_true),ah h2]
theorem Tr {s:List UInt8} {p:Nat} (hp:p<s.length) (h1:cM (s.getD p 0).toNat=false) (h2:dk (s.getD p 0).toNat=false) (h3:(((s.getD p 0).toNat:Nat):Int)=34):
  gJ (s.drop p)=match jx (s.drop (p+1)) with
   |some (b,n)=>if b.length<=1024 then some (5,b,0,1+n) else none
   |none=>none:=by
 rw[drop_at hp];show(if cM (s.getD p 0).toNat=true then _ else if dk (s.getD p 0).toNat=true then _ else if(s.getD p 0).toNat=34 then _ else _)=_;rw[ae (by rw[h1];exact Bool.false_ne_true),ae (by rw[h2];exact Bool.false_ne_true),ah (by omega)];first |done |rfl
theorem U4 {s:List UInt8} {p:Nat} (hp:p<s.length) (h1:cM (s.getD p 0).toNat=false) (h2:dk (s.getD p 0).toNat=false) (h3:¬(((s.getD p 0).toNat:Nat):Int)=34):
  gJ (s.drop p)=(o8 (s.drop p)).map fun o=>(6,o,0,o.length):=by
 rw[drop_at hp];show(if cM (s.getD p 0).toNat=true then _ else if dk (s.getD p 0).toNat=true then _ else if(s.getD p 0).toNat=34 then _ else _)=_;rw[ae (by rw[h1];exact Bool.false_ne_true),ae (by rw[h2];exact Bool.false_ne_true),ae (by omega)]
theorem RV (s:List UInt8) (p:Nat) (m:Mem) (hp:p<s.length) (hs:s.length<=1000000):
  FnH Tryz.prog 46 [.v (.string (bs s)),.v (.int .i64 p)] ⟨[],[]⟩ m fun r H' m' =>m.le m' /\H' =⟨[],[]⟩/\RN p (gJ (s.drop p)) r:=by
 refine aH tf Tryz.func46 ?_
 ·simp only[go_sem]
  refine⟨by omega,fun h1=>ab ((PG s p m hp hs h1).mono ?_),fun h1=>⟨fun h2=>ab ((P1 s p m hp hs h2).mono ?_),
   fun h2=>⟨fun h3=>ab ((RR s p m hp hs).mono ?_),fun h3=>ab ((PL s p m (by omega) hs).mono ?_)⟩⟩⟩
  ·rintro r H' m' hm ⟨_,rfl,t,e,b,rfl,hN⟩;rw[<- U5 hp h1] at hN;simp only[go_sem,Tk.sv,Tk.cells];exact⟨hm,t,e,b,rfl,hN⟩
  ·rintro r H' m' hm ⟨_,rfl,t,e,b,rfl,hN⟩;rw[<- Ts hp h1 h2] at hN;simp only[go_sem,Tk.sv,Tk.cells];exact⟨hm,t,e,b,rfl,hN⟩
  ·rintro r H' m' hm ⟨_,rfl,t,e,b,rfl,hN⟩;simp only[go_sem,Tk.sv,Tk.cells];exact⟨hm,t,e,b,rfl,by rw[Tr hp h1 h2 h3];exact hN⟩
  ·rintro r H' m' hm ⟨_,rfl,t,e,b,rfl,hN⟩;rw[<- U4 hp h1 h2 h3] at hN;simp only[go_sem,Tk.sv,Tk.cells];exact⟨hm,t,e,b,rfl,hN⟩
def lenOf:Option (Int×List UInt8×Int×Nat)->Nat
 |some x=>x.2.2.2
 |none=>0
theorem X2 {o:Option (Int×List UInt8×Int×Nat)} {t:Tk} {e:Int} {b:Bool} {q:Nat}
  (h:match o with
   |some (k,tt,n,len)=>b=true/\t=⟨k,tt,n,q⟩/\e=(q+len:Nat)
   |none=>b=false) (hb:b=true):o=some (t.k,t.s,t.n,lenOf o)/\t.at_=q/\e=(q+lenOf o:Nat):=by
 cases o with
 |none=>rw[hb] at h;cases h
 |some x=>
  obtain⟨k,tt,n,len⟩:=x;obtain⟨_,rfl,rfl⟩:=h;exact⟨rfl,rfl,rfl⟩
theorem Iy (s:List UInt8) (m:Mem) (hs:s.length<=4611686018427387904):
  FnH Tryz.prog 22 [.v (.string (bs s))] ⟨[],[]⟩ m fun r H' m' =>ak m m' /\uH (aD s) r H' :=by
 refine aH tf Tryz.func22 ?_
 ·simp only[go_sem];refine⟨fun h=> ?_,fun h=>ab ((JJ s 0 m (au _) (by omega)).mono ?_)⟩
  ·have e:aD s=([],0,8):=ah (by omega);rw[e];exact .inr ⟨by decide,rfl,rfl,rfl⟩
  ·rintro r H' m' hm ⟨rfl,rfl,rfl⟩;simp only[go_sem];refine qV 5 50 4 (by decide) rfl ?_;have Bg:aD s=mG s (s.length+1) 0 []:=ae (by omega);have abh:=vx false (s.drop 0);rw[cj] at abh;refine cK tf (fun x:Nat×List Tk×Nat×Mem×Nat×Nat=>⟨[⟨0,[],.v (.string (bs s))⟩,⟨5,[],.vec 0 x.2.2.1⟩,⟨6,[],.v (.int .i64 x.2.2.2.2.2)⟩],[],[],[⟨0,x.2.2.1,50,4,x.2.1.length,cG x.2.1⟩],1,x.2.2.2.1⟩)
    (fun x=>ak m' x.2.2.2.1/\x.1<=s.length/\x.2.1.length<=5000/\s.length - x.1<x.2.2.2.2.1/\aD s=mG s x.2.2.2.2.1 x.1 x.2.1/\x.2.2.2.2.2=x.1+cP false (s.drop x.1)) (fun x=>s.length - x.1) (0,[],0,m',s.length+1,0+cP false (s.drop 0)) (fun _ _=>aq _) (fun x hx=>hx.1) ?_ ?_ ?_
   ·simp only[go_sem];rfl
   ·exact⟨.inl rfl,au _,au _,by simp only;omega,Bg,rfl⟩
   ·rintro⟨p,acc,u,mm,f,q⟩ ⟨h1,h3,h4,h5,h6,hq⟩;simp only at h1 h3 h4 h5 h6 hq;have ef:f=(f - 1)+1:=by omega
    rw[ef] at h6;simp only[mG] at h6;have HI:=vx false (s.drop p);rw[cj] at HI;rw[<- hq] at h6;have hqs:q<=s.length:=by omega
    simp only[go_sem];refine⟨fun ao=>⟨fun h5k=>⟨h1,?_⟩,fun h5k=>ab ((RV s q mm (by omega) (by omega)).mono ?_)⟩,fun cA=>⟨h1,?_⟩⟩
    ·rw[h6,ae (by omega),ah (by omega)];exact .inr ⟨by decide,rfl,rfl,rfl⟩
    ·rintro r H' iI aG ⟨hle,rfl,t,e,b,rfl,hN⟩;simp only[go_sem,Tk.sv,Tk.cells];refine⟨fun hb=>⟨Fh h1 hle,?_⟩,fun hb=>⟨⟨by omega,by simp only[maxLen];omega⟩,by kernel_rfl,?_⟩⟩
     ·rw[h6,ae (by omega),ae (by omega)];cases ht:gJ (s.drop q) with
      |none=>exact .inr ⟨by simp,rfl,rfl,rfl⟩
      |some x=>
       rw[ht] at hN;rw[hN.1] at hb;cases hb
     ·have hy:=X2 hN hb;have hlen:=FA hy.1;rw[cj] at hlen;rw[hy.1,ae (by omega),ae (by omega)] at h6;have oS:=JJ s (q+lenOf (gJ (s.drop q))) iI (by omega) (by omega);rw[<- hy.2.2] at oS;have et:(⟨t.k,t.s,t.n,q⟩:Tk)=t:=by rw[<- hy.2.1]
      have h6:aD s=mG s (f - 1) (q+lenOf (gJ (s.drop q))) (acc++[⟨t.k,t.s,t.n,q⟩]):=h6;rw[et] at h6;have abB:=IG acc t;refine cE (oS.mono ?_);rintro r H' m3 bu ⟨rfl,rfl,rfl⟩;clear oS;simp only[go_sem,Tk.sv,Tk.cells]
      exact⟨(q+lenOf (gJ (s.drop q)),acc++[t],u+1,m3,f - 1,q+lenOf (gJ (s.drop q))+cP false (s.drop (q+lenOf (gJ (s.drop q))))),⟨⟨rfl,rfl⟩,⟨rfl,by simp,abB⟩,.inl rfl⟩,
       ⟨Fh h1 hle,by simp only;omega,by simp only[bY,fI];omega,by simp only;omega,h6,rfl⟩,by simp only;omega⟩
    ·rw[h6,ah (by omega)];exact .inl ⟨rfl,_,_,rfl,rfl⟩
def sH (t:Tk) (x:List Tk×Int×Int):List Tk×Int×Int:=if x.2.2=0 then(t::x.1,x.2.1,0) else([],x.2.1,x.2.2)
def pz:Nat->Nat->Nat->List UInt8->List Tk×Int×Int
 |0,_,_,_=>([],0,0)
 |f+1,qS,pos,l=>
  if l.drop (cP false l)=[] then([],0,0) else if 5000<=qS then([],0,5) else
   match gJ (l.drop (cP false l)) with
   |none=>([],(pos+cP false l:Nat),70)
   |some (k,t,n,len)=>sH ⟨k,t,n,(pos+cP false l:Nat)⟩ (pz f (qS+1) (pos+cP false l+len) (l.drop (cP false l+len)))
def rs (acc:List Tk) (x:List Tk×Int×Int):List Tk×Int×Int:=if x.2.2=0 then(acc++x.1,x.2.1,0) else([],x.2.1,x.2.2)
theorem Sh (acc:List Tk) (t:Tk) (x:List Tk×Int×Int):rs acc (sH t x)=rs (acc++[t]) x:=by
 unfold rs sH;by_cases h:x.2.2=0
 ·simp [h]
 ·simp [h]
theorem Mf (s:List UInt8):∀(f p:Nat) (acc:List Tk),mG s f p acc=rs acc (pz f acc.length p (s.drop p))
 |0,p,acc=>by simp [mG,pz,rs]
 |f+1,p,acc=>by
  simp only[mG,pz];have e1:(s.drop p).drop (cP false (s.drop p))=s.drop (p+cP false (s.drop p)):=List.drop_drop;rw[e1];by_cases h1:s.length<=p+cP false (s.drop p)
  ·rw[ah h1,ah (List.drop_eq_nil_of_le h1)];simp [rs]
  ·rw[ae h1,ae (fun h=>h1 (List.drop_eq_nil_iff.1 h))];by_cases h2:5000<=acc.length
   ·rw[ah h2,ah h2];simp [rs]
   ·rw[ae h2,ae h2];cases ht:gJ (s.drop (p+cP false (s.drop p))) with
    |none=>simp [rs]
    |some y=>
     obtain⟨k,t,n,len⟩:=y;simp only;rw[Mf s f,Sh];simp only[bY,fI,List.drop_drop,Nat.add_assoc]
theorem Ry {t:Tk} {x:List Tk×Int×Int} (h:(x.2.2=0->x.2.1=0)/\(x.2.2≠0->x.1=[])):((sH t x).2.2=0->(sH t x).2.1=0)/\((sH t x).2.2≠0->(sH t x).1=[]):=by
 unfold sH;by_cases e:x.2.2=0
 ·simp only[ah e];exact⟨fun _=>h.1 e,fun h=>absurd rfl h⟩
 ·simp only[ae e];exact⟨fun h=>absurd h e,fun _=>trivial⟩
theorem J4:∀(f qS pos:Nat) (l:List UInt8),((pz f qS pos l).2.2=0->(pz f qS pos l).2.1=0)/\((pz f qS pos l).2.2≠0->(pz f qS pos l).1=[])
 |0,_,_,_=>⟨fun _=>rfl,fun _=>rfl⟩
 |f+1,qS,pos,l=>by
  simp only[pz];split
  ·exact⟨fun _=>rfl,fun _=>rfl⟩
  ·split
   ·exact⟨fun _=>rfl,fun _=>rfl⟩
   ·split
    ·exact⟨fun h=>absurd h (by simp),fun _=>rfl⟩
    ·exact Ry (J4 f _ _ _)
theorem TT {x:List Tk×Int×Int} (h:x.2.2≠0->x.1=[]):rs [] x=x:=by
 obtain⟨a,b,c⟩:=x;unfold rs;by_cases e:c=0
 ·subst e;rfl
 ·simp only[ae e];have h1:a=[]:=h e;rw[h1]
theorem IT {s:List UInt8} (h:s.length<=20000):aD s=pz (s.length+1) 0 0 s:=by
 have e:aD s=mG s (s.length+1) 0 []:=ae (by omega);rw[e,Mf,TT (J4 _ _ _ _).2];rfl
/-! Numbers. -/
/-! Strings. -/
/-! A comment behind the text. -/
end Go.Proofs.YtimddhkipjedcaaGreatDoor.E
namespace Go.Proofs
open Go.Shelf
def Tryz.laysC174_ren:Go.Shelf.Ren:=⟨fun |174=>225 |247=>246 |245=>247 |287=>259 |279=>260 |280=>261 |281=>262 |282=>263 |321=>272 |322=>273 |316=>274 |171=>276 |205=>275 |243=>282 |246=>284 |283=>285 |284=>286 |285=>287 |286=>288 |129=>290 |317=>289 |318=>291 |319=>292 |320=>293 |337=>294 |338=>295 |n=>n,fun |9=>9 |3=>3 |2=>2 |75=>195 |85=>196 |4=>4 |167=>216 |5=>5 |53=>217 |175=>218 |46=>220 |168=>221 |37=>83 |0=>0 |210=>228 |21=>21 |127=>225 |145=>239 |143=>237 |171=>244 |173=>247 |212=>250 |51=>240 |20=>20 |213=>251 |232=>254 |233=>255 |80=>85 |n=>n,fun |15=>2 |16=>3 |17=>6 |18=>7 |19=>8 |n=>n⟩
theorem Tryz.laysC174:Go.Proofs.LaysC.n174 Tryz.prog Tryz.laysC174_ren:={
 mixed:=by kernel_rfl
 f129:=Tryz.func290.trans (congrArg some (by kernel_rfl))
 f171:=Tryz.func276.trans (congrArg some (by kernel_rfl))
 f174:=Tryz.func225.trans (congrArg some (by kernel_rfl))
 f205:=Tryz.func275.trans (congrArg some (by kernel_rfl))
 f243:=Tryz.func282.trans (congrArg some (by kernel_rfl))
 f245:=Tryz.func247.trans (congrArg some (by kernel_rfl))
 f246:=Tryz.func284.trans (congrArg some (by kernel_rfl))
 f247:=Tryz.func246.trans (congrArg some (by kernel_rfl))
 f279:=Tryz.func260.trans (congrArg some (by kernel_rfl))
 f280:=Tryz.func261.trans (congrArg some (by kernel_rfl))
 f281:=Tryz.func262.trans (congrArg some (by kernel_rfl))
 f282:=Tryz.func263.trans (congrArg some (by kernel_rfl))
 f283:=Tryz.func285.trans (congrArg some (by kernel_rfl))
 f284:=Tryz.func286.trans (congrArg some (by kernel_rfl))
 f285:=Tryz.func287.trans (congrArg some (by kernel_rfl))
 f286:=Tryz.func288.trans (congrArg some (by kernel_rfl))
 f287:=Tryz.func259.trans (congrArg some (by kernel_rfl))
 f316:=Tryz.func274.trans (congrArg some (by kernel_rfl))
 f317:=Tryz.func289.trans (congrArg some (by kernel_rfl))
 f318:=Tryz.func291.trans (congrArg some (by kernel_rfl))
 f319:=Tryz.func292.trans (congrArg some (by kernel_rfl))
 f320:=Tryz.func293.trans (congrArg some (by kernel_rfl))
 f321:=Tryz.func272.trans (congrArg some (by kernel_rfl))
 f322:=Tryz.func273.trans (congrArg some (by kernel_rfl))
 f337:=Tryz.func294.trans (congrArg some (by kernel_rfl))
 f338:=Tryz.func295.trans (congrArg some (by kernel_rfl))
 t0:=Tryz.underlying0
 a0:=Tryz.isAgg0
 z0:=Tryz.sizeOf0
 v0:=Tryz.zeroValue0
 t2:=Tryz.underlying2
 a2:=Tryz.isAgg2
 z2:=Tryz.sizeOf2
 v2:=Tryz.zeroValue2
 t3:=Tryz.underlying3
 a3:=Tryz.isAgg3
 z3:=Tryz.sizeOf3
 v3:=Tryz.zeroValue3
 t4:=Tryz.underlying4
 a4:=Tryz.isAgg4
 z4:=Tryz.sizeOf4
 v4:=Tryz.zeroValue4
 t5:=Tryz.underlying5
 a5:=Tryz.isAgg5
 z5:=Tryz.sizeOf5
 v5:=Tryz.zeroValue5
 t9:=Tryz.underlying9
 a9:=Tryz.isAgg9
 z9:=Tryz.sizeOf9
 v9:=Tryz.zeroValue9
 t20:=Tryz.underlying20
 a20:=Tryz.isAgg20
 z20:=Tryz.sizeOf20
 v20:=Tryz.zeroValue20
 t21:=Tryz.underlying21
 a21:=Tryz.isAgg21
 z21:=Tryz.sizeOf21
 v21:=Tryz.zeroValue21
 t37:=Tryz.underlying83
 a37:=Tryz.isAgg83
 z37:=Tryz.sizeOf83
 v37:=Tryz.zeroValue83
 t46:=Tryz.underlying220
 a46:=Tryz.isAgg220
 z46:=Tryz.sizeOf220
 v46:=Tryz.zeroValue220
 t51:=Tryz.underlying240
 a51:=Tryz.isAgg240
 z51:=Tryz.sizeOf240
 v51:=Tryz.zeroValue240
 t53:=Tryz.underlying217
 a53:=Tryz.isAgg217
 z53:=Tryz.sizeOf217
 v53:=Tryz.zeroValue217
 t75:=Tryz.underlying195
 a75:=Tryz.isAgg195
 z75:=Tryz.sizeOf195
 v75:=Tryz.zeroValue195
 t85:=Tryz.underlying196
 a85:=Tryz.isAgg196
 z85:=Tryz.sizeOf196
 v85:=Tryz.zeroValue196
 t127:=Tryz.underlying225
 a127:=Tryz.isAgg225
 z127:=Tryz.sizeOf225
 v127:=Tryz.zeroValue225
 t143:=Tryz.underlying237
 a143:=Tryz.isAgg237
 z143:=Tryz.sizeOf237
 v143:=Tryz.zeroValue237
 t145:=Tryz.underlying239
 a145:=Tryz.isAgg239
 z145:=Tryz.sizeOf239
 v145:=Tryz.zeroValue239
 t167:=Tryz.underlying216
 a167:=Tryz.isAgg216
 z167:=Tryz.sizeOf216
 v167:=Tryz.zeroValue216
 t168:=Tryz.underlying221
 a168:=Tryz.isAgg221
 z168:=Tryz.sizeOf221
 v168:=Tryz.zeroValue221
 t171:=Tryz.underlying244
 a171:=Tryz.isAgg244
 z171:=Tryz.sizeOf244
 v171:=Tryz.zeroValue244
 t173:=Tryz.underlying247
 a173:=Tryz.isAgg247
 z173:=Tryz.sizeOf247
 v173:=Tryz.zeroValue247
 t175:=Tryz.underlying218
 a175:=Tryz.isAgg218
 z175:=Tryz.sizeOf218
 v175:=Tryz.zeroValue218
 t210:=Tryz.underlying228
 a210:=Tryz.isAgg228
 z210:=Tryz.sizeOf228
 v210:=Tryz.zeroValue228
 t212:=Tryz.underlying250
 a212:=Tryz.isAgg250
 z212:=Tryz.sizeOf250
 v212:=Tryz.zeroValue250
 t213:=Tryz.underlying251
 a213:=Tryz.isAgg251
 z213:=Tryz.sizeOf251
 t232:=Tryz.underlying254
 a232:=Tryz.isAgg254
 z232:=Tryz.sizeOf254
 v232:=Tryz.zeroValue254
 t233:=Tryz.underlying255
 a233:=Tryz.isAgg255
 z233:=Tryz.sizeOf255
 v233:=Tryz.zeroValue255
 g15:=by kernel_rfl
 g16:=by kernel_rfl
 g17:=by kernel_rfl
 g18:=by kernel_rfl
 g19:=by kernel_rfl
 t80:=Tryz.underlying85
 a80:=Tryz.isAgg85
 z80:=Tryz.sizeOf85
 v80:=Tryz.zeroValue85
 i0:=by kernel_rfl
 i2:=by kernel_rfl
 i3:=by kernel_rfl
 i4:=by kernel_rfl
 i5:=by kernel_rfl
 i9:=by kernel_rfl
 i20:=by kernel_rfl
 i21:=by kernel_rfl
 i37:=by kernel_rfl
 i46:=by kernel_rfl
 i51:=by kernel_rfl
 i53:=by kernel_rfl
 i75:=by kernel_rfl
 i80:=by kernel_rfl
 i85:=by kernel_rfl
 i127:=by kernel_rfl
 i143:=by kernel_rfl
 i145:=by kernel_rfl
 i167:=by kernel_rfl
 i168:=by kernel_rfl
 i171:=by kernel_rfl
 i173:=by kernel_rfl
 i175:=by kernel_rfl
 i210:=by kernel_rfl
 i212:=by kernel_rfl
 i232:=by kernel_rfl
 i233:=by kernel_rfl
 m15:=by kernel_rfl
 m16:=by kernel_rfl
 m17:=by kernel_rfl
 m18:=by kernel_rfl
 m19:=by kernel_rfl
 c0:=by kernel_rfl
 c2:=by kernel_rfl
 c3:=by kernel_rfl
 c4:=by kernel_rfl
 c5:=by kernel_rfl
 c9:=by kernel_rfl
 c20:=by kernel_rfl
 c21:=by kernel_rfl
 c37:=by kernel_rfl
 c46:=by kernel_rfl
 c51:=by kernel_rfl
 c53:=by kernel_rfl
 c75:=by kernel_rfl
 c80:=by kernel_rfl
 c85:=by kernel_rfl
 c127:=by kernel_rfl
 c143:=by kernel_rfl
 c145:=by kernel_rfl
 c167:=by kernel_rfl
 c168:=by kernel_rfl
 c171:=by kernel_rfl
 c173:=by kernel_rfl
 c175:=by kernel_rfl
 c210:=by kernel_rfl
 c212:=by kernel_rfl
 c213:=by kernel_rfl
 c232:=by kernel_rfl
 c233:=by kernel_rfl}
open Go.RowKit in
theorem Tryz.strconv_ParseInt_10_at64_ok (s:ByteArray) (G9:s.size<=9223372036854775806) (v:Int) (h:Lib.parseIntB 64 s.data.toList= .ok v) (w:World):
  Calls Tryz.prog 225 #[.string s,.int .i64 10,.int .i64 64] w fun e w' =>e= .returned (.tuple #[.int .i64 v,.nilIface])/\(w' =w\/∃t,w' =Lib.bytesWorld w 5 t):=Any.strconv_ParseInt_10_at64_ok Tryz.laysC174 s G9 v h w
open Go.RowKit in
theorem Tryz.strconv_ParseInt_10_at64_bad (s:ByteArray) (Hb:s.size<=281474976710656) (h1:∀v,Lib.parseIntB 64 s.data.toList≠ .ok v) (h2:Lib.parseIntB 64 s.data.toList≠ .range) (ev:Value) (w:World) (hv:w.cell? ⟨2,0,none⟩=some ev) (pL:ev= .nilIface\/∃te pe,ev= .iface te pe):
  Calls Tryz.prog 225 #[.string s,.int .i64 10,.int .i64 64] w fun e w' =>∃N,e= .returned (.tuple #[.int .i64 (0),.iface 221 (.pointer (some ⟨N,0,none⟩))])/\w.heap.size<=N/\w'.heap[N]? =some (.cells #[.string ⟨#[80,97,114,115,101,73,110,116]⟩,.string s,ev] 228 (0,0))/\Below w.heap.size w w' :=by
 cases hp:Lib.parseIntB 64 s.data.toList with
 |ok v=>exact absurd hp (h1 v)
 |range=>exact absurd hp h2
 |_=>exact Any.strconv_ParseInt_10_at64_syntax Tryz.laysC174 s Hb hp ev w hv pL
open Go.RowKit in
theorem Tryz.strconv_ParseInt_10_at64_range (s:ByteArray) (Hb:s.size<=281474976710656) (h:Lib.parseIntB 64 s.data.toList= .range) (ev:Value) (w:World) (hv:w.cell? ⟨3,0,none⟩=some ev) (pL:ev= .nilIface\/∃te pe,ev= .iface te pe):
  Calls Tryz.prog 225 #[.string s,.int .i64 10,.int .i64 64] w fun e w' =>∃N,e= .returned (.tuple #[.int .i64 (Lib.intSat 64 s.data.toList),.iface 221 (.pointer (some ⟨N,0,none⟩))])/\w.heap.size<=N/\w'.heap[N]? =some (.cells #[.string ⟨#[80,97,114,115,101,73,110,116]⟩,.string s,ev] 228 (0,0))/\Below w.heap.size w w' :=Any.strconv_ParseInt_10_at64_range Tryz.laysC174 s Hb h ev w hv pL
end Go.Proofs
namespace Go.Proofs.YtimddhkipjedcaaGreatDoor.E
open Go Go.RowKit
theorem YT:b7 Tryz.prog 138 0=some (0,none,1):=by kernel_rfl
theorem XL:b7 Tryz.prog 138 1=some (1,none,1):=by kernel_rfl
theorem Zk:mD Tryz.prog 138=true:=by kernel_rfl
theorem WQ:eV Tryz.prog 138=some [.v (.string (bs [])),.v (.int .i64 0)]:=by kernel_rfl
theorem abe:Dj Tryz.prog 195=true:=by kernel_rfl
attribute [go_sem] YT XL Zk WQ abe
def GlobX (m:Mem):Prop:=Glob m/\∀w D,m.le ⟨w,D⟩->(∃k,w.cell? ⟨1,0,none⟩=some (.int .i64 k))/\(∃t p,w.cell? ⟨2,0,none⟩=some (.iface t p))/\(∃t p,w.cell? ⟨3,0,none⟩=some (.iface t p))/\
 Lib.TabIs Tryz.prog w "internal/strconv.uint64pow10" .u64 Lib.pow10Tab
theorem GlobX.up {m m' :Mem} (h:GlobX m) (hm:m.le m'):GlobX m' :=⟨Glob.up h.1 hm,fun w D hw=>h.2 w D (Mem.le_trans hm hw)⟩
theorem IK (c:Int) (m:Mem):FnH Tryz.prog 184 [.v (.int .u8 c)] ⟨[],[]⟩ m fun r H' _=>r= .v (.bool (cM c))/\H' =⟨[],[]⟩:=by
 refine aH mQ Tryz.func184 ?_
 ·simp only[go_sem];rfl
theorem IL (c:Int) (m:Mem):FnH Tryz.prog 186 [.v (.int .u8 c)] ⟨[],[]⟩ m fun r H' _=>r= .v (.bool (dk c))/\H' =⟨[],[]⟩:=by
 refine aH mQ Tryz.func186 ?_
 ·simp only[go_sem];rfl
abbrev cf1:Cfg:=fh (fun _=>false) [(184,lv cM),(186,lv dk)]
theorem OL:cd cf1 Tryz.prog:=by
 refine pure_cons (by kernel_rfl) (fun b5 y hy _ m=> ?_) (pure_cons (by kernel_rfl) (fun b5 y hy _ m=> ?_) pure_nil)
 ·obtain⟨c,rfl,rfl⟩:=FH hy;exact IK c m
 ·obtain⟨c,rfl,rfl⟩:=FH hy;exact IL c m
theorem JT (s:List UInt8) (p at_:Int) (m:Mem) (h0:0<=at_) (h1:at_<=s.length) (hs:s.length<=4611686018427387904):FnH Tryz.prog 223 [.box 0 0,.v (.int .i64 at_)] ⟨[⟨0,138,[.v (.string (bs s)),.v (.int .i64 p)]⟩],[]⟩ m
  fun r H' m' =>r= .v (.int .i64 (bS true (s.drop at_.toNat)))/\H' =⟨[⟨0,138,[.v (.string (bs s)),.v (.int .i64 p)]⟩],[]⟩/\m' =m:=by
 refine aH OL Tryz.func223 ?_
 ·simp only[go_sem];refine cK OL (fun k:Nat=>⟨[⟨0,[],.box 0 0⟩,⟨1,[],.v (.int .i64 at_)⟩,⟨5,[],.v (.int .i64 k)⟩],[],[⟨0,138,[.v (.string (bs s)),.v (.int .i64 p)]⟩],[],1,m⟩)
   (fun k=>at_+k<=s.length/\bS true (s.drop at_.toNat)=k+bS (k==0) (s.drop (at_.toNat+k))) (fun k=>s.length - k) 0 (fun _ _=>aq _) (fun _ _=> .inl rfl) ?_ ?_ ?_
  ·simp only[go_sem];rfl
  ·simp;omega
  ·rintro k ⟨hk,hp⟩;simp only[go_sem];have hi:ax (at_+k):=by unfold ax;omega
   have hd:∀h:at_+k<s.length,s.drop (at_.toNat+k)=s.getD (at_+k).toNat 0::s.drop (at_.toNat+(k+1)):=fun h=>by
    have e:(at_+(k:Int)).toNat=at_.toNat+k:=by omega
    have hl:at_.toNat+k<s.length:=by omega
    rw[e,List.drop_eq_getElem_cons hl,List.getD_eq_getElem?_getD,List.getElem?_eq_getElem hl];rfl
   refine⟨hi,fun _=>hi,fun h=>⟨by omega,h⟩,fun _=>hi,fun h=>⟨by omega,h.2.2⟩,fun h=>⟨by unfold ax;omega,k+1,by omega,⟨by omega,?_⟩,by omega⟩,fun h=> ?_⟩
   ·rw[hp,hd h.1];have:(cM ((s.getD (at_+k).toNat 0).toNat:Int)||(!(k==0)&&dk ((s.getD (at_+k).toNat 0).toNat:Int)))=true:=by
     rcases h.2 with h2 |⟨h2,h3⟩
     ·rw[h2];rfl
     ·rw[h3];have:(k==0)=false:=by simp;omega
      rw[this];simp
    simp only[bS];rw[ah this];have e0:((k+1)==0)=false:=rfl;rw[e0];omega
   ·rw[hp];have:bS (k==0) (s.drop (at_.toNat+k))=0:=by
     by_cases ao:at_+k<s.length
     ·rw[hd ao];rcases h with h |⟨h2,h3⟩
      ·exact absurd ao h
      ·simp only[bS];rw[ae];rw[h2];rcases h3 with h3 |h3
       ·have:(k==0)=true:=by simp;omega
        rw[this];simp
       ·rw[h3];simp
     ·rw[List.drop_of_length_le (by omega)];rfl
    rw[this];rfl
def yB (B:List UInt8->List UInt8->Prop) (F:List UInt8->List UInt8->Value):List Value->Option (Prop×Value)
 |[.string a,.string b]=>some (B (tl a) (tl b),F (tl a) (tl b))
 |_=>none
theorem KS {B:List UInt8->List UInt8->Prop} {F:List UInt8->List UInt8->Value} {l:List Value} {y:Prop×Value} (h:yB B F l=some y):∃a b,l=[.string (bs a),.string (bs b)]/\y=(B a b,F a b):=by
 unfold yB at h;split at h
 ·rename_i a b;cases h;exact⟨tl a,tl b,by rw[la,la],rfl⟩
 ·cases h
attribute [go_sem] yB.eq_1
theorem PI (a b:List UInt8) (m:Mem):FnH Tryz.prog 221 [.v (.string (bs a)),.v (.string (bs b))] ⟨[],[]⟩ m fun r H' _=>r= .v (.bool (gZ a b))/\H' =⟨[],[]⟩:=by
 refine aH mQ Tryz.func221 ?_
 ·simp only[go_sem];refine⟨fun h=>⟨by omega,by omega,h⟩,?_⟩;rfl
abbrev cf2:Cfg:=fh (fun _=>false) [(221,yB (fun _ _=>True) fun a b=> .bool (gZ a b))]
theorem pu2:cd cf2 Tryz.prog:=by
 refine pure_cons (by kernel_rfl) (fun b5 y hy _ m=> ?_) pure_nil;obtain⟨a,b,rfl,rfl⟩:=KS hy;exact PI a b m
theorem PQ (a b:List UInt8) (m:Mem):FnH Tryz.prog 182 [.v (.string (bs a)),.v (.string (bs b))] ⟨[],[]⟩ m fun r H' _=>r= .v (.bool (gZ a b))/\H' =⟨[],[]⟩:=by
 refine aH pu2 Tryz.func182 ?_
 ·simp only[go_sem]
def DR (B:List UInt8->Int->Prop) (F:List UInt8->Int->Value):List Value->Option (Prop×Value)
 |[.string a,.int .u8 c]=>some (B (tl a) c,F (tl a) c)
 |_=>none
attribute [go_sem] DR.eq_1
theorem W7 {P:Program} {f:FuncId} {B:List UInt8->List UInt8->Prop} {F:List UInt8->List UInt8->Value} (h:∀a b m,B a b->FnH P f [.v (.string (bs a)),.v (.string (bs b))] ⟨[],[]⟩ m fun r H' _=>r= .v (F a b)/\H' =⟨[],[]⟩):nJ P f (yB B F):=fun b5 y hy hB m=>by
 obtain⟨a,b,rfl,rfl⟩:=KS hy;exact h a b m hB
theorem W8 {P:Program} {f:FuncId} {B:List UInt8->Int->Prop} {F:List UInt8->Int->Value} (h:∀a c m,B a c->FnH P f [.v (.string (bs a)),.v (.int .u8 c)] ⟨[],[]⟩ m fun r H' _=>r= .v (F a c)/\H' =⟨[],[]⟩):nJ P f (DR B F):=fun b5 y hy hB m=>by
 unfold DR at hy;split at hy
 ·rename_i a c;cases hy;have:=h (tl a) c m hB;rwa [la] at this
 ·cases hy
theorem PV (s:List UInt8) (m:Mem) (hg:GlobX m) (hs:s.length<=2147483648):
  FnH Tryz.prog 225 [.v (.string (bs s)),.v (.int .i64 10),.v (.int .i64 64)] ⟨[],[]⟩ m fun r H' m' =>(∃e,r= .v (.tuple ⟨[.int .i64 (gX s).1,e]⟩)/\D3 e/\p9 e=(gX s).2)/\H' =⟨[],[]⟩/\m' =m:=by
 refine(Db (args:=[.string (bs s),.int .i64 10,.int .i64 64]) (R:=fun y=>∃e,y= .tuple ⟨[.int .i64 (gX s).1,e]⟩/\D3 e/\p9 e=(gX s).2) fun w D jN hle=> ?_).mono ?_
 ·have jO:=o6 s;obtain⟨_,⟨t4,p4,h4⟩,⟨t5,p5,h5⟩,_⟩:=hg.2 w D hle;cases hp:Lib.parseIntB 64 s with
  |ok v=>
   refine(Tryz.strconv_ParseInt_10_at64_ok (bs s) (by omega) v hp w).mono ?_;rintro e w' ⟨rfl,hw⟩;refine⟨_,rfl,⟨.nilIface,by simp [gX,hp],.inl rfl,by simp [gX,hp,p9]⟩,?_⟩;rcases hw with rfl |⟨t,rfl⟩
   ·exact Below.refl _ _
   ·exact Lib.bytesWorld_below _ _ _
  |range=>
   have Bg:(bs s).data.toList=s:=xS s;refine(Tryz.strconv_ParseInt_10_at64_range (bs s) (by omega) hp _ w h5 (.inr ⟨_,_,rfl⟩)).mono ?_;rintro e w' ⟨N,rfl,_,_,hb⟩;exact⟨_,rfl,⟨.iface 221 (.pointer (some ⟨N,0,none⟩)),by simp [gX,hp,Bg],.inr ⟨_,_,rfl⟩,by simp [gX,hp,p9]⟩,hb⟩
  |_=>
   refine(Tryz.strconv_ParseInt_10_at64_bad (bs s) (by omega) (by rw[show(bs s).data.toList=s from xS s,hp];intro v e;cases e) (by rw[show(bs s).data.toList=s from xS s,hp];intro e;cases e) _ w h4 (.inr ⟨_,_,rfl⟩)).mono ?_;rintro e w' ⟨N,rfl,_,_,hb⟩;exact⟨_,rfl,⟨.iface 221 (.pointer (some ⟨N,0,none⟩)),by simp [gX,hp],.inr ⟨_,_,rfl⟩,by simp [gX,hp,p9]⟩,hb⟩
 ·rintro r H' m' hm ⟨⟨y,rfl,e,rfl,h3⟩,h1,h2⟩;exact⟨⟨e,rfl,h3⟩,h1,h2⟩
theorem JK:∀(l:List UInt8),cP true l=(if Lib.indexByte l 10<0 then l.length else(Lib.indexByte l 10).toNat+cP false (l.drop (Lib.indexByte l 10).toNat))
 |[]=>rfl
 |c::r=>by
  have ih:=JK r;have cA:=Lib.indexByte_ge r 10;simp only[cP,Lib.indexByte,beq_iff_eq];by_cases h:c.toNat=10
  ·have:c=10:=GC h;subst this;simp [cP]
  ·have h' :¬c=10:=fun e=>h (by rw[e];rfl)
   rw[ae h,ae h',ih];by_cases hn:Lib.indexByte r 10= -1
   ·rw[ah hn,ah (by omega),ah (by omega),cC];omega
   ·rw[ae hn,ae (by omega),ae (by omega)];have e:(Lib.indexByte r 10+1).toNat=(Lib.indexByte r 10).toNat+1:=by omega
    rw[e,List.drop_succ_cons];omega
def DY (s:List UInt8) (c:Int):Int:=Lib.indexByte s c.toNat.toUInt8
theorem Xo (s:List UInt8) (c:UInt8):DY s c.toNat=Lib.indexByte s c:=by unfold DY;rw[Int.toNat_natCast];simp
abbrev pIB:List Value->Option (Prop×Value):=DR (fun _ _=>True) fun s c=> .int .i64 (DY s c)
abbrev cf7:Cfg:=fh (fun f=>f==223||f==226||f==185||f==187||f==188||f==189||f==124||f==125) [(184,lv cM),(186,lv dk),(182,yB (fun _ _=>True) fun a b=> .bool (gZ a b)),(183,pIB),(192,eB BL fun s=> .bool (dX s))]
theorem dL:cd cf7 Tryz.prog:=by
 refine pure_cons (by kernel_rfl) (qc IK) (pure_cons (by kernel_rfl) (qc IL) (pure_cons (by kernel_rfl) (W7 fun a b m _=>PQ a b m) (pure_cons (by kernel_rfl) (W8 fun a c m _=>IA a c m) (pure_cons (by kernel_rfl) (ff EC) pure_nil))))
theorem RD (s:List UInt8) (p:Nat) (m:Mem) (hp:p<=s.length) (hs:s.length<=1000000):
  FnH Tryz.prog 124 [.box 0 0] ⟨[⟨0,138,[.v (.string (bs s)),.v (.int .i64 p)]⟩],[]⟩ m fun r H' m' =>r= .tup []/\H' =⟨[⟨0,138,[.v (.string (bs s)),.v (.int .i64 (p+cP false (s.drop p):Nat))]⟩],[]⟩/\m' =m:=by
 refine aH dL Tryz.func124 ?_
 ·simp only[go_sem];refine S0 dL (fun k:Nat=>⟨[⟨0,[],.box 0 0⟩],[],[⟨0,138,[.v (.string (bs s)),.v (.int .i64 k)]⟩],[],1,m⟩)
   (fun k=>k<=s.length/\p+cP false (s.drop p)=k+cP false (s.drop k)) (fun k=>s.length - k) p (by kernel_rfl) (fun _ _=>aq _) (fun _ _=> .inl rfl) (fun _=> ?_) ?_ ?_ ?_
  ·simp only[go_sem]
  ·simp only[go_sem]
  ·exact⟨hp,rfl⟩
  ·rintro k0 ⟨nW,rO⟩;simp only[go_sem];refine cK dL (fun k:Nat=>⟨[⟨0,[],.box 0 0⟩],[],[⟨0,138,[.v (.string (bs s)),.v (.int .i64 k)]⟩],[],1,m⟩)
    (fun k=>k0<=k/\k<=s.length/\p+cP false (s.drop p)=k+cP false (s.drop k)) (fun k=>s.length - k) k0 (fun _ _=>aq _) (fun _ _=> .inl rfl) ?_ ?_ ?_
   ·simp only[go_sem]
   ·exact⟨aq _,nW,rO⟩
   ·rintro k ⟨eP,hk,pG⟩;simp only[go_sem];refine ly dL (by kernel_rfl) (by kernel_rfl) (by kernel_rfl) ?_;simp only[go_sem];refine⟨fun ao=> ?_,fun cA=> ?_⟩
    ·refine ly dL (by kernel_rfl) (by kernel_rfl) (by kernel_rfl) ?_;simp only[go_sem];refine⟨⟨by omega,ao⟩,?_⟩;have bV:k<s.length:=by omega
     have hI:ax (k+1):=by unfold ax;omega
     rw[drop_at bV] at pG;simp only[cP] at pG;have ws:((s.getD k 0).toNat=9\/(s.getD k 0).toNat=10\/(s.getD k 0).toNat=13\/(s.getD k 0).toNat=32)->
       ∃x' :Nat,(k:Int)+1=x' /\(k0<=x' /\x' <=s.length/\p+cP false (s.drop p)=x' +cP false (s.drop x'))/\s.length - x' <s.length - k:=fun hc=>by
      rw[ah hc] at pG;exact⟨k+1,rfl,⟨by omega,bV,by omega⟩,by omega⟩
     refine⟨fun h=>⟨fun _=>⟨hI,ws (by omega)⟩,fun h' =>absurd h h'⟩,fun h9=>⟨fun h=>⟨fun _=>⟨hI,ws (by omega)⟩,fun h' =>absurd h h'⟩,fun vb=>⟨fun h=>⟨fun _=>⟨hI,ws (by omega)⟩,fun h' =>absurd h h'⟩,
      fun Pu=>⟨fun h=>⟨hI,ws (by omega)⟩,fun h32=> ?_⟩⟩⟩⟩
     rw[ae (by omega)] at pG;refine ly dL (by kernel_rfl) (by kernel_rfl) (by kernel_rfl) ?_;simp only[go_sem];refine⟨⟨by omega,by omega,by omega⟩,fun hc=> ?_,fun hc=> ?_⟩
     ·have gf:DY (s.drop k) 10=Lib.indexByte (s.drop k) 10:=rfl;have hh:(s.getD k 0).toNat=47/\(s.drop (k+1)).head?.map UInt8.toNat=some 47:=xj.1 (by rw[<- drop_at bV];exact hc);rw[ah hh] at pG;have fQ:p+cP false (s.drop p)=k+cP true (s.drop k):=by
       rw[pG,drop_at bV];simp only[cP];rw[ae (by omega)]
      have hi:Lib.indexByte (s.drop k) 10≠0:=by
       rw[drop_at bV];have cA:=Lib.indexByte_ge (s.drop (k+1)) 10;simp only[Lib.indexByte,beq_iff_eq];rw[ae (fun e=>by rw[e] at hh;exact absurd hh.1 (by decide))];split<;>omega
      have cA:=Lib.indexByte_ge (s.drop k) 10;have ql:=z6 10 (s.drop k);rw[cj] at ql;have ga:=JK (s.drop k);refine ly dL (by kernel_rfl) (by kernel_rfl) (by kernel_rfl) ?_;simp only[go_sem,gf];refine⟨⟨by omega,by omega,by omega⟩,fun hn=> ?_,fun hn=>⟨by unfold ax;omega,k+(Lib.indexByte (s.drop k) 10).toNat,by omega,⟨by omega,?_⟩,by omega⟩⟩
      ·refine ly dL (by kernel_rfl) (by kernel_rfl) (by kernel_rfl) ?_;simp only[go_sem];refine⟨by unfold ax;omega,by unfold ax;omega,s.length,by omega,⟨aq _,?_⟩,by omega⟩;rw[ah hn,cj] at ga;rw[List.drop_length];simp only[cP];omega
      ·rw[ae hn,List.drop_drop] at ga;omega
     ·have:p+cP false (s.drop p)=k:=by
       rw[pG,ae,Nat.add_zero];rintro⟨e1,e2⟩;rw[drop_at bV,xj.2 ⟨e1,e2⟩] at hc;cases hc
      rw[this]
    ·have e:s.drop k=[]:=List.drop_of_length_le (by omega);rw[e] at pG;rw[pG];rfl
abbrev fY (s:List UInt8) (p:Int):Bx:=⟨0,138,[.v (.string (bs s)),.v (.int .i64 p)]⟩
theorem PJ (s:List UInt8) (p:Nat) (m:Mem) (hp:p<=s.length) (hs:s.length<=1000000):
  FnH Tryz.prog 189 [.box 0 0] ⟨[fY s p],[]⟩ m fun r H' m' =>m' =m/\match o8 (s.drop p) with
   |some o=>r= .tup [Tk.sv ⟨6,o,0,p⟩,.v (.bool true)]/\H' =⟨[fY s (p+o.length)],[]⟩
   |none=>r= .tup [Tk.sv mZ,.v (.bool false)]/\H' =⟨[fY s p],[]⟩:=by
 refine aH dL Tryz.func189 ?_
 ·simp only[go_sem];refine ab ((PN m).mono ?_);rintro r H' m' hm ⟨rfl,rfl,rfl⟩;simp only[go_sem];refine cK dL (fun k:Nat=>⟨[⟨0,[],.box 0 0⟩,⟨2,[],.box 1 0⟩,⟨7,[],.vec 2 0⟩,⟨8,[],.v (.int .i64 30)⟩,⟨9,[],.v (.int .i64 k)⟩],[],[⟨1,50,mZ.cells⟩,fY s p],[⟨2,0,9,1,30,strs eQ⟩],3,m'⟩)
   (fun k=>k<=30/\o8 (s.drop p)=(eQ.drop k).find? fun o=>gZ (s.drop p) o) (fun k=>30 - k) 0 (fun _ _=>aq _) (fun _ _=> .inl rfl) ?_ ?_ ?_
  ·simp only[go_sem];exact⟨rfl,rfl⟩
  ·exact⟨by omega,rfl⟩
  ·rintro k ⟨hk,hf⟩;simp only[go_sem];have ga:eQ.length=30:=rfl;have fQ:(strs eQ).length=30:=rfl;refine⟨fun ao=>⟨⟨by omega,ao⟩,by omega,?_⟩,fun cA=> ?_⟩
   ·have wc:k<eQ.length:=by omega
    have e:(strs eQ).getD k undef= .string (bs eQ[k]):=by
     rw[List.getD_eq_getElem?_getD,strs,List.getElem?_map,List.getElem?_eq_getElem wc];rfl
    rw[e];have uX:eQ[k].length<=3:=(by decide:∀o∈eQ,o.length<=3) _ (List.getElem_mem wc);rw[List.drop_eq_getElem_cons wc,List.find?_cons] at hf;generalize eQ[k]=o at uX hf
    refine ly dL (by kernel_rfl) (by kernel_rfl) (by kernel_rfl) ?_;simp only[go_sem];refine⟨⟨by omega,by omega,by omega⟩,fun h=> ?_,fun h=>⟨by unfold ax;omega,k+1,by omega,⟨by omega,?_⟩,by omega⟩⟩
    ·simp only[h] at hf;rw[hf];exact⟨by unfold ax;omega,rfl,rfl⟩
    ·simp only[h] at hf;exact hf
   ·obtain rfl:k=30:=by omega
    have e:eQ.drop 30=[]:=rfl;rw[e] at hf;simp only[List.find?_nil] at hf;rw[hf];trivial
theorem Qz (s:List UInt8) (p:Nat) (m:Mem) (hp:p<=s.length) (hs:s.length<=1000000):
  FnH Tryz.prog 226 [.box 0 0] ⟨[fY s p],[]⟩ m fun r H' m' =>m' =m/\r= .tup [.v (.int .u8 (dp (s.drop p)).2.1),.v (.bool (dp (s.drop p)).2.2)]/\H' =⟨[fY s (p+(dp (s.drop p)).1:Nat)],[]⟩:=by
 refine aH dL Tryz.func226 ?_
 ·simp only[go_sem];cases hr:s.drop p with
  |nil=>
   refine ly dL (by kernel_rfl) (by kernel_rfl) (by kernel_rfl) ?_;simp only[go_sem,hr];exact⟨⟨by omega,by omega,by omega⟩,⟨rfl,rfl⟩,fun h=>absurd trivial h⟩
  |cons c r=>
   have hlen:(s.drop p).length=r.length+1:=by rw[hr];rfl
   rw[cj] at hlen;refine ly dL (by kernel_rfl) (by kernel_rfl) (by kernel_rfl) ?_;simp only[go_sem,hr];have h0:(0:Int)<=0/\(0:Int)<((r.length+1:Nat):Int):=by omega
   refine⟨⟨by omega,by omega,by omega⟩,h0,fun _=>h0,fun h=> ?_,fun h=>⟨h0,fun h1=> ?_,fun h1=>⟨h0,fun h2=> ?_,fun h2=> ?_⟩⟩⟩
   ·have e:dp (c::r)=(1,(c.toNat:Int),true):=by
     simp only[dp];rw[ah (by omega)]
    rw[e];exact⟨by unfold ax;omega,h0,rfl,rfl⟩
   ·have e:dp (c::r)=(1,10,true):=by
     simp only[dp];rw[ae (by omega),ah (by omega)]
    rw[e];exact⟨by unfold ax;omega,rfl,rfl⟩
   ·match r,hlen,h2,h0 with
    |[],_,h2,_=>exact absurd h2.2 (by simp)
    |[_],_,h2,_=>exact absurd h2.2 (by simp)
    |x::y::r,hlen,h2,h0=>
     have e:dp (c::x::y::r)=(3,IntKind.u8.wrap (16 * lS x+lS y),decide (0<=lS x)&&decide (0<=lS y)):=by
      simp only[dp];rw[ae (by omega),ae (by omega),ah (by omega)]
     rw[e];simp only[List.getD_cons_zero,List.getD_cons_succ,Xo];have hb:∀z:UInt8,-1<=Lib.indexByte qo z/\Lib.indexByte qo z<16:=fun z=>⟨Lib.indexByte_ge _ _,z6 z qo⟩
     have h3:=hb x;have h4:=hb y;simp only[lS];simp only[qo] at h3 h4 ⊢;simp only[cC] at hlen ⊢;exact⟨by omega,by omega,by unfold ax;omega,by unfold ax;omega,by unfold ax;omega,rfl,rfl⟩
   ·have e:dp (c::r)=(0,0,false):=by
     simp only[dp];rw[ae (by omega),ae (by omega)];split
     ·match r,h2 with
      |[],_=>rfl
      |[_],_=>rfl
      |x::y::r,h2=>simp only[cC] at h2;omega
     ·rfl
    rw[e];exact⟨rfl,rfl⟩
def Ox (s:List UInt8) (p:Nat) (o:Option (List UInt8×Nat)) (r:SV) (H' :Hp):Prop:=
 match o with
 |some (b,n)=>r= .tup [Tk.sv ⟨5,b,0,p⟩,.v (.bool (decide (b.length<=1024)))]/\H' =⟨[fY s (p+1+n:Nat)],[]⟩
 |none=>∃t q,r= .tup [Tk.sv t,.v (.bool false)]/\H' =⟨[fY s q],[]⟩
theorem Qm (s:List UInt8) (p:Nat) (m:Mem) (hp:p<s.length) (hs:s.length<=1000000):
  FnH Tryz.prog 188 [.box 0 0] ⟨[fY s p],[]⟩ m fun r H' m' =>m' =m/\Ox s p (jx (s.drop (p+1))) r H' :=by
 refine aH dL Tryz.func188 ?_
 ·simp only[go_sem];refine S1 dL (by kernel_rfl) ?_;simp only[go_sem];refine⟨by unfold ax;omega,?_⟩;refine qV 5 5 1 (by decide) rfl ?_;refine cK dL (fun x:Nat×List UInt8×Nat=>⟨[⟨0,[],.box 0 0⟩,⟨2,[],.box 1 0⟩,⟨4,[],.box 2 0⟩,⟨5,[],.vec 3 x.2.2⟩],[],[⟨2,50,Tk.cells ⟨5,[],0,p⟩⟩,⟨1,50,mZ.cells⟩,fY s x.1],[⟨3,x.2.2,5,1,x.2.1.length,kh x.2.1⟩],4,m⟩)
   (fun x=>p+1<=x.1/\x.1<=s.length/\x.2.1.length<=x.1/\∃f,s.length - x.1<f/\jx (s.drop (p+1))=(j7 f (s.drop x.1)).map fun y=>(x.2.1++y.1,x.1 - (p+1)+y.2)) (fun x=>s.length - x.1) (p+1,[],0) (fun _ _=>by first |omega |(simp only;omega)) (fun _ _=> .inl rfl) ?_ ?_ ?_
  ·simp only[go_sem];exact⟨rfl,rfl⟩
  ·refine⟨aq _,hp,au _,(s.drop (p+1)).length+1,by rw[cj];omega,?_⟩;show jx _=(jx _).map _;cases jx (s.drop (p+1)) with
   |none=>rfl
   |some x=>simp
  ·rintro⟨q,b,v⟩ ⟨h1,h2,h3,f,hf,hq⟩;simp only at h1 h2 h3 hf hq;obtain⟨f,rfl⟩:∃g,f=g+1:=⟨f - 1,by omega⟩;simp only[go_sem];refine ly dL (by kernel_rfl) (by kernel_rfl) (by kernel_rfl) ?_;simp only[go_sem];refine⟨fun cA=> ?_,fun ao=> ?_⟩
   ·have e:s.drop q=[]:=List.drop_of_length_le (by omega);rw[e] at hq;have Bh:jx (s.drop (p+1))=none:=hq;rw[Bh];exact⟨⟨5,[],0,p⟩,_,rfl,rfl⟩
   ·have HK:q<s.length:=by omega
    rw[drop_at HK] at hq;simp only[j7] at hq;refine ly dL (by kernel_rfl) (by kernel_rfl) (by kernel_rfl) ?_;simp only[go_sem];refine⟨⟨by omega,by omega⟩,by unfold ax;omega,fun yP=> ?_,fun yP=> ?_⟩
    ·rw[ah (by omega)] at hq;refine⟨b,rfl,?_⟩;rw[hq];refine⟨?_,?_⟩
     ·have:decide ((b.length:Int)<=1024)=decide ((b++[]).length<=1024):=by rw[List.append_nil,decide_eq_decide];omega
      rw[this,List.append_nil]
     ·have:((p+1+(q - (p+1)+1):Nat):Int)=q+1:=by omega
      simp only[this]
    ·rw[ae (by omega)] at hq;refine⟨fun abA=> ?_,fun abA=>⟨fun Ps=>⟨by kernel_rfl,?_⟩,fun Ps=> ?_⟩⟩
     ·rw[ah (by omega)] at hq;have Bh:jx (s.drop (p+1))=none:=hq;rw[Bh];exact⟨⟨5,[],0,p⟩,_,rfl,rfl⟩
     ·rw[ae (by omega),ah (by omega)] at hq;have oS:=Qz s (q+1) m (by omega) hs;refine cE (oS.mono ?_);rintro r H' m' hm ⟨rfl,rfl,rfl⟩;simp only[go_sem];obtain⟨pJ,bw⟩:=Cv (s.drop (q+1));obtain⟨x,hx⟩:=Ke (s.drop (q+1));rw[hx] at hq ⊢;rw[cj] at pJ;rw[List.drop_drop] at hq;generalize (dp (s.drop (q+1))).1=a at hq pJ bw ⊢
      generalize (dp (s.drop (q+1))).2.2=k at hq bw ⊢
      have ex:UInt8.ofNat ((x.toNat:Int)).toNat=x:=by rw[Int.toNat_natCast];simp
      rw[ex] at hq;refine⟨fun hk=> ?_,fun hk=> ?_⟩
      ·subst hk;have Bh:jx (s.drop (p+1))=none:=hq;rw[Bh];exact⟨⟨5,[],0,p⟩,_,rfl,rfl⟩
      ·subst hk;have ha:=bw rfl;have GH:kh b++[Value.int .u8 (x.toNat:Int)]=kh (b++[x]):=by rw[FX];rfl
       refine⟨⟨by omega,by simp only[maxLen];omega⟩,(q+1+a,b++[x],v+1),⟨rfl,rfl,rfl,by simp,GH⟩,⟨by first |omega |(simp only;omega),by first |omega |(simp only;omega),by simp only[bY,fI];omega,f,by first |omega |(simp only;omega),?_⟩,by first |omega |(simp only;omega)⟩;rw[hq,ah rfl];cases j7 f (s.drop (q+1+a)) with
       |none=>rfl
       |some x=>
        have:q - (p+1)+(1+a+x.2)=q+1+a - (p+1)+x.2:=by omega
        simp [this]
     ·rw[ae (by omega),ae (by omega)] at hq;have GH:kh b++[Value.int .u8 ((s.getD q 0).toNat:Int)]=kh (b++[s.getD q 0]):=by rw[FX];rfl
      refine⟨⟨by omega,by simp only[maxLen];omega⟩,(q+1,b++[s.getD q 0],v+1),⟨rfl,rfl,rfl,by simp,GH⟩,⟨by first |omega |(simp only;omega),by first |omega |(simp only;omega),by simp only[bY,fI];omega,f,by first |omega |(simp only;omega),?_⟩,by first |omega |(simp only;omega)⟩;rw[hq];cases j7 f (s.drop (q+1)) with
      |none=>rfl
      |some x=>
       have:q - (p+1)+(1+x.2)=q+1 - (p+1)+x.2:=by omega
       simp [this]
theorem L5 {t:List UInt8}:(!decide (((t.getD 0 0).toNat:Int)=48)||decide ((t.length:Int)=1))=(decide ((t.getD 0 0).toNat≠48)||decide (t.length=1)):=by
 have e1:decide (((t.getD 0 0).toNat:Int)=48)=decide ((t.getD 0 0).toNat=48):=by rw[decide_eq_decide];omega
 have e2:decide ((t.length:Int)=1)=decide (t.length=1):=by rw[decide_eq_decide];omega
 rw[e1,e2];simp
theorem Qs (s:List UInt8) (p:Nat) (m:Mem) (hg:GlobX m) (hp:p<s.length) (hs:s.length<=1000000) (hd:dk (s.getD p 0).toNat=true):
  FnH Tryz.prog 187 [.box 0 0] ⟨[fY s p],[]⟩ m fun r H' m' =>m' =m/\
   r= .tup [Tk.sv ⟨if(fg (s.drop p)).1=true then 4 else 3,[],(fg (s.drop p)).2.1,p⟩,.v (.bool (fg (s.drop p)).2.2.2)]/\H' =⟨[fY s (p+(fg (s.drop p)).2.2.1:Nat)],[]⟩:=by
 refine aH dL Tryz.func187 ?_
 ·simp only[go_sem];refine cK dL (fun k:Nat=>⟨[⟨0,[],.box 0 0⟩,⟨2,[],.box 1 0⟩,⟨4,[],.v (.int .i64 p)⟩],[],[⟨1,50,mZ.cells⟩,fY s k],[],2,m⟩)
   (fun k=>p<=k/\k<=s.length/\p+cJ (s.drop p)=k+cJ (s.drop k)) (fun k=>s.length - k) p (fun _ _=>aq _) (fun _ _=> .inl rfl) ?_ ?_ ?_
  ·simp only[go_sem]
  ·exact⟨aq _,by omega,rfl⟩
  ·rintro k ⟨pG,hk,hdk⟩;simp only[go_sem];refine ly dL (by kernel_rfl) (by kernel_rfl) (by kernel_rfl) ?_;simp only[go_sem];refine⟨fun h=>⟨by omega,h⟩,fun h=>⟨by unfold ax;omega,k+1,rfl,⟨by omega,by omega,?_⟩,by omega⟩,fun h=> ?_⟩
   ·have e:cJ (s.drop k)=1+cJ (s.drop (k+1)):=by
     rw[drop_at (by omega)];simp only[cJ];rw[ah h.2]
    omega
   ·have jF:cJ (s.drop k)=0:=by
     rcases h with h |h
     ·rw[List.drop_of_length_le (by omega)];rfl
     ·rcases Nat.lt_or_ge k s.length with h' |h'
      ·rw[drop_at h'];simp only[cJ];rw[h];rfl
      ·rw[List.drop_of_length_le h'];rfl
    have nW:k=p+cJ (s.drop p):=by omega
    have yo:p<k:=by
     rw[nW,drop_at hp];simp only[cJ];rw[ah hd];omega
    clear hdk h jF;have yH:=MT hp hk nW yo;have iZ:=yH.1;have rQ:=yH.2.1;have sV:=yH.2.2;have uW:=PV (jA s p) m hg (by rw[rQ];omega);refine ly dL (by kernel_rfl) (by kernel_rfl) (by kernel_rfl) ?_;simp only[go_sem,iZ];refine⟨⟨by omega,by omega,by omega⟩,?_⟩;refine ly dL (by kernel_rfl) (by kernel_rfl) (by kernel_rfl) ?_;simp only[go_sem,iZ];refine⟨fun h=>⟨by omega,h⟩,fun h=>⟨by unfold ax;omega,by kernel_rfl,cE (uW.mono ?_)⟩,fun h=>ab (uW.mono ?_)⟩
    ·rintro r H' m' hm ⟨⟨e,rfl,he1,he2⟩,rfl,rfl⟩;clear uW;rcases he1 with rfl |⟨te,ve,rfl⟩
     ·simp only[go_sem];refine cw (.hoist 0 (.hoist 1 (.hoist 2 (.hoist 3 (.hoist 4 (.hoist 5 (.hoist 6 (.hoist 7 (.hoist 8 (.hoist 9 (.hoist 10 (.hoist 11 (.hoist 12 (.hoist 13 (.hoist 14 (.hoist 15 (.hoist 16 (.hoist 17 (.hoist 18 (.alt 19 [18,17,16,15,14] (.hoist 20 .done) .stop)))))))))))))))))))) dL (by kernel_rfl) (by kernel_rfl) ?_;simp only[go_sem,sV];have qJ:(gX (jA s p)).2=true:=he2.symm;refine⟨.inl rfl,fun _=>by rw[rQ];omega,?_,?_⟩
      ·rw[ah h,ah h,qJ,Bool.true_and,L5]
      ·rw[ah h];have:((p+(k - p+1):Nat):Int)=k+1:=by omega
       rw[this]
     ·simp only[go_sem];refine cw (.hoist 0 (.hoist 1 (.hoist 2 (.hoist 3 (.hoist 4 (.hoist 5 (.hoist 6 (.hoist 7 (.hoist 8 (.hoist 9 (.hoist 10 (.hoist 11 (.hoist 12 (.hoist 13 (.hoist 14 (.hoist 15 (.hoist 16 (.hoist 17 (.hoist 18 (.alt 19 [18,17,16,15,14] (.hoist 20 .done) .stop)))))))))))))))))))) dL (by kernel_rfl) (by kernel_rfl) ?_;simp only[go_sem,sV];have qJ:(gX (jA s p)).2=false:=he2.symm;refine⟨.inr ⟨_,_,rfl⟩,?_,?_⟩
      ·rw[ah h,ah h,qJ];rfl
      ·rw[ah h];have:((p+(k - p+1):Nat):Int)=k+1:=by omega
       rw[this]
    ·rintro r H' m' hm ⟨⟨e,rfl,he1,he2⟩,rfl,rfl⟩;clear uW;rcases he1 with rfl |⟨te,ve,rfl⟩
     ·simp only[go_sem];refine cw (.hoist 0 (.hoist 1 (.hoist 2 (.hoist 3 (.hoist 4 (.hoist 5 (.hoist 6 (.hoist 7 (.hoist 8 (.hoist 9 (.hoist 10 (.hoist 11 (.hoist 12 (.hoist 13 (.hoist 14 (.hoist 15 (.hoist 16 (.hoist 17 (.hoist 18 (.alt 19 [18,17,16,15,14] (.hoist 20 .done) .stop)))))))))))))))))))) dL (by kernel_rfl) (by kernel_rfl) ?_;simp only[go_sem,sV];have h:¬((k:Int)<s.length/\(((s.getD k 0).toNat:Nat):Int)=76):=fun x=>h.elim (fun y=>y x.1) (fun y=>y x.2)
      have qJ:(gX (jA s p)).2=true:=he2.symm;refine⟨.inl rfl,fun _=>by rw[rQ];omega,?_,?_⟩
      ·rw[ae h,ae h,qJ,Bool.true_and,L5]
      ·rw[ae h];have:((p+(k - p):Nat):Int)=k:=by omega
       rw[this]
     ·simp only[go_sem];refine cw (.hoist 0 (.hoist 1 (.hoist 2 (.hoist 3 (.hoist 4 (.hoist 5 (.hoist 6 (.hoist 7 (.hoist 8 (.hoist 9 (.hoist 10 (.hoist 11 (.hoist 12 (.hoist 13 (.hoist 14 (.hoist 15 (.hoist 16 (.hoist 17 (.hoist 18 (.alt 19 [18,17,16,15,14] (.hoist 20 .done) .stop)))))))))))))))))))) dL (by kernel_rfl) (by kernel_rfl) ?_;simp only[go_sem,sV];have h:¬((k:Int)<s.length/\(((s.getD k 0).toNat:Nat):Int)=76):=fun x=>h.elim (fun y=>y x.1) (fun y=>y x.2)
      have qJ:(gX (jA s p)).2=false:=he2.symm;refine⟨.inr ⟨_,_,rfl⟩,?_,?_⟩
      ·rw[ae h,ae h,qJ];rfl
      ·rw[ae h];have:((p+(k - p):Nat):Int)=k:=by omega
       rw[this]
theorem VJ (l:List UInt8) (hl:l.length<=1000000):BL (fu l):=by
 have h:=Vg (l.take (iJ l)) [58,58] [47] (by simp) (by rw[List.length_take];omega);rw[List.length_take] at h;simp only[cC,fm] at h;unfold BL fu;omega
theorem PH (s:List UInt8) (p:Nat) (m:Mem) (hg:GlobX m) (hp:p<s.length) (hs:s.length<=1000000):
  FnH Tryz.prog 185 [.box 0 0] ⟨[fY s p],[]⟩ m fun r H' m' =>m.le m' /\
   r= .tup [Tk.sv ⟨if fb.contains (fu (s.drop p))=true then 2 else 1,fu (s.drop p),0,p⟩,.v (.bool (dX (fu (s.drop p))))]/\H' =⟨[fY s (p+iJ (s.drop p):Nat)],[]⟩:=by
 refine aH dL Tryz.func185 ?_
 ·simp only[go_sem];refine cw (.hoist 0 (.hoist 1 (.hoist 2 (.hoist 3 (.hoist 4 (.hoist 5 (.hoist 6 (.hoist 7 (.hoist 8 (.alt 9 [3,2,1,0] (.hoist 10 (.hoist 11 (.hoist 12 (.alt 13 [] .done .stop)))) .stop)))))))))) dL (by kernel_rfl) (by kernel_rfl) ?_;simp only[go_sem];have km:=vz true (s.drop p);rw[cj] at km;refine ab ((JT s p p m (by omega) (by omega) (by omega)).mono ?_);rintro r H' m' hm ⟨rfl,rfl,rfl⟩;simp only[go_sem];refine⟨by unfold ax;omega,?_⟩;refine UR dL (fun x:Nat×Nat=>⟨[⟨0,[],.box 0 0⟩,⟨2,[],.box 1 0⟩,⟨3,[],.v (.bool false)⟩,⟨4,[],.v (.int .i64 p)⟩],[],[⟨1,50,mZ.cells⟩,fY s x.1],[],3,m'⟩)
   (fun x=>p<=x.1/\x.1<=s.length/\s.length - x.1<x.2/\p+iJ (s.drop p)=x.1+lk x.2 (s.drop x.1)) (fun x=>s.length - x.1) (p+bS true (s.drop p),(s.drop p).length+1)
   (fun _:Unit=>⟨[⟨0,[],.box 0 0⟩,⟨2,[],.box 1 0⟩,⟨3,[],.v (.bool false)⟩,⟨4,[],.v (.int .i64 p)⟩],[],[⟨1,50,mZ.cells⟩,fY s (p+iJ (s.drop p):Nat)],[],3,m'⟩) (fun _=>p+iJ (s.drop p)<=s.length)
   (by kernel_rfl) (fun _ _=>aq _) (fun _ _=> .inl rfl) (fun _=> ?_) ?_ ?_ (fun _ _=>aq _) (fun _ _=> .inl rfl) (fun _=> ?_) (fun _ hJ=> ?_) ?_
  ·simp only[go_sem]
  ·simp only[go_sem];rfl
  ·refine⟨Nat.le_add_right _ _,by omega,by rw[cj];simp only;omega,?_⟩;simp only[iJ,List.drop_drop];omega
  ·simp only[go_sem]
  ·simp only[go_sem];have et:(s.take (p+iJ (s.drop p))).drop p=(s.drop p).take (iJ (s.drop p)):=by
    rw[List.drop_take];congr 1;omega
   have aY:=P3 ((s.drop p).take (iJ (s.drop p))) [58,58] [47] m' hg.1 (by rw[List.length_take,cj];omega) (by simp) (by simp);have eS:Lib.replaceAll ((s.drop p).take (iJ (s.drop p))) [58,58] [47]=fu (s.drop p):=rfl;have D7:BL (fu (s.drop p)):=VJ _ (by rw[cj];omega);refine cw (.hoist 0 (.hoist 1 (.hoist 2 (.hoist 3 (.hoist 4 (.hoist 5 (.hoist 6 (.hoist 7 (.hoist 8 (.hoist 9 (.hoist 11 (.alt 10 [11] (.hoist 12 (.alt 13 [12,11] (.alt 14 [] .done .stop) .stop)) (.alt 13 [11,9,8,7,6,5,4,3,2,1,0] (.alt 10 [11] (.hoist 12 (.alt 14 [] .done .stop)) .stop) .stop))))))))))))) dL (by kernel_rfl) (by kernel_rfl) ?_;simp only[go_sem,et];refine⟨⟨by omega,by omega,by omega⟩,ab (aY.mono ?_),ab (aY.mono ?_)⟩
   ·clear aY;rintro r H' iI aG ⟨rfl,rfl,rfl⟩;simp only[go_sem,eS];refine cw (.hoist 1 (.hoist 2 (.alt 0 [2,1] (.alt 3 [] .done .stop) .stop))) dL (by kernel_rfl) (by kernel_rfl) ?_;simp only[go_sem];refine ab ((Ek iI).mono ?_);rintro r H' m3 bu ⟨rfl,rfl,rfl⟩;simp only[go_sem];refine⟨by kernel_rfl,fun ad cp m1 aJ bb bP=>cE ((xb fb (fu (s.drop p)) ad 28 cp m1 bP (by decide)).mono ?_)⟩;rintro r H' m4 dc ⟨rfl,rfl⟩;simp only[go_sem];refine⟨fun hk=> ?_,fun hk=> ?_⟩
    ·refine cw (.hoist 0 (.hoist 1 (.hoist 2 (.alt 3 [0] (.alt 4 [] (.hoist 5 .done) .stop) .stop)))) dL (by kernel_rfl) (by kernel_rfl) ?_;simp only[go_sem];refine⟨D7,Mem.le_trans aJ dc,?_⟩;rw[ah hk]
    ·refine cw (.hoist 0 (.hoist 1 (.hoist 2 (.alt 3 [0] (.alt 4 [] (.hoist 5 .done) .stop) .stop)))) dL (by kernel_rfl) (by kernel_rfl) ?_;simp only[go_sem];refine⟨D7,Mem.le_trans aJ dc,?_⟩;rw[ae (by rw[hk];exact Bool.false_ne_true)]
   ·clear aY;rintro r H' iI aG ⟨rfl,rfl,rfl⟩;simp only[go_sem,eS];refine cw (.hoist 1 (.hoist 2 (.alt 0 [2,1] (.alt 3 [] .done .stop) .stop))) dL (by kernel_rfl) (by kernel_rfl) ?_;simp only[go_sem];refine ab ((Ek iI).mono ?_);rintro r H' m3 bu ⟨rfl,rfl,rfl⟩;simp only[go_sem];refine⟨by kernel_rfl,fun ad cp m1 aJ bb bP=>cE ((xb fb (fu (s.drop p)) ad 28 cp m1 bP (by decide)).mono ?_)⟩;rintro r H' m4 dc ⟨rfl,rfl⟩;simp only[go_sem];refine⟨fun hk=> ?_,fun hk=> ?_⟩
    ·refine cw (.hoist 0 (.hoist 1 (.hoist 2 (.alt 3 [0] (.alt 4 [] (.hoist 5 .done) .stop) .stop)))) dL (by kernel_rfl) (by kernel_rfl) ?_;simp only[go_sem];refine⟨D7,Mem.le_trans aJ dc,?_⟩;rw[ah hk]
    ·refine cw (.hoist 0 (.hoist 1 (.hoist 2 (.alt 3 [0] (.alt 4 [] (.hoist 5 .done) .stop) .stop)))) dL (by kernel_rfl) (by kernel_rfl) ?_;simp only[go_sem];refine⟨D7,Mem.le_trans aJ dc,?_⟩;rw[ae (by rw[hk];exact Bool.false_ne_true)]
  ·rintro⟨k,f⟩ ⟨h1,h2,h3,h4⟩;simp only at h1 h2 h3 h4;obtain⟨f,rfl⟩:∃g,f=g+1:=⟨f - 1,by omega⟩;simp only[lk] at h4;simp only[go_sem];refine ly dL (by kernel_rfl) (by kernel_rfl) (by kernel_rfl) ?_;simp only[go_sem];refine⟨⟨by omega,by omega,by omega⟩,fun h=> ?_,fun h=> ?_⟩
   ·have dd:k+2<=s.length:=by
     have:=CN h;rw[cj] at this;simp only[cC,fm] at this;omega
    have G8:=vz true (s.drop (k+2));rw[cj] at G8;rw[List.drop_drop,List.drop_drop] at h4;have e2:((k:Int)+2).toNat=k+2:=by omega
    refine⟨by unfold ax;omega,by kernel_rfl,cE ((JT s k (k+2) m' (by omega) (by omega) (by omega)).mono ?_)⟩;rintro r H' iI aG ⟨rfl,rfl,rfl⟩;simp only[go_sem,e2];refine⟨fun h0=>⟨(),?_,?_⟩,fun h0=>⟨by unfold ax;omega,by unfold ax;omega,(k+(2+bS true (s.drop (k+2))),f),by simp only;omega,⟨by simp only;omega,by simp only;omega,by simp only;omega,?_⟩,by simp only;omega⟩⟩
    ·rw[ae (by rintro⟨_,x⟩;exact x (by omega))] at h4;rw[h4];rfl
    ·rw[ae (by rintro⟨_,x⟩;exact x (by omega))] at h4;omega
    ·rw[ah ⟨h,by omega⟩] at h4;simp only;omega
   ·rw[ae (by rw[h];rintro⟨x,_⟩;cases x)] at h4;exact⟨(),by rw[h4];rfl,by omega⟩
def Ht (s:List UInt8) (p:Nat) (o:Option (Int×List UInt8×Int×Nat)) (r:SV) (H' :Hp):Prop:=
 match o with
 |some (k,t,n,len)=>r= .tup [Tk.sv ⟨k,t,n,p⟩,.v (.bool true)]/\H' =⟨[fY s (p+len:Nat)],[]⟩
 |none=>∃t q,r= .tup [Tk.sv t,.v (.bool false)]/\H' =⟨[fY s q],[]⟩
def wu (s:List UInt8) (p:Nat) (m:Mem) (r:SV) (H' :Hp) (m' :Mem):Prop:=
 m.le m' /\∃(t:Tk) (b:Bool) (q:Int),r= .tup [Tk.sv t,.v (.bool b)]/\H' =⟨[fY s q],[]⟩/\Ht s p (gJ (s.drop p)) (.tup [Tk.sv t,.v (.bool b)]) ⟨[fY s q],[]⟩
theorem VB {s:List UInt8} {p:Nat} {m m' :Mem} {r:SV} {H' :Hp} (hp:p<s.length) (h1:cM (s.getD p 0).toNat=true)
  (h:m.le m' /\r= .tup [Tk.sv ⟨if fb.contains (fu (s.drop p))=true then 2 else 1,fu (s.drop p),0,p⟩,.v (.bool (dX (fu (s.drop p))))]/\H' =⟨[fY s (p+iJ (s.drop p):Nat)],[]⟩):wu s p m r H' m' :=by
 obtain⟨hle,rfl,rfl⟩:=h;refine⟨hle,_,_,_,rfl,rfl,?_⟩;have e:gJ (s.drop p)=if dX (fu (s.drop p))=true then some (if fb.contains (fu (s.drop p))=true then 2 else 1,fu (s.drop p),0,iJ (s.drop p)) else none:=by
  rw[drop_at hp];show(if cM (s.getD p 0).toNat=true then _ else _)=_;rw[ah h1]
 rw[e];cases hn:dX (fu (s.drop p)) with
 |true=>exact⟨rfl,rfl⟩
 |false=>exact⟨_,_,rfl,rfl⟩
theorem T8 {s:List UInt8} {p:Nat} {m m' :Mem} {r:SV} {H' :Hp} (hm:m.le m') (hp:p<s.length) (h1:cM (s.getD p 0).toNat=false) (h2:dk (s.getD p 0).toNat=true)
  (h:m' =m/\r= .tup [Tk.sv ⟨if(fg (s.drop p)).1=true then 4 else 3,[],(fg (s.drop p)).2.1,p⟩,.v (.bool (fg (s.drop p)).2.2.2)]/\H' =⟨[fY s (p+(fg (s.drop p)).2.2.1:Nat)],[]⟩):wu s p m r H' m' :=by
 obtain⟨_,rfl,rfl⟩:=h;refine⟨hm,_,_,_,rfl,rfl,?_⟩;have e:gJ (s.drop p)=if(fg (s.drop p)).2.2.2=true then some (if(fg (s.drop p)).1=true then 4 else 3,[],(fg (s.drop p)).2.1,(fg (s.drop p)).2.2.1) else none:=by
  rw[drop_at hp];show(if cM (s.getD p 0).toNat=true then _ else if dk (s.getD p 0).toNat=true then _ else _)=_;rw[ae (by rw[h1];exact Bool.false_ne_true),ah h2]
 rw[e];cases hn:(fg (s.drop p)).2.2.2 with
 |true=>exact⟨rfl,rfl⟩
 |false=>exact⟨_,_,rfl,rfl⟩
theorem T7 {s:List UInt8} {p:Nat} {m m' :Mem} {r:SV} {H' :Hp} (hm:m.le m') (hp:p<s.length) (h1:cM (s.getD p 0).toNat=false) (h2:dk (s.getD p 0).toNat=false) (h3:(((s.getD p 0).toNat:Nat):Int)=34)
  (h:m' =m/\Ox s p (jx (s.drop (p+1))) r H'):wu s p m r H' m' :=by
 obtain⟨_,h⟩:=h;have e:gJ (s.drop p)=match jx (s.drop (p+1)) with
   |some (b,n)=>if b.length<=1024 then some (5,b,0,1+n) else none
   |none=>none:=by
  rw[drop_at hp];show(if cM (s.getD p 0).toNat=true then _ else if dk (s.getD p 0).toNat=true then _ else if(s.getD p 0).toNat=34 then _ else _)=_;rw[ae (by rw[h1];exact Bool.false_ne_true),ae (by rw[h2];exact Bool.false_ne_true),ah (by omega)];first |done |rfl
 unfold wu;rw[e];cases hq:jx (s.drop (p+1)) with
 |none=>
  rw[hq] at h;obtain⟨t,q,rfl,rfl⟩:=h;exact⟨hm,t,false,q,rfl,rfl,t,q,rfl,rfl⟩
 |some x=>
  obtain⟨b,n⟩:=x;rw[hq] at h;obtain⟨rfl,rfl⟩:=h;refine⟨hm,_,_,_,rfl,rfl,?_⟩;by_cases hb:b.length<=1024
  ·simp only[ah hb,bO hb];exact⟨rfl,by rw[Nat.add_assoc]⟩
  ·simp only[ae hb,bg hb];exact⟨_,_,rfl,rfl⟩
theorem VA {s:List UInt8} {p:Nat} {m m' :Mem} {r:SV} {H' :Hp} (hm:m.le m') (hp:p<s.length) (h1:cM (s.getD p 0).toNat=false) (h2:dk (s.getD p 0).toNat=false) (h3:¬(((s.getD p 0).toNat:Nat):Int)=34)
  (h:m' =m/\match o8 (s.drop p) with
   |some o=>r= .tup [Tk.sv ⟨6,o,0,p⟩,.v (.bool true)]/\H' =⟨[fY s (p+o.length)],[]⟩
   |none=>r= .tup [Tk.sv mZ,.v (.bool false)]/\H' =⟨[fY s p],[]⟩):wu s p m r H' m' :=by
 obtain⟨_,h⟩:=h;have e:gJ (s.drop p)=(o8 (s.drop p)).map fun o=>(6,o,0,o.length):=by
  rw[drop_at hp];show(if cM (s.getD p 0).toNat=true then _ else if dk (s.getD p 0).toNat=true then _ else if(s.getD p 0).toNat=34 then _ else _)=_;rw[ae (by rw[h1];exact Bool.false_ne_true),ae (by rw[h2];exact Bool.false_ne_true),ae (by omega)]
 unfold wu;rw[e];cases hq:o8 (s.drop p) with
 |none=>
  rw[hq] at h;obtain⟨rfl,rfl⟩:=h;exact⟨hm,mZ,false,p,rfl,rfl,mZ,p,rfl,rfl⟩
 |some o=>
  rw[hq] at h;obtain⟨rfl,rfl⟩:=h;exact⟨hm,_,_,_,rfl,rfl,rfl,rfl⟩
theorem Sq (s:List UInt8) (p:Nat) (m:Mem) (hg:GlobX m) (hp:p<s.length) (hs:s.length<=1000000):
  FnH Tryz.prog 125 [.box 0 0] ⟨[fY s p],[]⟩ m fun r H' m' =>wu s p m r H' m' :=by
 refine aH dL Tryz.func125 ?_
 ·simp only[go_sem];refine ly dL (by kernel_rfl) (by kernel_rfl) (by kernel_rfl) ?_;simp only[go_sem]
  refine⟨by omega,fun h1=>ab (((PH s p m hg hp hs).mono fun r H' m' hm h=>VB hp h1 h).mono ?_),fun h1=>⟨fun h2=>ab (((Qs s p m hg hp hs h2).mono fun r H' m' hm h=>T8 hm hp h1 h2 h).mono ?_),
   fun h2=>⟨fun h3=>ab (((Qm s p m hp hs).mono fun r H' m' hm h=>T7 hm hp h1 h2 h3 h).mono ?_),fun h3=>ab (((PJ s p m (by omega) hs).mono fun r H' m' hm h=>VA hm hp h1 h2 h3 h).mono ?_)⟩⟩⟩
  all_goals
   rintro r H' m' hm ⟨hle,t,b,q,rfl,rfl,hN⟩;simp only[go_sem];exact⟨hle,t,b,q,rfl,rfl,hN⟩
theorem WG {s:List UInt8} {p:Nat} {o:Option (Int×List UInt8×Int×Nat)} {t:Tk} {q:Int} (h:Ht s p o (.tup [Tk.sv t,.v (.bool false)]) ⟨[fY s q],[]⟩):o=none:=by
 cases o with
 |none=>rfl
 |some x=>
  obtain⟨k,tt,n,len⟩:=x;have h1:=h.1;simp at h1
theorem UW {s:List UInt8} {p:Nat} {o:Option (Int×List UInt8×Int×Nat)} {t:Tk} {q:Int} (h:Ht s p o (.tup [Tk.sv t,.v (.bool true)]) ⟨[fY s q],[]⟩):
  ∃k tt n len,o=some (k,tt,n,len)/\t=⟨k,tt,n,p⟩/\q=(p+len:Nat):=by
 cases o with
 |none=>
  obtain⟨t',q',h1,_⟩:=h;simp at h1
 |some x=>
  obtain⟨k,tt,n,len⟩:=x;obtain⟨h1,h2⟩:=h;obtain⟨tk,ts,tn,ta⟩:=t;simp only[Tk.sv,Tk.cells,SV.tup.injEq,List.cons.injEq,SV.agg.injEq,SV.v.injEq,Value.int.injEq,Value.string.injEq,true_and,and_true] at h1;simp only[Hp.mk.injEq,List.cons.injEq,Bx.mk.injEq,SV.v.injEq,Value.int.injEq,true_and,and_true] at h2;obtain⟨rfl,h12,rfl,rfl⟩:=h1;have:=xR h12;subst this;exact⟨_,_,_,_,rfl,rfl,h2⟩
theorem Ei (s:List UInt8) (m:Mem) (hg:GlobX m) (hs:s.length<=4611686018427387904):
  FnH Tryz.prog 48 [.v (.string (bs s))] ⟨[],[]⟩ m fun r H' m' =>ak m m' /\uH (aD s) r H' :=by
 refine aH dL Tryz.func48 ?_
 ·simp only[go_sem];refine⟨fun h=> ?_,fun h=> ?_⟩
  ·have e:aD s=([],0,8):=ah (by omega);rw[e];exact .inr ⟨by decide,rfl,rfl,rfl⟩
  ·refine qV 5 50 4 (by decide) rfl ?_;have Bg:aD s=mG s (s.length+1) 0 []:=ae (by omega);refine cK dL (fun x:Nat×List Tk×Nat×Mem=>⟨[⟨0,[],.v (.string (bs s))⟩,⟨5,[],.vec 1 x.2.2.1⟩,⟨6,[],.box 0 0⟩],[],[fY s x.1],[⟨1,x.2.2.1,50,4,x.2.1.length,cG x.2.1⟩],2,x.2.2.2⟩)
    (fun x=>ak m x.2.2.2/\GlobX x.2.2.2/\x.1<=s.length/\x.2.1.length<=5000/\∃f,s.length - x.1<f/\aD s=mG s f x.1 x.2.1) (fun x=>s.length - x.1) (0,[],0,m) (fun _ _=>aq _) (fun x hx=>hx.1) ?_ ?_ ?_
   ·simp only[go_sem];exact⟨rfl,rfl⟩
   ·exact⟨.inl rfl,hg,au _,au _,s.length+1,by simp only;omega,Bg⟩
   ·rintro⟨p,acc,u,mm⟩ ⟨h1,h2,h3,h4,f,h5,h6⟩;simp only at h1 h2 h3 h4 h5 h6;obtain⟨f,rfl⟩:∃g,f=g+1:=⟨f - 1,by omega⟩;simp only[mG] at h6;have HI:=vx false (s.drop p);rw[cj] at HI;have jr:=RD s p mm h3 (by omega);obtain⟨q,hq⟩:∃q,p+cP false (s.drop p)=q:=⟨_,rfl⟩;rw[hq] at h6 jr;have hqs:q<=s.length:=by omega
    simp only[go_sem];refine ab (jr.mono ?_);rintro r H' m' hm ⟨rfl,rfl,rfl⟩;clear jr;simp only[go_sem];refine⟨fun cA=>⟨h1,?_⟩,fun ao=>⟨fun aez=>⟨h1,?_⟩,fun aeI=>ab ((Sq s q m' h2 (by omega) (by omega)).mono ?_)⟩⟩
    ·rw[h6,ah (by omega)];exact .inl ⟨rfl,_,_,rfl,rfl⟩
    ·rw[h6,ae (by omega),ah (by omega)];exact .inr ⟨by decide,rfl,rfl,rfl⟩
    ·rintro r H' iI aG ⟨hle,t,b,qq,rfl,rfl,hN⟩;simp only[go_sem,Tk.sv,Tk.cells];have Bn:ak m iI:=Fh h1 hle;refine⟨fun hb=>⟨Bn,?_⟩,fun hb=>⟨⟨by omega,by simp only[maxLen];omega⟩,?_⟩⟩
     ·have ht:=WG (hb▸hN);rw[h6,ae (by omega),ae (by omega),ht];exact .inr ⟨by simp,rfl,rfl,rfl⟩
     ·obtain⟨k,tt,n,len,ht,e1,e2⟩:=UW (hb▸hN);rw[ht] at h6;rw[ae (by omega),ae (by omega)] at h6;have hlen:=FA ht;rw[cj] at hlen;refine⟨(q+len,acc++[t],u+1,iI),⟨rfl,e2,⟨rfl,by simp,IG acc t⟩,.inl rfl⟩,⟨Bn,h2.up hle,by simp only;omega,by simp only[bY,fI];omega,f,by simp only;omega,?_⟩,by simp only;omega⟩;rw[h6,e1]
end Go.Proofs.YtimddhkipjedcaaGreatDoor.E
namespace Go.Proofs.YtimddhkipjedcaaGreatDoor.E
open Go Go.ChangeShapes Go.WideShapes Go.ChangeAt Go.RowKit
theorem NG: "*" ++ "errors.errorString" = "*errors.errorString" :=by decide
theorem uA (u:TypeId) (h:Tryz.prog.typeName? 3 u=some "*errors.errorString"):u=237:=
 typeName_ptr_named (nm:= "errors.errorString") (by rw[NG];kernel_rfl) (by kernel_rfl) (by decide) u (by rw[NG];exact h)
theorem Uj {W:World} (Pk:laidMetH Tryz.prog xY W) (hs:W.ShapedOpen Tryz.prog):GlobX ⟨W,ku W⟩:=by
 have hg:=VL Pk hs;have hL:=Pk;rw[MakeChecks.laidMetH_plain _ _ _ (by kernel_rfl)] at hL;have h3:=hL.tail.tail;have ht:=Lib.tabIs_of_head (P:=Tryz.prog) (zs:=Lib.pow10Tab) (g:=6) (t:=250) (e:=217) (n:=20) (by kernel_rfl) (by kernel_rfl) (by kernel_rfl) (by kernel_rfl) (by kernel_rfl) (by kernel_rfl) h3;obtain⟨a5,_,v5,_⟩:=laid_sentinel (P:=Tryz.prog) (g:=3) (ti:=195) (tp:=237) (te:=239) (ts:=9) h3.tail.tail (by kernel_rfl) (by kernel_rfl) Tryz.underlying195 uA Tryz.underlying237 Tryz.underlying239 rfl rfl (by kernel_rfl) (by kernel_rfl) (by kernel_rfl);obtain⟨a4,_,v4,_⟩:=laid_sentinel (P:=Tryz.prog) (g:=2) (ti:=195) (tp:=237) (te:=239) (ts:=9) h3.tail.tail.tail (by kernel_rfl) (by kernel_rfl) Tryz.underlying195 uA Tryz.underlying237 Tryz.underlying239 rfl rfl (by kernel_rfl) (by kernel_rfl) (by kernel_rfl);obtain⟨k,hk⟩:=g1 W hs;refine⟨hg,fun w D hle=> ?_⟩;exact⟨⟨k,CI hle hk⟩,⟨_,_,CI hle (by rw[World.var?_cell (by kernel_rfl) v4 0];rfl)⟩,⟨_,_,CI hle (by rw[World.var?_cell (by kernel_rfl) v5 0];rfl)⟩,MG hle ht⟩
theorem QV {H:Type} {enc:TypeId×Value->H} {a:Assume} {C:Checked} {os:Os} {f:FuncId} {fn:Func} {s:ChangeSpec} {conds:List PathCond} {apart fresh handsOn again:Bool} {X:World->Array Value->Prop}
  (hX:∀(w w' :World) (args:Array Value),w.heap=w'.heap->X w args->X w' args)
  (own:ownKnob C.prog.godebug=none) (started:os.Started) (Xh:C.prog.inits.idxOf? f=none) (gm:C.prog.funcs[f]? =some fn)
  (witness:∃(w:World) (tape:Tape) (i:Input),w.os=os/\(w.forCall tape i).Shaped C.prog/\i.vars=[]/\Input.okWide C.prog (w.forCall tape i) .any w.heap.size f i/\
   ((s.pre enc C.prog fn conds apart (w.forCall tape i).memory i.args/\X (w.forCall tape i).memory i.args)/\sizedMet enc C.prog fn (OpenSpec.ofChange s) apart (w.forCall tape i).memory i.args)/\a.holds C.prog (lone (Frame.enter C.prog f i.args .normal) [] (w.forCall tape i)))
  (UE:∀(W:World) (base:Nat) (args:Array Value) (ds gs:List (DataW H)) (before:List MemPlace),
   (∀(j:Nat) t v,fn.params[j]? =some t->args[j]? =some v->Value.okWide C.prog W .any base t v)->
   DataW.Whole enc C.prog fn.params.toList s.vars apart W args.toList ds gs before->X W args->W.ShapedOpen C.prog->
   (DataW.weightsEach C.prog (fn.params.toList++s.plain.varTypes C.prog) (ds++gs)).all (· <=reachBytes)=true->
   Calls C.prog f args W fun e W' =>∃v,e= .returned v/\s.post enc C.prog fn apart fresh handsOn again W args v W'):
  ReturnsInHanded a C os f .any (fun w args=>(s.pre enc C.prog fn conds apart w args/\X w args)/\sizedMet enc C.prog fn (OpenSpec.ofChange s) apart w args) (s.post enc C.prog fn apart fresh handsOn again):=by
 refine returnsInHanded_of_calls own started Xh witness ?_;intro w tape i _ wH _ av abi aex;obtain⟨_,_,_,fn',hfn',_,_,_,_,wb⟩:=av;have e:fn' =fn:=Option.some.inj (hfn'.symm.trans gm);subst e;obtain⟨⟨⟨ds,gs,before,hw,hc⟩,hx⟩,hz⟩:=abi;have Be:=DataW.Whole.of_heap (w' :=w.forCall tape i) (by rfl) hw;refine(UE (w.forCall tape i) w.heap.size i.args ds gs before wb Be (hX _ _ _ (by rfl) hx) wH (hz.weights hw)).mono fun e W' ⟨v,he,hp⟩=> ?_
 subst he;exact ChangeSpec.post_blind hp
theorem WJ:eV Tryz.prog 62=some [.v (.slice none 0 0),.v (.int .i64 0),.v (.int .i64 0),.v (.bool false),.v (.int .i64 0)]:=by kernel_rfl
theorem Zr:dY Tryz.prog 62=some (some 5):=by kernel_rfl
theorem ZT:bf Tryz.prog 62=5:=by kernel_rfl
theorem VZ:b7 Tryz.prog 62 0=some (0,none,1):=by kernel_rfl
theorem VY:b7 Tryz.prog 62 1=some (1,none,1):=by kernel_rfl
theorem VX:b7 Tryz.prog 62 2=some (2,none,1):=by kernel_rfl
theorem VW:b7 Tryz.prog 62 3=some (3,none,1):=by kernel_rfl
theorem VV:b7 Tryz.prog 62 4=some (4,none,1):=by kernel_rfl
theorem Zf:mD Tryz.prog 62=true:=by kernel_rfl
theorem Zn:dY Tryz.prog 45=some none:=by kernel_rfl
theorem Zz:dY Tryz.prog 4=some none:=by kernel_rfl
theorem Z1:bf Tryz.prog 4=1:=by kernel_rfl
attribute [go_sem] Zz Z1 Zn WJ Zr ZT VZ VY VX VW VV Zf dG
structure PSt where
 i:Nat
 fl:Bool
 off:Int
abbrev pH (ts:List Tk) (en:Int) (s:PSt):Hp:=⟨[⟨0,62,[.vec 1 0,.v (.int .i64 s.i),.v (.int .i64 en),.v (.bool s.fl),.v (.int .i64 s.off)]⟩],[⟨1,0,50,4,ts.length,cG ts⟩]⟩
abbrev OC (t:Tk):SV:= .agg [.v (.int .i64 t.k),.v (.string (bs t.s)),.v (.int .i64 t.n),.v (.int .i64 t.at_)]
def zT:Tk:=⟨0,[],0,0⟩
def aP (ts:List Tk) (i:Nat):Tk:=ts.getD i zT
theorem zn {ts:List Tk} {i:Nat} (h:i<ts.length):((cG ts).drop (i * 4)).take 4=dG (aP ts i):=by
 induction ts generalizing i with
 |nil=>cases h
 |cons t r ih=>
  cases i with
  |zero=>simp [cG,dG,aP]
  |succ i=>
   have:=ih (i:=i) (by simpa using h);have e:cG (t::r)=dG t++cG r:=by simp [cG,dG]
   have e2:aP (t::r) (i+1)=aP r i:=rfl;rw[e2,e,show(i+1) * 4=4+i * 4 by omega,<- List.drop_drop];exact this
theorem xt (ts:List Tk) (en:Int) (s:PSt) (m:Mem) (hn:ts.length<=100000000):FnH Tryz.prog 151 [.box 0 0] (pH ts en s) m fun r H' _=>r=OC (aP ts s.i)/\H' =pH ts en s:=by
 refine aH aw Tryz.func151 ?_
 ·simp only[go_sem];refine cw (.hoist 0 (.hoist 1 (.hoist 2 (.hoist 3 (.hoist 4 (.hoist 5 (.hoist 6 (.hoist 7 (.hoist 8 (.hoist 9 .done)))))))))) aw (by kernel_rfl) (by kernel_rfl) ?_;simp only[go_sem];refine⟨fun h=> ?_,fun h=> ?_⟩
  ·have hi:s.i<ts.length:=by omega
   have hc:=zn hi;refine cw (.hoist 0 (.hoist 1 (.hoist 2 (.hoist 3 (.hoist 4 (.hoist 5 (.hoist 6 (.hoist 7 (.hoist 8 (.hoist 9 (.alt 10 [] .done .stop))))))))))) aw (by kernel_rfl) (by kernel_rfl) ?_;simp only[go_sem,hc];exact⟨⟨by omega,h⟩,by have:(cG ts).length=ts.length * 4:=CW ts;omega⟩
  ·have:aP ts s.i=zT:=by rw[aP,List.getD_eq_getElem?_getD,List.getElem?_eq_none (by omega)];rfl
   rw[this];rfl
def ai (ts:List Tk) (i:Nat) (w:List UInt8):Bool:=(decide ((aP ts i).k=2)||decide ((aP ts i).k=6))&&decide ((aP ts i).s=w)
theorem Cq (ts:List Tk) (en:Int) (s:PSt) (w:List UInt8) (m:Mem) (hn:ts.length<=100000000):FnH Tryz.prog 74 [.box 0 0,.v (.string (bs w))] (pH ts en s) m fun r H' m' =>ak m m' /\r= .v (.bool (ai ts s.i w))/\H' =pH ts en s:=by
 have hp:=xt ts en s m hn;refine aH aw Tryz.func74 ?_
 ·simp only[go_sem];refine ab (hp.mono ?_);clear hp;rintro r H' m1 aJ ⟨rfl,rfl⟩;simp only[go_sem];exact⟨.inr aJ,rfl⟩
def jy (ts:List Tk) (en:Int) (s:PSt):PSt:=if s.fl=true then s else⟨ts.length,true,if s.i<ts.length then(aP ts s.i).at_ else en⟩
theorem XU {ts:List Tk} {i:Nat} (h:i<ts.length):(cG ts).getD (i * 4+3) undef= .int .i64 (aP ts i).at_:=by
 have:=congrArg (fun l=>l[3]?) (zn h);simp only[List.getElem?_take,List.getElem?_drop] at this;rw[ah (by decide)] at this;rw[List.getD_eq_getElem?_getD,this];rfl
theorem zi (ts:List Tk) (en:Int) (s:PSt) (m:Mem) (hn:ts.length<=100000000):FnH Tryz.prog 32 [.box 0 0] (pH ts en s) m fun r H' m' =>r= .tup []/\m' =m/\H' =pH ts en (jy ts en s):=by
 refine aH aw Tryz.func32 ?_
 ·simp only[go_sem];refine⟨fun h=>by rw[jy,ah h],fun h=> ?_⟩;have h' :¬s.fl=true:=by rw[h];decide
  refine cw (.hoist 0 (.hoist 1 (.hoist 2 (.hoist 3 (.hoist 4 (.hoist 5 (.hoist 6 (.hoist 7 (.hoist 8 (.hoist 9 .done)))))))))) aw (by kernel_rfl) (by kernel_rfl) ?_;simp only[go_sem];refine⟨fun hi=> ?_,fun hi=> ?_⟩
  ·have jq:s.i<ts.length:=by omega
   have hc:=XU jq;refine cw (.hoist 0 (.hoist 1 (.hoist 2 (.hoist 3 (.hoist 4 (.hoist 5 (.hoist 6 (.hoist 7 (.hoist 8 (.hoist 9 (.hoist 10 (.hoist 11 (.hoist 12 (.hoist 13 (.alt 14 [] .done .stop))))))))))))))) aw (by kernel_rfl) (by kernel_rfl) ?_;simp only[go_sem,hc];have hl:=CW ts;rw[jy,ae h',ah jq];exact⟨⟨by omega,hi⟩,by omega,by omega,rfl⟩
  ·have jq:¬s.i<ts.length:=by omega
   rw[jy,ae h',ae jq]
def PSt.next (s:PSt):PSt:=⟨s.i+1,s.fl,s.off⟩
theorem aN {ts:List Tk} {i:Nat} {w:List UInt8} (h:ai ts i w=true):i<ts.length:=by
 by_cases hi:i<ts.length
 ·exact hi
 ·have e:aP ts i=zT:=by rw[aP,List.getD_eq_getElem?_getD,List.getElem?_eq_none (by omega)];rfl
  rw[ai,e] at h;simp [zT] at h
theorem rT (ts:List Tk) (en:Int) (s:PSt) (w:List UInt8) (m:Mem) (hn:ts.length<=100000000):FnH Tryz.prog 49 [.box 0 0,.v (.string (bs w))] (pH ts en s) m fun r H' m' =>ak m m' /\r= .v (.bool (ai ts s.i w))/\H' =pH ts en (if ai ts s.i w=true then s.next else s):=by
 have hp:=Cq ts en s w m hn;have ao:=aN (ts:=ts) (i:=s.i) (w:=w);refine aH aw Tryz.func49 ?_
 ·simp only[go_sem];refine ab (hp.mono ?_);clear hp;rintro r H' m1 aJ ⟨l1,rfl,rfl⟩;simp only[go_sem];refine⟨fun h=>⟨l1,?_⟩,fun h=> ?_⟩
  ·rw[h];exact⟨rfl,rfl⟩
  ·have hi:=ao h;rw[h];exact⟨by unfold ax;omega,l1,rfl,rfl⟩
theorem Qy (ts:List Tk) (en:Int) (s:PSt) (w:List UInt8) (m:Mem) (hn:ts.length<=100000000):FnH Tryz.prog 52 [.box 0 0,.v (.string (bs w))] (pH ts en s) m fun r H' m' =>ak m m' /\r= .tup []/\H' =pH ts en (if ai ts s.i w=true then s.next else jy ts en s):=by
 have hp:=rT ts en s w m hn;have hf:=fun m' =>zi ts en s m' hn
 refine aH aw Tryz.func52 ?_
 ·simp only[go_sem];refine ab (hp.mono ?_);clear hp;rintro r H' m1 aJ ⟨l1,rfl,rfl⟩;cases h:ai ts s.i w with
  |true=>
   clear hf;simp only[go_sem];exact l1
  |false=>
   simp only[go_sem];refine ab ((hf m1).mono ?_);clear hf;rintro r H' m2 aG ⟨rfl,rfl,rfl⟩;simp only[go_sem];exact l1
theorem Wt {k:IntKind} {n:Int} {x:Value} (h:mJ (.v (.int k n)) (.v x)=true):∃a,x= .int k a:=by
 cases x<;>simp only[mJ] at h;case int k' a=>exact⟨a,by have:=of_decide_eq_true h;subst this;rfl⟩
 all_goals cases h
theorem Ws {s:ByteArray} {x:Value} (h:mJ (.v (.string s)) (.v x)=true):∃a,x= .string a:=by
 cases x<;>simp only[mJ] at h;case string a=>exact⟨a,rfl⟩
 all_goals cases h
theorem eq_int {k:IntKind} {a:Int} {y:Value} {e:Bool} (h:mr (.v (.int k a)) (.v y)=some e):∃b,y= .int k b/\e=decide (a=b):=by
 cases y<;>simp only[mr] at h;case int k' b=>
  split at h
  ·rename_i hk;subst hk;exact⟨b,rfl,(Option.some.inj h).symm⟩
  ·cases h
 all_goals cases h
theorem XQ {a:ByteArray} {y:Value} {e:Bool} (h:mr (.v (.string a)) (.v y)=some e):∃b,y= .string b/\e=decide (tl a=tl b):=by
 cases y<;>simp only[mr] at h;case string b=>exact⟨b,rfl,(Option.some.inj h).symm⟩
 all_goals cases h
theorem SE {z:SV} {zs:List SV} {xs:List Value} (h:kG (z::zs) (xs.map .v)=true):∃x r,xs=x::r/\mJ z (.v x)=true/\kG zs (r.map .v)=true:=by
 cases xs with
 |nil=>simp [kG] at h
 |cons x r=>simp only[bh,kG,cO] at h;exact⟨x,r,rfl,h.1,h.2⟩
theorem Uq {xs:List Value} (h:kG [] (xs.map .v)=true):xs=[]:=by
 cases xs with
 |nil=>rfl
 |cons x r=>simp [kG] at h
theorem RB {x:Value} {xs ys:List Value} {b:Bool} (h:jc ((x::xs).map .v) (ys.map .v)=some b):∃y r e e',ys=y::r/\mr (.v x) (.v y)=some e/\jc (xs.map .v) (r.map .v)=some e' /\b=(e&&e'):=by
 cases ys with
 |nil=>simp [jc] at h
 |cons y r=>
  simp only[bh,jc,Option.bind_eq_some_iff,Option.map_eq_some_iff] at h;obtain⟨e,he,e',qO,rfl⟩:=h;exact⟨y,r,e,e',rfl,he,qO,rfl⟩
theorem SM {ys:List Value} {b:Bool} (h:jc [] (ys.map .v)=some b):ys=[]/\b=true:=by
 cases ys with
 |nil=>simp only[List.map_nil,jc,de] at h;exact⟨rfl,h.symm⟩
 |cons y r=>simp [jc] at h
def kindOk (P:Program) (t:TypeId):SV->Bool
 | .v (.int _ _)=>match P.underlying t with |some (.int _)=>true |_=>false
 | .v (.string _)=>match P.underlying t with |some .string=>true |_=>false
 | .v (.bool _)=>match P.underlying t with |some .bool=>true |_=>false
 |_=>false
def DN (P:Program):Nat->List SV->List Field->Bool
 |_,[],[]=>true
 |off,z::zs,f::fs=>f.name != "_" &&decide (f.offset=off)&&decide (dY P f.type=some none)&&kindOk P f.type z&&DN P (off+1) zs fs
 |_,_,_=>false
theorem QR {P:Program} {t:TypeId} {z:SV} {x y:Value} {e:Bool} {w:World} (d:Nat) (hk:kindOk P t z=true) (hf:mJ z (.v x)=true) (he:mr (.v x) (.v y)=some e):
  (Op.equalIn (d+1) t x y).run P w= .ok e w:=by
 cases z with
 |v z=>
  cases z with
  |int k n=>
   obtain⟨a,rfl⟩:=Wt hf;obtain⟨b,rfl,rfl⟩:=eq_int he;simp only[kindOk] at hk;split at hk
   ·rename_i k' hu;rw[run_equalIn_int w d t k k' a b hu,Bool.beq_eq_decide_eq]
   ·cases hk
  |string n=>
   obtain⟨a,rfl⟩:=Ws hf;obtain⟨b,rfl,rfl⟩:=XQ he;simp only[kindOk] at hk;split at hk
   ·rename_i hu;rw[run_equalIn_string w d t a b hu,xq,xq,Bool.beq_eq_decide_eq]
   ·cases hk
  |bool n=>
   cases x<;>simp only[mJ] at hf;case bool a=>
    cases y<;>simp only[mr] at he;case bool b=>
     cases he;simp only[kindOk] at hk;split at hk
     ·rename_i hu;rw[run_equalIn_bool' w d t a b hu]
     ·cases hk
    all_goals cases he
   all_goals cases hf
  |_=>cases hk
 |_=>cases hk
theorem KE {P:Program} {d:Nat} {w:World} {cs ds:List Value}:∀{fs:List Field} {zs:List SV} {off:Nat} {us vs:List Value} {b:Bool},
  DN P off zs fs=true->kG zs (us.map .v)=true->jc (us.map .v) (vs.map .v)=some b->cs.drop off=us->ds.drop off=vs->(Op.eqFields (d+1) ⟨cs⟩ ⟨ds⟩ fs).run P w= .ok b w
 |[],zs,off,us,vs,b,h,hf,he,hu,hv=>by
  cases zs with
  |nil=>
   cases Uq hf;rw[List.map_nil] at he;obtain⟨_,rfl⟩:=SM he;rfl
  |cons z zs=>cases h
 |f::fs,zs,off,us,vs,b,h,hf,he,hu,hv=>by
  cases zs with
  |nil=>cases h
  |cons z zs=>
   simp only[DN,cO,gA,bne_iff_ne] at h;obtain⟨⟨⟨⟨h1,h2⟩,h3⟩,h4⟩,h5⟩:=h;obtain⟨x,us',rfl,g1,g2⟩:=SE hf;obtain⟨y,vs',e,e',rfl,g3,g4,rfl⟩:=RB he;have hx:cs[off]? =some x:=by
    have:=congrArg (fun l:List Value=>l[0]?) hu;simpa using this
   have hy:ds[off]? =some y:=by
    have:=congrArg (fun l:List Value=>l[0]?) hv;simpa using this
   have HG:cs.drop (off+1)=us' :=by
    have:=congrArg (List.drop 1) hu;rw[List.drop_drop] at this;simpa [Nat.add_comm] using this
   have hv' :ds.drop (off+1)=vs' :=by
    have:=congrArg (List.drop 1) hv;rw[List.drop_drop] at this;simpa [Nat.add_comm] using this
   subst h2;simp only[Op.eqFields,ah h1,Sem.run_bind,FC h3 (show _ from hx),FC h3 (show _ from hy),Result.andThen_ok,QR d h4 g1 g3];cases e with
   |false=>simp
   |true=>
    simp only[Bool.not_true,Bool.false_eq_true,if_false,Bool.true_and];exact KE h5 g2 g4 HG hv'
theorem Mv {P:Program} {t:TypeId} {zs:List SV} {fs:List Field} (hz:eV P t=some zs) (hg:P.eqGuardType P.depth t=false) (hu:P.underlying t=some (.struct (P.fieldsOf t))) (hp:P.stoodInHeld t=false)
  (HZ:(P.fieldsOf t).toList=fs) (h:DN P 0 zs fs=true):yx P t:=by
 intro xs ys b w o o' op he hf;rw[hz] at hf;refine⟨run_eqGuard_agg w op t o o' _ _ hg,?_⟩;show(Op.equalIn (9999+1) t _ _).run _ w=_;rw[run_equalIn_struct w 9999 t _ _ hu hp,HZ];exact KE (d:=9998) h hf he rfl rfl
theorem ab8:dY Tryz.prog 4=some none:=by kernel_rfl
theorem sz4:bf Tryz.prog 4=1:=by kernel_rfl
theorem ab4:dY Tryz.prog 30=some (some 3):=by kernel_rfl
theorem ZQ:bf Tryz.prog 30=3:=by kernel_rfl
theorem NB:eV Tryz.prog 30=some [.v (.int .i64 0),.v (.int .u8 0),.v (.string (bs []))]:=by kernel_rfl
theorem XF:b7 Tryz.prog 30 0=some (0,none,1):=by kernel_rfl
theorem XE:b7 Tryz.prog 30 1=some (1,none,1):=by kernel_rfl
theorem XD:b7 Tryz.prog 30 2=some (2,none,1):=by kernel_rfl
theorem abZ:mD Tryz.prog 30=true:=by kernel_rfl
theorem qi:yx Tryz.prog 30:=Mv NB (by kernel_rfl) (by kernel_rfl) (by kernel_rfl) rfl (by kernel_rfl)
theorem ab3:dY Tryz.prog 33=some (some 8):=by kernel_rfl
theorem szX:bf Tryz.prog 33=8:=by kernel_rfl
theorem X3:eV Tryz.prog 33=some [.v (.int .i64 0),.v (.int .i64 0),.v (.string (bs [])),.v (.string (bs [])),.v (.int .i64 0),.v (.int .u8 0),.v (.string (bs [])),.v (.slice none 0 0)]:=by kernel_rfl
theorem XC:b7 Tryz.prog 33 0=some (0,none,1):=by kernel_rfl
theorem XB:b7 Tryz.prog 33 1=some (1,none,1):=by kernel_rfl
theorem XA:b7 Tryz.prog 33 2=some (2,none,1):=by kernel_rfl
theorem Xz:b7 Tryz.prog 33 3=some (3,none,1):=by kernel_rfl
theorem Xy:b7 Tryz.prog 33 4=some (4,some 3,3):=by kernel_rfl
theorem Xx:b7 Tryz.prog 33 5=some (7,none,1):=by kernel_rfl
theorem abY:mD Tryz.prog 33=true:=by kernel_rfl
theorem Zv:dY Tryz.prog 31=some none:=by kernel_rfl
theorem ZX:bf Tryz.prog 31=1:=by kernel_rfl
theorem abL:gV Tryz.prog 31=some 33:=by kernel_rfl
theorem Zu:dY Tryz.prog 55=some none:=by kernel_rfl
theorem ab5:dY Tryz.prog 165=some (some 5):=by kernel_rfl
theorem szS:bf Tryz.prog 165=5:=by kernel_rfl
theorem X4:eV Tryz.prog 165=some [.v (.bool false),.v (.bool false),.v (.bool false),.v (.int .i64 0),.v (.int .i64 0)]:=by kernel_rfl
theorem XK:b7 Tryz.prog 165 0=some (0,none,1):=by kernel_rfl
theorem XJ:b7 Tryz.prog 165 1=some (1,none,1):=by kernel_rfl
theorem XI:b7 Tryz.prog 165 2=some (2,none,1):=by kernel_rfl
theorem XH:b7 Tryz.prog 165 3=some (3,none,1):=by kernel_rfl
theorem XG:b7 Tryz.prog 165 4=some (4,none,1):=by kernel_rfl
theorem ab0:mD Tryz.prog 165=true:=by kernel_rfl
attribute [go_sem] ab8 sz4 ab4 ZQ NB XF XE XD abZ ab3 szX X3 XC XB XA Xz Xy Xx abY Zv ZX abL Zu ab5 szS X4 XK XJ XI XH XG ab0
def ei:List UInt8:=[60,105,110,105,116,62]
def vD:List UInt8:=[60,99,108,105,110,105,116,62]
def oH (s:List UInt8):Bool:=decide (s=ei)||decide (s=vD)||(dX s&&decide (Lib.indexByte s 47<0))
def dZ (s:List UInt8):Bool:=oH s&&decide (s.getD 0 0≠60)&& !dz s&& !fb.contains s
theorem Ro (s:List UInt8) (m:Mem) (hs:BL s):FnH Tryz.prog 208 [.v (.string (bs s))] ⟨[],[]⟩ m fun r H' _=>r= .v (.bool (oH s))/\H' =⟨[],[]⟩:=by
 refine aH Hw Tryz.func208 ?_
 ·simp only[go_sem];refine⟨fun h=> ?_,fun h=>⟨hs,fun h1=>ab ((IA s 47 m).mono ?_),fun h1=> ?_⟩⟩
  ·simp only[oH,ei,vD];rcases h with h |h<;>simp [h]
  ·rintro r H' m' hm ⟨rfl,rfl⟩;simp only[go_sem];have h2:=h.1;have h3:=h.2;simp [oH,ei,vD,h1,h2,h3]
  ·have h2:=h.1;have h3:=h.2;simp [oH,ei,vD,h1,h2,h3]
abbrev cfM:Cfg:=fh (fun _=>false) [(208,eB BL fun s=> .bool (oH s)),(192,eB BL fun s=> .bool (dX s)),(134,eB BL fun s=> .bool (dz s))]
theorem OG:cd cfM Tryz.prog:=pure_cons (by kernel_rfl) (ff Ro) (pure_cons (by kernel_rfl) (ff EC) (pure_cons (by kernel_rfl) (ff zb) pure_nil))
theorem Li {s:List UInt8} (h:oH s=true):0<s.length:=by
 cases s with
 |nil=>simp [oH,ei,vD,dX,fS] at h
 |cons a r=>simp
theorem EP (s:List UInt8) (m:Mem) (hs:BL s):FnH Tryz.prog 155 [.v (.string (bs s))] ⟨[],[]⟩ m fun r H' _=>r= .v (.bool (dZ s))/\H' =⟨[],[]⟩:=by
 refine aH OG Tryz.func155 ?_
 ·simp only[go_sem];have e:∀u:UInt8,((u.toNat:Int)=60)=(u=60):=fun u=>propext ⟨fun h=>UInt8.toNat_inj.1 (by have:(60:UInt8).toNat=60:=rfl;omega),fun h=>by rw[h];rfl⟩
  simp only[e];refine⟨hs,fun h=>⟨by omega,by have:=Li h;omega⟩,fun _=>hs,fun h=>ab ((Ek m).mono ?_),fun h=> ?_⟩
  ·rintro r H' m' hm ⟨rfl,rfl,rfl⟩;simp only[go_sem];refine⟨by kernel_rfl,fun a c m1 aJ hc bP=>cE ((xb fb s a 28 c m1 bP (by omega)).mono ?_)⟩;rintro r H' m' aG ⟨rfl,rfl⟩;have h1:=h.1.1;have h2:=h.1.2;have h3:=h.2;generalize hb:fb.contains s=kb
   simp only[go_sem];rw[dZ,h1,h3,hb,bO h2];rfl
  ·rw[dZ];rcases h with (h |h) |h
   ·simp [h]
   ·have:decide (s.getD 0 0≠60)=false:=by rw[h];rfl
    rw[this];simp
   ·simp [h]
def r8 (d b:Int) (s:List UInt8):Bool:=if d<0\/8<d then false else if b=73\/b=74 then decide (s=[]) else if b=86 then decide (d=0)&&decide (s=[]) else if b=76 then dX s else false
def gg (d b:Int) (s:List UInt8):Bool:=r8 d b s&&decide (b≠86)&&(decide (b≠76)||dz s)
def qD (F:Int->Int->List UInt8->Bool):List Value->Option (Prop×Value)
 |[.agg ⟨[.int .i64 d,.int .u8 b,.string s]⟩]=>some (BL (tl s),.bool (F d b (tl s)))
 |_=>none
attribute [go_sem] qD.eq_1
theorem tS {P:Program} {f:FuncId} {F:Int->Int->List UInt8->Bool} (h:∀d b a m,BL a->FnH P f [.v (.agg ⟨[.int .i64 d,.int .u8 b,.string (bs a)]⟩)] ⟨[],[]⟩ m fun r H' _=>r= .v (.bool (F d b a))/\H' =⟨[],[]⟩):nJ P f (qD F):=fun b5 y hy hB m=>by
 unfold qD at hy;split at hy
 ·rename_i d b a;cases hy;have:=h d b (tl a) m hB;rwa [la] at this
 ·cases hy
theorem QI (d b:Int) (s:List UInt8) (m:Mem) (hs:BL s):FnH Tryz.prog 211 [.v (.agg ⟨[.int .i64 d,.int .u8 b,.string (bs s)]⟩)] ⟨[],[]⟩ m fun r H' _=>r= .v (.bool (r8 d b s))/\H' =⟨[],[]⟩:=by
 refine aH OG Tryz.func211 ?_
 ·simp only[go_sem];refine⟨fun h=>by simp only[r8,ah h],fun h=> ?_⟩;have h0:¬(d<0\/8<d):=fun h' =>h'.elim h.1 h.2
  simp only[r8,ae h0];refine⟨fun h1=> ?_,fun h1=> ?_⟩
  ·simp [h1]
  ·refine⟨fun h2=>by simp [h2],fun h2=> ?_⟩;refine⟨fun h3=>by simp [h3],fun h3=>⟨fun h4=>⟨hs,by simp [h4]⟩,fun h4=>by simp [h1,h2,h3,h4]⟩⟩
abbrev cfT:Cfg:=fh (fun _=>false) [(211,qD r8),(134,eB BL fun s=> .bool (dz s))]
theorem puT:cd cfT Tryz.prog:=pure_cons (by kernel_rfl) (tS QI) (pure_cons (by kernel_rfl) (ff zb) pure_nil)
theorem EI (d b:Int) (s:List UInt8) (m:Mem) (hs:BL s):FnH Tryz.prog 157 [.v (.agg ⟨[.int .i64 d,.int .u8 b,.string (bs s)]⟩)] ⟨[],[]⟩ m fun r H' _=>r= .v (.bool (gg d b s))/\H' =⟨[],[]⟩:=by
 refine aH puT Tryz.func157 ?_
 ·simp only[go_sem];refine⟨hs,fun _=>hs,?_⟩;simp [gg]
def ov (c:UInt8):Bool:=decide (c.toNat=10)||(decide (32<=c.toNat)&&decide (c.toNat<=126))
def p8 (s:List UInt8):Bool:=s.all ov&&decide (s.length<=1024)
theorem Q9 (s:List UInt8) (m:Mem) (hs:BL s):FnH Tryz.prog 210 [.v (.string (bs s))] ⟨[],[]⟩ m fun r H' _=>r= .v (.bool (p8 s))/\H' =⟨[],[]⟩:=by
 refine aH mQ Tryz.func210 ?_
 ·simp only[go_sem];refine cK mQ (fun k:Nat=>⟨[⟨0,[],.v (.string (bs s))⟩,⟨6,[],.v (.int .i64 s.length)⟩,⟨7,[],.v (.int .i64 k)⟩],[],[],[],0,m⟩)
   (fun k=>k<=s.length/\(s.take k).all ov=true) (fun k=>s.length - k) 0 (fun _ _=>aq _) (fun _ _=> .inl rfl) ?_ ?_ ?_
  ·simp only[go_sem];rfl
  ·simp
  ·rintro k ⟨hk,hp⟩;simp only[go_sem];refine⟨fun ao=> ?_,fun cA=> ?_⟩
   ·have bV:k<s.length:=by omega
    have hd:=drop_at bV;refine⟨⟨by omega,ao⟩,fun h=> ?_,fun h=>⟨by unfold ax;have:s.length<=4611686018427387904:=hs;omega,k+1,by omega,⟨by omega,?_⟩,by omega⟩⟩
    ·have hb:ov (s.getD k 0)=false:=by
      simp only[ov,Bool.or_eq_false_iff,Bool.and_eq_false_iff,decide_eq_false_iff_not];exact⟨by omega,by omega⟩
     have:s.all ov=false:=by
      rw[<- List.take_append_drop k s,List.all_append,hd,List.all_cons,hb];simp
     rw[p8,this,Bool.false_and]
    ·have hb:ov (s.getD k 0)=true:=by
      simp only[ov,Bool.or_eq_true,cO,gA];omega
     rw[List.take_succ_eq_append_getElem bV,List.all_append,hp,List.all_cons];have e:s.getD k 0=s[k]:=by rw[List.getD_eq_getElem?_getD,List.getElem?_eq_getElem bV];rfl
     rw[e] at hb;simp [hb]
   ·rw[fH (by omega)] at hp;rw[p8,hp,Bool.true_and,decide_eq_decide];omega
def np (k:Int):Bool×Bool×Bool×Int×Int:=
 if k=6 then(true,false,false,0,0)
 else if k=7 then(true,false,false,1,1)
 else if k=8 then(true,true,false,0,0)
 else if k=9\/k=16 then(false,false,false,2,2)
 else if k=10 then(true,false,false,1,17)
 else if k=11 then(true,true,false,0,16)
 else if k=12 then(true,false,false,0,16)
 else if k=13 then(false,true,false,0,16)
 else if k=14\/k=17\/k=18 then(false,false,true,1,1)
 else if k=15\/k=19\/k=20\/k=21 then(false,false,false,1,1)
 else(false,false,false,0,0)
def isKind (k:Int):Bool:=decide (1<=k)&&decide (k<=21)
theorem kinds {k:Int} (h:isKind k=true):k=1\/k=2\/k=3\/k=4\/k=5\/k=6\/k=7\/k=8\/k=9\/k=10\/k=11\/k=12\/k=13\/k=14\/k=15\/k=16\/k=17\/k=18\/k=19\/k=20\/k=21:=by
 simp only[isKind,cO,gA] at h;omega
theorem QP (k:Int) (m:Mem):FnH Tryz.prog 154 [.v (.int .i64 k)] ⟨[],[]⟩ m fun r H' m' =>m' =m/\H' =⟨[],[]⟩/\r= .tup [.agg [.v (.bool (np k).1),.v (.bool (np k).2.1),.v (.bool (np k).2.2.1),.v (.int .i64 (np k).2.2.2.1),.v (.int .i64 (np k).2.2.2.2)],.v (.bool (isKind k))]:=by
 refine aH mQ Tryz.func154 ?_
 ·cases hk:isKind k with
  |true=>
   rcases kinds hk with h |h |h |h |h |h |h |h |h |h |h |h |h |h |h |h |h |h |h |h |h<;>subst h<;>simp only[go_sem,np,Int.reduceEq,aC,aL]
  |false=>
   have tr:¬(1<=k/\k<=21):=by simpa [isKind] using hk
   have e:∀j:Int,1<=j->j<=21->(k=j)=False:=fun j h1 h2=>eq_false fun h=>tr (h▸⟨h1,h2⟩)
   have e1:=e 1 (by decide) (by decide);have e2:=e 2 (by decide) (by decide);have e3:=e 3 (by decide) (by decide);have e4:=e 4 (by decide) (by decide);have e5:=e 5 (by decide) (by decide);have e6:=e 6 (by decide) (by decide);have e7:=e 7 (by decide) (by decide);have e8:=e 8 (by decide) (by decide);have e9:=e 9 (by decide) (by decide);have gf:=e 10 (by decide) (by decide);have jQ:=e 11 (by decide) (by decide);have vk:=e 12 (by decide) (by decide);have vj:=e 13 (by decide) (by decide);have vi:=e 14 (by decide) (by decide);have vh:=e 15 (by decide) (by decide);have vg:=e 16 (by decide) (by decide);have vf:=e 17 (by decide) (by decide);have vd:=e 18 (by decide) (by decide);have Io:=e 19 (by decide) (by decide);have Im:=e 20 (by decide) (by decide);have Il:=e 21 (by decide) (by decide);simp only[go_sem,np,e1,e2,e3,e4,e5,e6,e7,e8,e9,gf,jQ,vk,vj,vi,vh,vg,vf,vd,Io,Im,Il,aL]
def py (k n:Int) (s:List UInt8):Bool:=
 if k=1 then decide (0<=n)&&decide (n<=2147483647)&&decide (s=[])
 else if k=2 then decide (0<=n)&&decide (s=[])
 else if k=3 then decide (n=0)&&p8 s
 else if k=15 then decide (n=0)&&(decide (s=[45])||decide (s=[33]))
 else if k=16 then decide (n=0)&&opsL.contains s
 else decide (n=0)&&decide (s=[])
abbrev cfP:Cfg:=fh (fun _=>false) [(210,eB BL fun s=> .bool (p8 s))]
theorem puP:cd cfP Tryz.prog:=pure_cons (by kernel_rfl) (ff Q9) pure_nil
theorem Ue (k n:Int) (s c:List UInt8) (d b:Int) (nm:List UInt8) (sl:Value) (m:Mem) (hg:Glob m) (hs:BL s):
  FnH Tryz.prog 156 [.v (.agg ⟨[.int .i64 k,.int .i64 n,.string (bs s),.string (bs c),.int .i64 d,.int .u8 b,.string (bs nm),sl]⟩)] ⟨[],[]⟩ m fun r H' m' =>ak m m' /\H' =⟨[],[]⟩/\r= .v (.bool (py k n s)):=by
 refine aH puP Tryz.func156 ?_
 ·simp only[go_sem];refine⟨fun h=>by simp only[py,ah h],fun h1=>⟨fun h=>by simp only[py,ae h1,ah h],fun h2=>⟨fun h=>⟨fun _=>hs,by simp only[py,ae h1,ae h2,ah h]⟩,fun h3=>⟨fun h=>by simp only[py,ae h1,ae h2,ae h3,ah h],fun h4=>⟨fun h=> ?_,fun h=>by simp only[py,ae h1,ae h2,ae h3,ae h4,ae h]⟩⟩⟩⟩⟩;have rP:=hg.2;refine rP.elim fun ad rP=>rP.elim fun cp rP=>⟨.slice (some ad) 19 cp,fun _=>rP.1,fun hn=>ab ((xb opsL s (some ad) 19 cp m rP.2.2 (by omega)).mono ?_),fun hn=> ?_⟩
  ·rintro r H' m' hm ⟨rfl,rfl⟩;simp only[go_sem];refine⟨.inr hm,?_⟩;simp only[py,ae h1,ae h2,ae h3,ae h4,ah h,bO hn,Bool.true_and]
  ·simp only[py,ae h1,ae h2,ae h3,ae h4,ah h,bg hn,Bool.false_and]
def qd (k n:Int) (s c:List UInt8) (d b:Int) (nm:List UInt8) (l:Nat):Bool:=
 isKind k&&decide ((np k).2.2.2.1<=l)&&decide (l<=(np k).2.2.2.2)&&(if(np k).1=true then dZ s&&decide (n=0) else py k n s)&&(if(np k).2.1=true then dz c else decide (c=[]))
  &&(if(np k).2.2.1=true then gg d b nm&&(decide (k≠14)||decide (d<8)) else decide (d=0)&&decide (b=0)&&decide (nm=[]))
abbrev oY:Cfg:=fh (fun _=>false) [(155,eB BL fun s=> .bool (dZ s)),(157,qD gg),(134,eB BL fun s=> .bool (dz s))]
theorem oQ:cd oY Tryz.prog:=pure_cons (by kernel_rfl) (ff EP) (pure_cons (by kernel_rfl) (tS EI) (pure_cons (by kernel_rfl) (ff zb) pure_nil))
theorem aS {P:Program} {f:FuncId} {args iE:List SV} {H:Hp} {m:Mem} {R:SV->Hp->Mem->Prop} (h:FnH P f args H m R) (e:∀V,iE.map (den V)=args.map (den V)):FnH P f iE H m R:=
 fun V w D h1 h2 h3=>by rw[e V];exact h V w D h1 h2 h3
theorem Sp (k n:Int) (s c:List UInt8) (d b:Int) (nm:List UInt8) (a:Option Addr) (l cp:Nat) (m:Mem) (hg:Glob m) (hs:BL s) (hc:BL c) (hn:BL nm):
  FnH Tryz.prog 64 [.v (.agg ⟨[.int .i64 k,.int .i64 n,.string (bs s),.string (bs c),.int .i64 d,.int .u8 b,.string (bs nm),.slice a l cp]⟩)] ⟨[],[]⟩ m fun r H' m' =>ak m m' /\H' =⟨[],[]⟩/\r= .v (.bool (qd k n s c d b nm l)):=by
 refine aH oQ Tryz.func64 ?_
 ·simp only[go_sem];refine ab (((QP k m).mono (R' :=fun r H' m' =>m' =m/\H' =⟨[],[]⟩/\∃i cl ty lo hi,np k=(i,cl,ty,lo,hi)/\r= .tup [.agg [.v (.bool i),.v (.bool cl),.v (.bool ty),.v (.int .i64 lo),.v (.int .i64 hi)],.v (.bool (isKind k))]) fun r H' m' hm h=>⟨h.1,h.2.1,_,_,_,_,_,rfl,h.2.2⟩).mono ?_);rintro r H' m' hm ⟨rfl,rfl,i,cl,ty,lo,hi,wH,rfl⟩;simp only[go_sem,qi];have Bj:∀x:Bool,(isKind k=false\/(l:Int)<lo)\/hi<(l:Int)->false=(isKind k&&decide (lo<=(l:Int))&&decide ((l:Int)<=hi)&&x):=fun x h=>by
   rcases h with (h |h) |h
   ·simp [h]
   ·rw[bg (by omega:¬lo<=(l:Int))];simp
   ·rw[bg (by omega:¬(l:Int)<=hi)];simp
  have hN:qd k n s c d b nm l=(isKind k&&decide (lo<=(l:Int))&&decide ((l:Int)<=hi)&&(if i=true then dZ s&&decide (n=0) else py k n s)&&(if cl=true then dz c else decide (c=[]))
    &&(if ty=true then gg d b nm&&(decide (k≠14)||decide (d<8)) else decide (d=0)&&decide (b=0)&&decide (nm=[]))):=by simp only[qd,wH]
  refine⟨fun h=> ?_,fun h=> ?_⟩
  ·rw[hN,Bool.and_assoc,Bool.and_assoc];exact Bj _ h
  ·have e1:=h.1.1;have e2:decide (lo<=(l:Int))=true:=bO (by have:=h.1.2;omega);have e3:decide ((l:Int)<=hi)=true:=bO (by have:=h.2;omega);have hM:qd k n s c d b nm l=((if i=true then dZ s&&decide (n=0) else py k n s)&&(if cl=true then dz c else decide (c=[]))&&(if ty=true then gg d b nm&&(decide (k≠14)||decide (d<8)) else decide (d=0)&&decide (b=0)&&decide (nm=[]))):=by
    rw[hN,e1,e2,e3];simp only[Bool.true_and]
   refine⟨fun hi=>⟨hs,fun bN=>⟨fun _=>hc,fun ht=>⟨fun _=>hn,by rw[hM];simp [hi,bN,ht,Bool.and_assoc]⟩,fun ht=>by rw[hM];simp [hi,bN,ht,Bool.and_assoc]⟩,fun bN=>⟨fun ht=>⟨fun _=>hn,by rw[hM];simp [hi,bN,ht,Bool.and_assoc]⟩,fun ht=>by rw[hM];simp [hi,bN,ht,Bool.and_assoc]⟩⟩,fun hi=>ab ((aS (Ue k n s c d b nm (.slice a l cp) m' hg hs) (fun V=>rfl)).mono ?_)⟩;rintro r H' m2 aG ⟨hle,rfl,rfl⟩;simp only[go_sem,qi];exact⟨fun bN=>⟨fun _=>hc,fun ht=>⟨fun _=>hn,hle,by rw[hM];simp [hi,bN,ht,Bool.and_assoc]⟩,fun ht=>⟨hle,by rw[hM];simp [hi,bN,ht,Bool.and_assoc]⟩⟩,fun bN=>⟨fun ht=>⟨fun _=>hn,hle,by rw[hM];simp [hi,bN,ht,Bool.and_assoc]⟩,fun ht=>⟨hle,by rw[hM];simp [hi,bN,ht,Bool.and_assoc]⟩⟩⟩
structure Ty where
 dim:Int
 base:Int
 name:List UInt8
inductive Ex where
 |mk (k n:Int) (s c:List UInt8) (ty:Ty) (args:List Ex)
inductive St where
 |mk (k:Int) (name:List UInt8) (ty:Ty) (tg ex:Ex) (body alt:List St)
abbrev az:Nat:=2000000
def nR (t:Ty):Prop:=ax t.dim/\(0<=t.base/\t.base<256)/\t.name.length<=az
def cT (k n:Int) (s c:List UInt8) (ty:Ty) (sl:Value):List Value:=[.int .i64 k,.int .i64 n,.string (bs s),.string (bs c),.int .i64 ty.dim,.int .u8 ty.base,.string (bs ty.name),sl]
def acf (k n:Int) (s c:List UInt8) (ty:Ty) (l:Nat):Prop:=ax k/\ax n/\s.length<=az/\c.length<=az/\nR ty/\l<=az
mutual
def ba (m:Mem):Ex->List Value->Prop
 | .mk k n s c ty args,cs=>∃a cp xs,cs=cT k n s c ty (.slice a args.length cp)/\args.length<=cp/\aM m a args.length 8 xs/\acf k n s c ty args.length/\dF m args xs
def dF (m:Mem):List Ex->List Value->Prop
 |[],_=>True
 |e::r,xs=>ba m e (xs.take 8)/\dF m r (xs.drop 8)
end
theorem sw {m:Mem}:∀{l:List Ex} {xs:List Value} {i:Nat} (_:dF m l xs) (hi:i<l.length),ba m l[i] ((xs.drop (i * 8)).take 8)
 |[],_,_,_,hi=>absurd hi (Nat.not_lt_zero _)
 |e::r,xs,0,h,_=>by simp only[dF] at h;simpa using h.1
 |e::r,xs,i+1,h,hi=>by
  simp only[dF] at h;have:=sw (i:=i) h.2 (by simpa using hi);rw[List.drop_drop] at this;rw[show(i+1) * 8=8+i * 8 by omega];exact this
mutual
theorem Cu {m m' :Mem} (hle:m.le m'):∀(e:Ex) (cs:List Value),ba m e cs->ba m' e cs
 | .mk k n s c ty args,cs,h=>by
  simp only[ba] at h ⊢;obtain⟨a,cp,xs,h1,h2,h3,h4,h5⟩:=h;exact⟨a,cp,xs,h1,h2,Ab hle h3,h4,Ca hle args xs h5⟩
theorem Ca {m m' :Mem} (hle:m.le m'):∀(l:List Ex) (xs:List Value),dF m l xs->dF m' l xs
 |[],_,_=>by simp only[dF]
 |e::r,xs,h=>by
  simp only[dF] at h ⊢;exact⟨Cu hle e _ h.1,Ca hle r _ h.2⟩
end
mutual
def bq:Ex->Nat
 | .mk _ _ _ _ _ args=>jT args+1
def jT:List Ex->Nat
 |[]=>0
 |e::r=>max (bq e) (jT r)
end
theorem xu:∀{l:List Ex} {i:Nat} (hi:i<l.length),bq l[i]<=jT l
 |[],_,hi=>absurd hi (Nat.not_lt_zero _)
 |e::r,0,_=>by simp only[jT];exact Nat.le_max_left _ _
 |e::r,i+1,hi=>by
  have:=xu (l:=r) (i:=i) (by simpa using hi);simp only[jT];exact cg this (Nat.le_max_right _ _)
theorem BZ:∀{l:List Ex} {i:Nat} (hi:i<l.length),jT (l.take (i+1))=max (jT (l.take i)) (bq l[i])
 |[],_,hi=>absurd hi (Nat.not_lt_zero _)
 |e::r,0,_=>by simp [jT]
 |e::r,i+1,hi=>by
  have:=BZ (l:=r) (i:=i) (by simpa using hi);simp only[List.take_succ_cons,jT,this];rw[List.getElem_cons_succ,Nat.max_assoc]
def ay (f:FuncId) (args:List SV) (m:Mem) (v:Value):Prop:=FnH Tryz.prog f args ⟨[],[]⟩ m fun r H' m' =>ak m m' /\H' =⟨[],[]⟩/\r= .v v
theorem Tv {α:Type} {l:List α} {B:α->Bool} {k:Nat} (h:k<l.length):(l.take (k+1)).any B=((l.take k).any B||B l[k]):=by
 rw[List.take_succ_eq_append_getElem h,List.any_append];simp
theorem Glob.upM {m m' :Mem} (h:Glob m) (hm:ak m m'):Glob m' :=by
 rcases hm with rfl |hm
 ·exact h
 ·exact h.up hm
theorem aU {m m' :Mem} {e:Ex} {cs:List Value} (hle:ak m m') (h:ba m e cs):ba m' e cs:=by
 rcases hle with rfl |hle
 ·exact h
 ·exact Cu hle e cs h
theorem xl {m m' :Mem} {l:List Ex} {cs:List Value} (hle:ak m m') (h:dF m l cs):dF m' l cs:=by
 rcases hle with rfl |hle
 ·exact h
 ·exact Ca hle l cs h
theorem aK {m m' :Mem} {a:Option Addr} {n sz:Nat} {xs:List Value} (hle:ak m m') (h:aM m a n sz xs):aM m' a n sz xs:=by
 rcases hle with rfl |hle
 ·exact h
 ·exact Ab hle h
theorem aa {m m' iI:Mem} (h:ak m m') (h' :ak m' iI):ak m iI:=by
 rcases h with rfl |h
 ·exact h'
 ·rcases h' with rfl |h'
  ·exact .inr h
  ·exact .inr (Mem.le_trans h h')
theorem Qw (f:FuncId) (B:Ex->Bool) (l:List Ex) (a:Option Addr) (n c:Nat) (xs:List Value) (m:Mem) (hl:l.length=n) (hr:aM m a n 8 xs) (he:dF m l xs) (hn:n<=az) (av:gM Tryz.prog f=true)
  (hf:∀i (hi:i<l.length) cs m',ak m m' ->ba m' l[i] cs->ay f [.v (.agg ⟨cs⟩)] m' (.bool (B l[i]))):
  FnH Tryz.prog 158 [.v (.slice a n c),.v (.func (.func f) ⟨[]⟩ ⟨[]⟩)] ⟨[],[]⟩ m fun r H' m' =>ak m m' /\H' =⟨[],[]⟩/\∃i:Int,r= .v (.int .i64 i)/\decide (0<=i)=l.any B:=by
 refine aH aw Tryz.func158 ?_
 ·simp only[go_sem];refine cK aw (fun x:Nat×Mem=>⟨[⟨0,[],.v (.slice a n c)⟩,⟨1,[],.v (.func (.func f) ⟨[]⟩ ⟨[]⟩)⟩,⟨7,[],.v (.int .i64 n)⟩,⟨8,[],.v (.int .i64 x.1)⟩],[],[],[],0,x.2⟩)
   (fun x=>ak m x.2/\x.1<=n/\(l.take x.1).any B=false) (fun x=>n - x.1) (0,m) (fun _ _=>aq _) (fun x hx=>hx.1) ?_ ?_ ?_
  ·simp only[go_sem];rfl
  ·exact⟨.inl rfl,au _,rfl⟩
  ·rintro⟨k,mm⟩ ⟨h1,h2,h3⟩;simp only at h1 h2 h3;have dA:gp.own f=false:=rfl;have O0:∀(hk:k<n),Rd mm (cI a (k * 8)) ((xs.drop (k * 8)).take 8)/\a≠none:=fun hk=>ed (aK h1 hr) hk
   have HR:∀(hk:k<n),((xs.drop (k * 8)).take 8).length=8:=fun hk=>by
    have:=hr.1;have hm:(k+1) * 8<=n * 8:=Nat.mul_le_mul_right _ hk;rw[List.length_take,cj];omega
   simp only[go_sem,dA];refine⟨fun ao=> ?_,fun cA=>⟨h1,?_⟩⟩
   ·have hk:k<n:=by clear hf;omega
    have bV:k<l.length:=by clear hf;omega
    refine⟨⟨by clear hf;omega,ao,(O0 hk).2⟩,_,⟨(O0 hk).1,HR hk⟩,av,cE ((hf k bV _ mm h1 (aU h1 (sw he bV))).mono ?_)⟩;clear hf;rintro r H' m' hm ⟨hle,rfl,rfl⟩;simp only[go_sem];refine⟨fun hb=>⟨aa h1 hle,?_⟩,fun hb=>⟨by unfold ax;simp only[az] at hn;omega,(k+1,m'),⟨by simp,.inl rfl⟩,⟨aa h1 hle,by simp only;omega,?_⟩,by simp only;omega⟩⟩
    ·have:l.any B=true:=List.any_eq_true.2 ⟨_,List.getElem_mem bV,hb⟩;rw[this];simp
    ·simp only;rw[Tv bV,h3,hb];rfl
   ·rw[fH (by clear hf;omega)] at h3;rw[h3];rfl
theorem IB (f:FuncId) (B:Ex->Bool) (l:List Ex) (a:Option Addr) (n c:Nat) (xs:List Value) (m:Mem) (hl:l.length=n) (hr:aM m a n 8 xs) (he:dF m l xs) (hn:n<=az) (av:gM Tryz.prog f=true)
  (hf:∀i (hi:i<l.length) cs m',ak m m' ->ba m' l[i] cs->ay f [.v (.agg ⟨cs⟩)] m' (.bool (B l[i]))):
  ay 65 [.v (.slice a n c),.v (.func (.func f) ⟨[]⟩ ⟨[]⟩)] m (.bool (l.any B)):=by
 refine aH aw Tryz.func65 ?_
 ·simp only[go_sem];refine ab ((Qw f B l a n c xs m hl hr he hn av hf).mono ?_);clear hf;rintro r H' m' hm ⟨hle,rfl,i,rfl,hi⟩;simp only[go_sem];exact⟨hle,hi⟩
mutual
def dm:Ex->Bool
 | .mk k n s c ty args=>qd k n s c ty.dim ty.base ty.name args.length&&kv args
def kv:List Ex->Bool
 |[]=>true
 |e::r=>dm e&&kv r
end
theorem Er:∀(l:List Ex),(!l.any fun e=> !dm e)=kv l
 |[]=>rfl
 |e::r=>by
  simp only[List.any_cons,kv,<- Er r];cases dm e<;>simp
theorem o4:∀(h:Nat) (e:Ex) (cs:List Value) (m:Mem),bq e<=h->Glob m->ba m e cs->ay 33 [.v (.agg ⟨cs⟩)] m (.bool (dm e))
 |0,.mk k n s c ty args,cs,m,hd,_,_=>by simp [bq] at hd
 |h+1,.mk k n s c ty args,cs,m,hd,hg,he=>by
  simp only[ba] at he;obtain⟨a,cp,xs,rfl,bb,hr,av,eE⟩:=he;have hn:=av.2.2.2.2.2;simp only[bq] at hd;have hf:∀i (hi:i<args.length) cs m',ak m m' ->ba m' args[i] cs->ay 66 [.v (.agg ⟨cs⟩)] m' (.bool (!dm args[i])):=fun i hi cs m' hle aY=>by
   have hlen:∃c0 c1 c2 c3 c4 c5 c6 c7,cs=[c0,c1,c2,c3,c4,c5,c6,c7]:=by
    cases qg:args[i] with
    |mk k n s c ty args=>
     rw[qg] at aY;simp only[ba] at aY;obtain⟨a,cp,xs,rfl,_⟩:=aY;exact⟨_,_,_,_,_,_,_,_,rfl⟩
   have ih:=o4 h args[i] cs m' (by have:=xu hi;omega) (hg.upM hle) aY;obtain⟨c0,c1,c2,c3,c4,c5,c6,c7,rfl⟩:=hlen;refine aH aw Tryz.func66 ?_
   ·simp only[go_sem];refine ab ((aS ih (fun V=>rfl)).mono ?_);rintro r H' m2 aG ⟨aX,rfl,rfl⟩;simp only[go_sem];exact aX
  have hv:=fun m' (hm:ak m m')=>IB 66 (fun e=> !dm e) args a args.length cp xs m' rfl (aK hm hr) (xl hm eE) hn (by kernel_rfl) (fun i hi cs m2 hle=>hf i hi cs m2 (aa hm hle))
  have YG:=Sp k n s c ty.dim ty.base ty.name a args.length cp m hg (cg av.2.2.1 (by decide)) (cg av.2.2.2.1 (by decide)) (cg av.2.2.2.2.1.2.2 (by decide));clear hf;refine enter gp aw Tryz.func33 rfl rfl (by kernel_rfl) rfl ?_ ?_
  ·simp only[go_sem,cT]
  ·simp only[go_sem,cT];refine ab ((aS YG (fun V=>rfl)).mono ?_);rintro r H' m2 aG ⟨hle,rfl,rfl⟩;simp only[go_sem];refine⟨fun hb=>ab ((hv m2 hle).mono ?_),fun hb=>⟨hle,?_⟩⟩
   ·clear hv;rintro r H' m3 bu ⟨kg,rfl,rfl⟩;simp only[go_sem];refine⟨aa hle kg,?_⟩;rw[Er,dm,hb,Bool.true_and]
   ·rw[dm,hb,Bool.false_and]
structure Nd where
 k:Int
 n:Int
 s:List UInt8
 c:List UInt8
 ty:Ty
 a:Option Addr
 l:Nat
 cp:Nat
def Nd.cs (x:Nd):List Value:=[.int .i64 x.k,.int .i64 x.n,.string (bs x.s),.string (bs x.c),.int .i64 x.ty.dim,.int .u8 x.ty.base,.string (bs x.ty.name),.slice x.a x.l x.cp]
theorem pT {m:Mem} {e:Ex} {cs:List Value} (h:ba m e cs):∃x:Nd,cs=x.cs:=by
 cases e with
 |mk k n s c ty args=>
  simp only[ba] at h;obtain⟨a,cp,xs,rfl,_⟩:=h;exact⟨⟨k,n,s,c,ty,a,args.length,cp⟩,rfl⟩
theorem zm:∀(h:Nat) (e:Ex) (cs:List Value) (m:Mem),bq e<=h->h<=az->ba m e cs->ay 34 [.v (.agg ⟨cs⟩)] m (.int .i64 (bq e))
 |0,.mk k n s c ty args,cs,m,hd,_,_=>by simp [bq] at hd
 |h+1,.mk k n s c ty args,cs,m,hd,hb,he=>by
  simp only[ba] at he;obtain⟨a,cp,xs,rfl,bb,hr,av,eE⟩:=he;have hn:=av.2.2.2.2.2;simp only[bq] at hd;refine enter gp aw Tryz.func34 rfl rfl (by kernel_rfl) rfl ?_ ?_
  ·simp only[go_sem,cT]
  ·simp only[go_sem,cT];refine cK aw (fun x:Nat×Mem=>⟨[⟨3,[],.v (.int .i64 (jT (args.take x.1)))⟩,⟨7,[],.v (.slice a args.length cp)⟩,⟨8,[],.v (.int .i64 args.length)⟩,⟨9,[],.v (.int .i64 x.1)⟩],[],[],[],1,x.2⟩)
    (fun x=>ak m x.2/\x.1<=args.length) (fun x=>args.length - x.1) (0,m) (fun _ _=>aq _) (fun x hx=>hx.1) ?_ ?_ ?_
   ·simp only[go_sem];exact⟨rfl,rfl⟩
   ·exact⟨.inl rfl,au _⟩
   ·rintro⟨i,mm⟩ ⟨h1,h2⟩;simp only at h1 h2;have hx:∀(hi:i<args.length),∃x:Nd,Rd mm (cI a (i * 8)) x.cs/\a≠none/\ay 34 [.v (.agg ⟨x.cs⟩)] mm (.int .i64 (bq args[i])):=fun hi=>by
     have aY:=aU h1 (sw eE hi);obtain⟨x,hx⟩:=pT aY;have bP:=ed (aK h1 hr) hi;rw[hx] at aY bP;exact⟨x,bP.1,bP.2,zm h args[i] x.cs mm (by have:=xu hi;omega) (by omega) aY⟩
    simp only[go_sem];refine⟨fun ao=> ?_,fun cA=> ?_⟩
    ·refine Exists.elim (hx (by clear hx;omega)) fun x bR=>⟨⟨by clear hx bR;omega,ao,bR.2.1⟩,x.cs,⟨bR.1,rfl⟩,?_⟩
     clear hx;have ha:=bR.2.2;simp only[go_sem,Nd.cs];refine ab ((aS ha (fun V=>rfl)).mono ?_);clear bR ha;rintro r H' m2 aG ⟨aX,rfl,rfl⟩;simp only[go_sem];have hi:i<args.length:=by omega
     have iZ:=BZ hi;refine⟨by unfold ax;simp only[az] at hn;omega,(i+1,m2),⟨⟨?_,by simp⟩,.inl rfl⟩,⟨aa h1 aX,by simp only;omega⟩,by simp only;omega⟩;simp only;rw[iZ];split<;>omega
    ·clear hx;have:args.take i=args:=fH (by omega);rw[this];simp only[bq];exact⟨by unfold ax;simp only[az] at hb;omega,h1,by omega⟩
mutual
def dT:Ex->Nat
 | .mk _ _ _ _ _ args=>eW args+1
def eW:List Ex->Nat
 |[]=>0
 |e::r=>dT e+eW r
end
theorem Zw:dY Tryz.prog 45=some none:=by kernel_rfl
theorem ZY:bf Tryz.prog 45=1:=by kernel_rfl
attribute [go_sem] Zw ZY
def sg (s:List UInt8):Tk:=⟨6,s,0,0⟩
def kw (s:List UInt8):Tk:=⟨2,s,0,0⟩
def qE (s:List UInt8):Tk:=⟨1,s,0,0⟩
theorem F0 {l:List (List UInt8)} {a:Option Addr} {n:Nat} {m:Mem} (hr:aM m a n 1 (strs l)) {k:Nat} (hk:k<l.length):Rd m (cI a k) [.string (bs l[k])]/\a≠none:=by
 have hl:l.length=n:=by have:=hr.1;simpa [strs] using this
 obtain⟨hx,h,cY⟩:=CU hr (by omega:k<n);have e:(strs l)[k]= .string (bs l[k]):=by simp [strs]
 rw[e] at h;exact⟨h,cY⟩
def gL:List UInt8:=[105,110,116]
def gH:List UInt8:=[108,111,110,103]
def Ac:List UInt8:=[118,111,105,100]
def Zm (b:Int) (nm:List UInt8):Tk:=if b=73 then kw gL else if b=74 then kw gH else if b=86 then kw Ac else qE nm
def abM (d:Int):List Tk:=(List.replicate d.toNat [sg [91],sg [93]]).flatten
def GZ (d b:Int) (nm:List UInt8):List Tk:=Zm b nm::abM d
def Nt:Bool->List (List Tk)->List Tk
 |_,[]=>[]
 |f,t::r=>(if f=true then t else sg [44]::t)++Nt false r
def ug (l:List (List Tk)):List Tk:=sg [40]::(Nt true l++[sg [41]])
def abd (k:Int):Bool:=decide (k=15)||decide (k=16)||decide (k=17)||decide (k=18)
def aaN (b:Bool) (t:List Tk):List Tk:=if b=true then ug [t] else t
def AT (ts:List (Bool×List Tk)) (i:Nat):List Tk:=(ts.getD i (false,[])).2
def uR (ts:List (Bool×List Tk)) (i:Nat):List Tk:=aaN (ts.getD i (false,[])).1 (ts.getD i (false,[])).2
def Yp (k n:Int) (s c:List UInt8) (ty:Ty) (ts:List (Bool×List Tk)):List Tk:=
 if k=1 then[⟨3,[],n,0⟩]
 else if k=2 then[⟨4,[],n,0⟩]
 else if k=3 then[⟨5,s,0,0⟩]
 else if k=4 then[kw [110,117,108,108]]
 else if k=5 then[kw [116,104,105,115]]
 else if k=6 then[qE s]
 else if k=7 then uR ts 0++[sg [46]]++[qE s]
 else if k=8 then[qE c]++[sg [46]]++[qE s]
 else if k=9 then uR ts 0++[sg [91]]++AT ts 1++[sg [93]]
 else if k=10 then uR ts 0++[sg [46]]++[qE s]++ug ((ts.drop 1).map (·.2))
 else if k=11 then[qE c]++[sg [46]]++[qE s]++ug (ts.map (·.2))
 else if k=12 then[kw [115,117,112,101,114]]++[sg [46]]++[qE s]++ug (ts.map (·.2))
 else if k=13 then[kw [110,101,119]]++[qE c]++ug (ts.map (·.2))
 else if k=14 then[kw [110,101,119]]++GZ ty.dim ty.base ty.name++[sg [91]]++AT ts 0++[sg [93]]
 else if k=15 then[sg s]++uR ts 0
 else if k=16 then uR ts 0++[sg s]++uR ts 1
 else if k=17 then uR ts 0++[kw [97,115]]++GZ ty.dim ty.base ty.name
 else if k=18 then uR ts 0++[kw [105,115]]++GZ ty.dim ty.base ty.name
 else if k=19 then[kw [108,101,110]]++ug [AT ts 0]
 else if k=20 then[kw gL]++ug [AT ts 0]
 else if k=21 then[kw gH]++ug [AT ts 0]
 else[]
def Ex.k:Ex->Int | .mk k _ _ _ _ _=>k
mutual
def GU:Ex->List Tk
 | .mk k n s c ty args=>Yp k n s c ty (Nn args)
def Nn:List Ex->List (Bool×List Tk)
 |[]=>[]
 |e::r=>(abd e.k,GU e)::Nn r
end
abbrev cap:Nat:=800000000
theorem IS:∀{l:List Ex},kv l=true->∀e∈l,dm e=true
 |[],_,e,he=>by cases he
 |x::r,h,e,he=>by
  simp only[kv,cO] at h;rcases List.mem_cons.1 he with rfl |he
  ·exact h.1
  ·exact IS h.2 e he
theorem ER:∀{l:List Ex} {e:Ex},e∈l->bq e<=jT l
 |[],e,he=>by cases he
 |x::r,e,he=>by
  simp only[jT];rcases List.mem_cons.1 he with rfl |he
  ·omega
  ·have:=ER he;omega
def Om (e:Ex):List UInt8×Int:=if dm e=true then(if 24<bq e then([],9) else Yw (GU e)) else([],4)
structure Sd where
 k:Int
 name:List UInt8
 ty:Ty
 tg:Nd
 ex:Nd
 a:Option Addr
 l:Nat
 cp:Nat
 b:Option Addr
 l2:Nat
 cp2:Nat
def Sd.cs (x:Sd):List Value:=[.int .i64 x.k,.string (bs x.name),.int .i64 x.ty.dim,.int .u8 x.ty.base,.string (bs x.ty.name),.int .i64 x.tg.k,.int .i64 x.tg.n,.string (bs x.tg.s),.string (bs x.tg.c),.int .i64 x.tg.ty.dim,.int .u8 x.tg.ty.base,.string (bs x.tg.ty.name),.slice x.tg.a x.tg.l x.tg.cp,.int .i64 x.ex.k,.int .i64 x.ex.n,.string (bs x.ex.s),.string (bs x.ex.c),.int .i64 x.ex.ty.dim,.int .u8 x.ex.ty.base,.string (bs x.ex.ty.name),.slice x.ex.a x.ex.l x.ex.cp,.slice x.a x.l x.cp,.slice x.b x.l2 x.cp2]
theorem Zq:dY Tryz.prog 73=some (some 23):=by kernel_rfl
theorem ZS:bf Tryz.prog 73=23:=by kernel_rfl
theorem WI:eV Tryz.prog 73=some [.v (.int .i64 0),.v (.string (bs [])),.v (.int .i64 0),.v (.int .u8 0),.v (.string (bs [])),.v (.int .i64 0),.v (.int .i64 0),.v (.string (bs [])),.v (.string (bs [])),.v (.int .i64 0),.v (.int .u8 0),.v (.string (bs [])),.v (.slice none 0 0),.v (.int .i64 0),.v (.int .i64 0),.v (.string (bs [])),.v (.string (bs [])),.v (.int .i64 0),.v (.int .u8 0),.v (.string (bs [])),.v (.slice none 0 0),.v (.slice none 0 0),.v (.slice none 0 0)]:=by kernel_rfl
theorem Ze:mD Tryz.prog 73=true:=by kernel_rfl
theorem XW:dY Tryz.prog 36=some none:=by kernel_rfl
theorem Ya:bf Tryz.prog 36=1:=by kernel_rfl
theorem Y0:gV Tryz.prog 36=some 73:=by kernel_rfl
theorem VU:b7 Tryz.prog 73 0=some (0,none,1):=by kernel_rfl
theorem VT:b7 Tryz.prog 73 1=some (1,none,1):=by kernel_rfl
theorem VS:b7 Tryz.prog 73 2=some (2,some 3,3):=by kernel_rfl
theorem VR:b7 Tryz.prog 73 3=some (5,some 8,8):=by kernel_rfl
theorem VQ:b7 Tryz.prog 73 4=some (13,some 8,8):=by kernel_rfl
theorem VP:b7 Tryz.prog 73 5=some (21,none,1):=by kernel_rfl
theorem VO:b7 Tryz.prog 73 6=some (22,none,1):=by kernel_rfl
structure Mc where
 fl:Int
 res:Ty
 name:List UInt8
 pa:Option Addr
 pl:Nat
 pc:Nat
 hb:Bool
 a:Option Addr
 l:Nat
 cp:Nat
def Mc.cs (x:Mc):List Value:=[.int .i64 x.fl,.int .i64 x.res.dim,.int .u8 x.res.base,.string (bs x.res.name),.string (bs x.name),.slice x.pa x.pl x.pc,.bool x.hb,.slice x.a x.l x.cp]
theorem Zt:dY Tryz.prog 98=some (some 8):=by kernel_rfl
theorem ZV:bf Tryz.prog 98=8:=by kernel_rfl
theorem WL:eV Tryz.prog 98=some [.v (.int .i64 0),.v (.int .i64 0),.v (.int .u8 0),.v (.string (bs [])),.v (.string (bs [])),.v (.slice none 0 0),.v (.bool false),.v (.slice none 0 0)]:=by kernel_rfl
theorem Zh:mD Tryz.prog 98=true:=by kernel_rfl
theorem XY:dY Tryz.prog 57=some none:=by kernel_rfl
theorem Yc:bf Tryz.prog 57=1:=by kernel_rfl
theorem Y2:gV Tryz.prog 57=some 98:=by kernel_rfl
theorem Wb:b7 Tryz.prog 98 0=some (0,none,1):=by kernel_rfl
theorem Wa:b7 Tryz.prog 98 1=some (1,some 3,3):=by kernel_rfl
theorem V9:b7 Tryz.prog 98 2=some (4,none,1):=by kernel_rfl
theorem V8:b7 Tryz.prog 98 3=some (5,none,1):=by kernel_rfl
theorem V7:b7 Tryz.prog 98 4=some (6,none,1):=by kernel_rfl
theorem V6:b7 Tryz.prog 98 5=some (7,none,1):=by kernel_rfl
structure Cc where
 fl:Int
 name:List UInt8
 super:List UInt8
 ia:Option Addr
 il:Nat
 ic:Nat
 fa:Option Addr
 fn:Nat
 fc:Nat
 ma:Option Addr
 ml:Nat
 mc:Nat
 sa:Option Addr
 sl:Nat
 sc:Nat
def Cc.cs (x:Cc):List Value:=[.int .i64 x.fl,.string (bs x.name),.string (bs x.super),.slice x.ia x.il x.ic,.slice x.fa x.fn x.fc,.slice x.ma x.ml x.mc,.slice x.sa x.sl x.sc]
theorem Zy:dY Tryz.prog 59=some (some 7):=by kernel_rfl
theorem Z0:bf Tryz.prog 59=7:=by kernel_rfl
theorem WO:eV Tryz.prog 59=some [.v (.int .i64 0),.v (.string (bs [])),.v (.string (bs [])),.v (.slice none 0 0),.v (.slice none 0 0),.v (.slice none 0 0),.v (.slice none 0 0)]:=by kernel_rfl
theorem Zj:mD Tryz.prog 59=true:=by kernel_rfl
theorem X0:dY Tryz.prog 23=some none:=by kernel_rfl
theorem Ye:bf Tryz.prog 23=1:=by kernel_rfl
theorem Y4:gV Tryz.prog 23=some 59:=by kernel_rfl
theorem Wm:b7 Tryz.prog 59 0=some (0,none,1):=by kernel_rfl
theorem Wl:b7 Tryz.prog 59 1=some (1,none,1):=by kernel_rfl
theorem Wk:b7 Tryz.prog 59 2=some (2,none,1):=by kernel_rfl
theorem Wj:b7 Tryz.prog 59 3=some (3,none,1):=by kernel_rfl
theorem Wi:b7 Tryz.prog 59 4=some (4,none,1):=by kernel_rfl
theorem Wh:b7 Tryz.prog 59 5=some (5,none,1):=by kernel_rfl
theorem Wg:b7 Tryz.prog 59 6=some (6,none,1):=by kernel_rfl
structure Pc where
 ty:Ty
 name:List UInt8
def Pc.cs (x:Pc):List Value:=[.int .i64 x.ty.dim,.int .u8 x.ty.base,.string (bs x.ty.name),.string (bs x.name)]
theorem Zs:dY Tryz.prog 160=some (some 4):=by kernel_rfl
theorem ZU:bf Tryz.prog 160=4:=by kernel_rfl
theorem WK:eV Tryz.prog 160=some [.v (.int .i64 0),.v (.int .u8 0),.v (.string (bs [])),.v (.string (bs []))]:=by kernel_rfl
theorem Zg:mD Tryz.prog 160=true:=by kernel_rfl
theorem XX:dY Tryz.prog 96=some none:=by kernel_rfl
theorem Yb:bf Tryz.prog 96=1:=by kernel_rfl
theorem Y1:gV Tryz.prog 96=some 160:=by kernel_rfl
theorem V5:b7 Tryz.prog 160 0=some (0,some 3,3):=by kernel_rfl
theorem V4:b7 Tryz.prog 160 1=some (3,none,1):=by kernel_rfl
structure Fc where
 fl:Int
 ty:Ty
 name:List UInt8
def Fc.cs (x:Fc):List Value:=[.int .i64 x.fl,.int .i64 x.ty.dim,.int .u8 x.ty.base,.string (bs x.ty.name),.string (bs x.name)]
theorem Zx:dY Tryz.prog 94=some (some 5):=by kernel_rfl
theorem ZZ:bf Tryz.prog 94=5:=by kernel_rfl
theorem WN:eV Tryz.prog 94=some [.v (.int .i64 0),.v (.int .i64 0),.v (.int .u8 0),.v (.string (bs [])),.v (.string (bs []))]:=by kernel_rfl
theorem Zi:mD Tryz.prog 94=true:=by kernel_rfl
theorem XZ:dY Tryz.prog 56=some none:=by kernel_rfl
theorem Yd:bf Tryz.prog 56=1:=by kernel_rfl
theorem Y3:gV Tryz.prog 56=some 94:=by kernel_rfl
theorem We:b7 Tryz.prog 94 0=some (0,none,1):=by kernel_rfl
theorem Wd:b7 Tryz.prog 94 1=some (1,some 3,3):=by kernel_rfl
theorem Wc:b7 Tryz.prog 94 2=some (4,none,1):=by kernel_rfl
theorem ZW:bf Tryz.prog 55=1:=by kernel_rfl
attribute [go_sem] Zq ZS WI Ze XW Ya Y0 VU VT VS VR VQ VP VO Zt ZV WL Zh XY Yc Y2 Wb Wa V9 V8 V7 V6 Zy Z0 WO Zj X0 Ye Y4 Wm Wl Wk Wj Wi Wh Wg Zs ZU WK Zg XX Yb Y1 V5 V4 Zx ZZ WN Zi XZ Yd Y3 We Wd Wc ZW
def kH (n:Nat) (B:Nat->Bool):Bool:=(List.range n).all B
theorem zq {n:Nat} {B:Nat->Bool}:kH (n+1) B=(kH n B&&B n):=by simp [kH,List.range_succ,List.all_append]
theorem oq {n k:Nat} {B:Nat->Bool} (hk:k<n) (h:B k=false):kH n B=false:=by
 simp only[kH,List.all_eq_false,List.mem_range];exact⟨k,hk,by simp [h]⟩
theorem YU (f:FuncId) (B:Nat->Bool) (a:Option Addr) (n c:Nat) (a2:Option Addr) (n2 c2:Nat) (xs ys:List Value) (m:Mem) (hr:aM m a n 8 xs) (cX:aM m a2 n2 8 ys) (hn:n<=az) (av:gM Tryz.prog f=true)
  (hx:∀i,i<n->n=n2->∃X Y:Nd,(xs.drop (i * 8)).take 8=X.cs/\(ys.drop (i * 8)).take 8=Y.cs/\∀m',ak m m' ->ay f [.v (.agg ⟨X.cs⟩),.v (.agg ⟨Y.cs⟩)] m' (.bool (B i))):
  ay 266 [.v (.slice a n c),.v (.slice a2 n2 c2),.v (.func (.func f) ⟨[]⟩ ⟨[]⟩)] m (.bool (decide (n=n2)&&kH n B)):=by
 refine aH aw Tryz.func266 ?_
 ·simp only[go_sem];refine⟨fun cY=> ?_,fun heq=> ?_⟩
  ·have:¬n=n2:=by clear hx;omega
   rw[bg this];rfl
  ·have heq:n=n2:=by clear hx;omega
   subst heq;refine cK aw (fun x:Nat×Mem=>⟨[⟨1,[],.v (.slice a2 n c2)⟩,⟨2,[],.v (.func (.func f) ⟨[]⟩ ⟨[]⟩)⟩,⟨15,[],.v (.slice a n c)⟩,⟨16,[],.v (.int .i64 n)⟩,⟨17,[],.v (.int .i64 x.1)⟩],[],[],[],0,x.2⟩)
    (fun x=>ak m x.2/\x.1<=n/\kH x.1 B=true) (fun x=>n - x.1) (0,m) (fun _ _=>aq _) (fun x hx=>hx.1) ?_ ?_ ?_
   ·simp only[go_sem];rfl
   ·exact⟨.inl rfl,au _,rfl⟩
   ·rintro⟨k,mm⟩ ⟨h1,h2,h3⟩;simp only at h1 h2 h3;have dA:gp.own f=false:=rfl;have hy:∀(hk:k<n),∃X Y:Nd,(Rd mm (cI a (k * 8)) X.cs/\a≠none)/\(Rd mm (cI a2 (k * 8)) Y.cs/\a2≠none)/\ay f [.v (.agg ⟨X.cs⟩),.v (.agg ⟨Y.cs⟩)] mm (.bool (B k)):=fun hk=>by
     obtain⟨X,Y,e1,e2,e3⟩:=hx k hk rfl;have r1:=ed (aK h1 hr) hk;have r2:=ed (aK h1 cX) hk;rw[e1] at r1;rw[e2] at r2;exact⟨X,Y,r1,r2,e3 mm h1⟩
    clear hx;simp only[go_sem,dA];refine⟨fun ao=> ?_,fun cA=>⟨h1,?_⟩⟩
    ·have hk:k<n:=by clear hy;omega
     refine Exists.elim (hy hk) fun X bc=>Exists.elim bc fun Y iq=>⟨⟨by clear hy bc iq;omega,ao,iq.1.2⟩,X.cs,⟨iq.1.1,rfl⟩,?_⟩
     clear hy bc;have ha:=iq.2.2;simp only[go_sem,dA,Nd.cs];refine⟨⟨by clear iq ha;omega,ao,iq.2.1.2⟩,Y.cs,⟨iq.2.1.1,rfl⟩,?_⟩;clear iq;simp only[go_sem,dA,Nd.cs];refine⟨av,cE ((aS ha (fun V=>rfl)).mono ?_)⟩;clear ha;rintro r H' m2 aG ⟨aX,rfl,rfl⟩;simp only[go_sem];refine⟨fun hb=>⟨aa h1 aX,?_⟩,fun hb=>⟨by unfold ax;simp only[az] at hn;omega,(k+1,m2),⟨by simp,.inl rfl⟩,⟨aa h1 aX,by simp only;omega,?_⟩,by simp only;omega⟩⟩
     ·rw[oq hk hb];simp
     ·simp only;rw[zq,h3,hb];rfl
    ·have:k=n:=by clear hy;omega
     rw[<- this,h3];simp
theorem NY (f:FuncId) (B:Nat->Bool) (a:Option Addr) (n c:Nat) (a2:Option Addr) (n2 c2:Nat) (xs ys:List Value) (m:Mem) (hr:aM m a n 23 xs) (cX:aM m a2 n2 23 ys) (hn:n<=az) (av:gM Tryz.prog f=true)
  (hx:∀i,i<n->n=n2->∃X Y:Sd,(xs.drop (i * 23)).take 23=X.cs/\(ys.drop (i * 23)).take 23=Y.cs/\∀m',ak m m' ->ay f [.v (.agg ⟨X.cs⟩),.v (.agg ⟨Y.cs⟩)] m' (.bool (B i))):
  ay 252 [.v (.slice a n c),.v (.slice a2 n2 c2),.v (.func (.func f) ⟨[]⟩ ⟨[]⟩)] m (.bool (decide (n=n2)&&kH n B)):=by
 refine aH aw Tryz.func252 ?_
 ·simp only[go_sem];refine⟨fun cY=> ?_,fun heq=> ?_⟩
  ·have:¬n=n2:=by clear hx;omega
   rw[bg this];rfl
  ·have heq:n=n2:=by clear hx;omega
   subst heq;refine cK aw (fun x:Nat×Mem=>⟨[⟨1,[],.v (.slice a2 n c2)⟩,⟨2,[],.v (.func (.func f) ⟨[]⟩ ⟨[]⟩)⟩,⟨15,[],.v (.slice a n c)⟩,⟨16,[],.v (.int .i64 n)⟩,⟨17,[],.v (.int .i64 x.1)⟩],[],[],[],0,x.2⟩)
    (fun x=>ak m x.2/\x.1<=n/\kH x.1 B=true) (fun x=>n - x.1) (0,m) (fun _ _=>aq _) (fun x hx=>hx.1) ?_ ?_ ?_
   ·simp only[go_sem];rfl
   ·exact⟨.inl rfl,au _,rfl⟩
   ·rintro⟨k,mm⟩ ⟨h1,h2,h3⟩;simp only at h1 h2 h3;have dA:gp.own f=false:=rfl;have hy:∀(hk:k<n),∃X Y:Sd,(Rd mm (cI a (k * 23)) X.cs/\a≠none)/\(Rd mm (cI a2 (k * 23)) Y.cs/\a2≠none)/\ay f [.v (.agg ⟨X.cs⟩),.v (.agg ⟨Y.cs⟩)] mm (.bool (B k)):=fun hk=>by
     obtain⟨X,Y,e1,e2,e3⟩:=hx k hk rfl;have r1:=ed (aK h1 hr) hk;have r2:=ed (aK h1 cX) hk;rw[e1] at r1;rw[e2] at r2;exact⟨X,Y,r1,r2,e3 mm h1⟩
    clear hx;simp only[go_sem,dA];refine⟨fun ao=> ?_,fun cA=>⟨h1,?_⟩⟩
    ·have hk:k<n:=by clear hy;omega
     refine Exists.elim (hy hk) fun X bc=>Exists.elim bc fun Y iq=>⟨⟨by clear hy bc iq;omega,ao,iq.1.2⟩,X.cs,⟨iq.1.1,rfl⟩,?_⟩
     clear hy bc;have ha:=iq.2.2;simp only[go_sem,dA,Sd.cs];refine⟨⟨by clear iq ha;omega,ao,iq.2.1.2⟩,Y.cs,⟨iq.2.1.1,rfl⟩,?_⟩;clear iq;simp only[go_sem,dA,Sd.cs];refine⟨av,cE ((aS ha (fun V=>rfl)).mono ?_)⟩;clear ha;rintro r H' m2 aG ⟨aX,rfl,rfl⟩;simp only[go_sem];refine⟨fun hb=>⟨aa h1 aX,?_⟩,fun hb=>⟨by unfold ax;simp only[az] at hn;omega,(k+1,m2),⟨by simp,.inl rfl⟩,⟨aa h1 aX,by simp only;omega,?_⟩,by simp only;omega⟩⟩
     ·rw[oq hk hb];simp
     ·simp only;rw[zq,h3,hb];rfl
    ·have:k=n:=by clear hy;omega
     rw[<- this,h3];simp
def Ty.eq (x y:Ty):Bool:=decide (x.dim=y.dim)&&(decide (x.base=y.base)&&decide (x.name=y.name))
def Pc.eq (x y:Pc):Bool:=decide (x.ty.dim=y.ty.dim)&&(decide (x.ty.base=y.ty.base)&&(decide (x.ty.name=y.ty.name)&&decide (x.name=y.name)))
def Fc.eq (x y:Fc):Bool:=decide (x.fl=y.fl)&&(decide (x.ty.dim=y.ty.dim)&&(decide (x.ty.base=y.ty.base)&&(decide (x.ty.name=y.ty.name)&&decide (x.name=y.name))))
structure Md where
 fl:Int
 res:Ty
 name:List UInt8
 params:List Pc
 hb:Bool
 body:List St
structure Cd where
 fl:Int
 name:List UInt8
 super:List UInt8
 ifs:List (List UInt8)
 fields:List Fc
 methods:List Md
 init:List St
def mO {α:Type} (e:α->α->Bool):List α->List α->Bool
 |[],[]=>true
 |a::r,b::t=>e a b&&mO e r t
 |_,_=>false
def kO {α:Type} (e:α->α->Bool) (l l2:List α) (i:Nat):Bool:=match l[i]?,l2[i]? with |some a,some b=>e a b |_,_=>false
theorem SY {n:Nat} {B:Nat->Bool}:kH (n+1) B=(B 0&&kH n fun i=>B (i+1)):=by
 simp only[kH,List.range_succ_eq_map,List.all_cons,List.all_map];rfl
theorem xw {α:Type} (e:α->α->Bool):∀(l l2:List α),mO e l l2=(decide (l.length=l2.length)&&kH l.length (kO e l l2))
 |[],[]=>rfl
 |[],b::t=>by simp [mO]
 |a::r,[]=>by simp [mO]
 |a::r,b::t=>by
  rw[mO,xw e r t,cC,cC,SY];have e1:decide (r.length+1=t.length+1)=decide (r.length=t.length):=by rw[decide_eq_decide];omega
  have e2:kO e (a::r) (b::t) 0=e a b:=rfl;have e3:(fun i=>kO e (a::r) (b::t) (i+1))=kO e r t:=by funext i;simp only[kO,List.getElem?_cons_succ]
  rw[e1,e2,e3];cases e a b<;>cases decide (r.length=t.length)<;>rfl
theorem GA {α:Type} {e:α->α->Bool} {l l2:List α} {i:Nat} (h:i<l.length) (h2:i<l2.length):kO e l l2 i=e l[i] l2[i]:=by
 simp only[kO,List.getElem?_eq_getElem h,List.getElem?_eq_getElem h2]
mutual
def gU:Ex->Ex->Bool
 | .mk k n s c ty args,.mk k' n' s' c' ty' iE=>decide (k=k')&&decide (n=n')&&decide (s=s')&&decide (c=c')&&Ty.eq ty ty' &&mK args iE
def mK:List Ex->List Ex->Bool
 |[],[]=>true
 |a::r,b::t=>gU a b&&mK r t
 |[],_::_=>false
 |_::_,[]=>false
end
theorem Fp:∀(l l2:List Ex),mK l l2=mO gU l l2
 |[],[]=>by simp only[mK,mO]
 |a::r,b::t=>by simp only[mK,mO,Fp r t]
 |[],_::_=>by simp only[mK,mO]
 |_::_,[]=>by simp only[mK,mO]
mutual
def cF:St->St->Bool
 | .mk k nm ty tg ex body alt,.mk k' nm' ty' AS By Aw AP=>decide (k=k')&&decide (nm=nm')&&Ty.eq ty ty' &&gU tg AS&&gU ex By&&iS body Aw&&iS alt AP
def iS:List St->List St->Bool
 |[],[]=>true
 |a::r,b::t=>cF a b&&iS r t
 |[],_::_=>false
 |_::_,[]=>false
end
theorem Ce:∀(l l2:List St),iS l l2=mO cF l l2
 |[],[]=>by simp only[iS,mO]
 |a::r,b::t=>by simp only[iS,mO,Ce r t]
 |[],_::_=>by simp only[iS,mO]
 |_::_,[]=>by simp only[iS,mO]
/-! In memory. -/
structure StOk (k:Int) (nm:List UInt8) (ty:Ty) (l l2:Nat):Prop where
 k:ax k
 nm:nm.length<=az
 ty:nR ty
 l:l<=az
 l2:l2<=az
mutual
def eH (m:Mem):St->List Value->Prop
 | .mk k nm ty tg ex body alt,cs=>∃x:Sd,(cs=x.cs/\x.k=k/\x.name=nm/\x.ty=ty)/\ba m tg x.tg.cs/\ba m ex x.ex.cs/\(x.l=body.length/\x.l<=x.cp/\x.l2=alt.length/\x.l2<=x.cp2)/\StOk k nm ty body.length alt.length/\
   ∃xs ys,aM m x.a x.l 23 xs/\aM m x.b x.l2 23 ys/\bj m body xs/\bj m alt ys
def bj (m:Mem):List St->List Value->Prop
 |[],_=>True
 |e::r,xs=>eH m e (xs.take 23)/\bj m r (xs.drop 23)
end
theorem p7 {m:Mem}:∀{l:List St} {xs:List Value} {i:Nat} (_:bj m l xs) (hi:i<l.length),eH m l[i] ((xs.drop (i * 23)).take 23)
 |[],_,_,_,hi=>absurd hi (Nat.not_lt_zero _)
 |e::r,xs,0,h,_=>by simp only[bj] at h;simpa using h.1
 |e::r,xs,i+1,h,hi=>by
  simp only[bj] at h;have:=p7 (i:=i) h.2 (by simpa using hi);rw[List.drop_drop] at this;rw[show(i+1) * 23=23+i * 23 by omega];exact this
mutual
theorem Kz {m m' :Mem} (hle:m.le m'):∀(e:St) (cs:List Value),eH m e cs->eH m' e cs
 | .mk k nm ty tg ex body alt,cs,h=>by
  simp only[eH] at h ⊢;obtain⟨x,h1,h2,h3,h4,h5,xs,ys,h6,h7,h8,h9⟩:=h;exact⟨x,h1,Cu hle _ _ h2,Cu hle _ _ h3,h4,h5,xs,ys,Ab hle h6,Ab hle h7,ze hle body xs h8,ze hle alt ys h9⟩
theorem ze {m m' :Mem} (hle:m.le m'):∀(l:List St) (xs:List Value),bj m l xs->bj m' l xs
 |[],_,_=>by simp only[bj]
 |e::r,xs,h=>by
  simp only[bj] at h ⊢;exact⟨Kz hle e _ h.1,ze hle r _ h.2⟩
end
theorem di {m m' :Mem} {l:List St} {cs:List Value} (hle:ak m m') (h:bj m l cs):bj m' l cs:=by
 rcases hle with rfl |hle
 ·exact h
 ·exact ze hle l cs h
theorem rW {m m' :Mem} {l:St} {cs:List Value} (hle:ak m m') (h:eH m l cs):eH m' l cs:=by
 rcases hle with rfl |hle
 ·exact h
 ·exact Kz hle l cs h
theorem FB {m:Mem} {e:St} {cs:List Value} (h:eH m e cs):∃x:Sd,cs=x.cs:=by
 cases e with
 |mk k nm ty tg ex body alt=>
  simp only[eH] at h;obtain⟨x,h1,_⟩:=h;exact⟨x,h1.1⟩
def nF {α:Type} (R:α->List Value->Prop) (sz:Nat):List α->List Value->Prop
 |[],_=>True
 |e::r,xs=>R e (xs.take sz)/\nF R sz r (xs.drop sz)
theorem sD {α:Type} {R:α->List Value->Prop} {sz:Nat}:∀{l:List α} {xs:List Value} {i:Nat} (_:nF R sz l xs) (hi:i<l.length),R l[i] ((xs.drop (i * sz)).take sz)
 |[],_,_,_,hi=>absurd hi (Nat.not_lt_zero _)
 |e::r,xs,0,h,_=>by simpa using h.1
 |e::r,xs,i+1,h,hi=>by
  have:=sD (i:=i) h.2 (by simpa using hi);rw[List.drop_drop] at this;rw[show(i+1) * sz=sz+i * sz by rw[Nat.succ_mul,Nat.add_comm]];exact this
theorem vP {α:Type} {R R' :α->List Value->Prop} {sz:Nat} (h:∀a cs,R a cs->R' a cs):∀{l:List α} {xs:List Value},nF R sz l xs->nF R' sz l xs
 |[],_,_=>trivial
 |_::_,_,hl=>⟨h _ _ hl.1,vP h hl.2⟩
def flat {α:Type} (f:α->List Value) (l:List α):List Value:=(l.map f).flatten
theorem vB {α:Type} {f:α->List Value} {sz:Nat} (hf:∀x,(f x).length=sz):∀{l:List α} {i:Nat} (hi:i<l.length),((flat f l).drop (i * sz)).take sz=f l[i]
 |[],_,hi=>absurd hi (Nat.not_lt_zero _)
 |x::r,0,_=>by
  simp only[flat,bh,List.flatten_cons,Nat.zero_mul,List.drop_zero,List.getElem_cons_zero];rw[<- hf x,List.take_left]
 |x::r,i+1,hi=>by
  have:=vB hf (l:=r) (i:=i) (by simpa using hi);simp only[List.getElem_cons_succ];rw[<- this,Nat.succ_mul,Nat.add_comm,<- List.drop_drop];congr 2
  simp only[flat,bh,List.flatten_cons];rw[<- hf x,List.drop_left]
structure PcOk (p:Pc):Prop where
 ty:nR p.ty
 name:p.name.length<=az
structure FcOk (p:Fc):Prop where
 fl:ax p.fl
 ty:nR p.ty
 name:p.name.length<=az
structure MdOk (d:Md):Prop where
 fl:ax d.fl
 res:nR d.res
 name:d.name.length<=az
 pl:d.params.length<=az
 ps:∀p∈d.params,PcOk p
 l:d.body.length<=az
def iD (m:Mem) (d:Md) (cs:List Value):Prop:=∃x:Mc,(cs=x.cs/\x.fl=d.fl/\x.res=d.res/\x.name=d.name/\x.hb=d.hb)/\(x.pl=d.params.length/\x.pl<=x.pc/\x.l=d.body.length/\x.l<=x.cp)/\MdOk d/\
 aM m x.pa x.pl 4 (flat Pc.cs d.params)/\∃xs,aM m x.a x.l 23 xs/\bj m d.body xs
structure CdOk (d:Cd):Prop where
 fl:ax d.fl
 name:d.name.length<=az
 super:d.super.length<=az
 il:d.ifs.length<=az
 ifs:∀s∈d.ifs,s.length<=az
 fn:d.fields.length<=az
 fs:∀s∈d.fields,FcOk s
 ml:d.methods.length<=az
 l:d.init.length<=az
def lK (m:Mem) (d:Cd) (cs:List Value):Prop:=∃x:Cc,(cs=x.cs/\x.fl=d.fl/\x.name=d.name/\x.super=d.super)/\(x.il=d.ifs.length/\x.il<=x.ic/\x.fn=d.fields.length/\x.fn<=x.fc/\x.ml=d.methods.length/\x.ml<=x.mc/\x.sl=d.init.length/\x.sl<=x.sc)/\CdOk d/\
 aM m x.ia x.il 1 (strs d.ifs)/\aM m x.fa x.fn 5 (flat Fc.cs d.fields)/\∃xs ys,aM m x.ma x.ml 8 xs/\nF (iD m) 8 d.methods xs/\aM m x.sa x.sl 23 ys/\bj m d.init ys
theorem tI {m m' :Mem} (hle:ak m m') {d:Md} {cs:List Value} (h:iD m d cs):iD m' d cs:=by
 obtain⟨x,h1,h2,h3,h4,xs,h5,h6⟩:=h;exact⟨x,h1,h2,h3,aK hle h4,xs,aK hle h5,di hle h6⟩
theorem vv {m m' :Mem} (hle:ak m m') {d:Cd} {cs:List Value} (h:lK m d cs):lK m' d cs:=by
 obtain⟨x,h1,h2,h3,h4,h5,xs,ys,h6,h7,h8,h9⟩:=h;exact⟨x,h1,h2,h3,aK hle h4,aK hle h5,xs,ys,aK hle h6,vP (fun _ _=>tI hle) h7,aK hle h8,di hle h9⟩
def vN (m:Mem) (l:List Cd) (a:Option Addr) (n c:Nat):Prop:=n=l.length/\n<=c/\n<=az/\∃xs,aM m a n 7 xs/\nF (lK m) 7 l xs
mutual
def ep:St->Nat
 | .mk _ _ _ _ _ body alt=>max (cH body) (cH alt)+1
def cH:List St->Nat
 |[]=>0
 |e::r=>max (ep e) (cH r)
end
theorem n8:∀{l:List St} {e:St},e∈l->ep e<=cH l
 |[],e,he=>by cases he
 |x::r,e,he=>by
  simp only[cH];rcases List.mem_cons.1 he with rfl |he
  ·omega
  ·have:=n8 he;omega
theorem Lu {m:Mem} {l l2:List Ex} {xs ys:List Value} (h1:dF m l xs) (h2:dF m l2 ys) {f:FuncId} (hf:∀a∈l,∀b∈l2,∀ca cb m',ak m m' ->ba m' a ca->ba m' b cb->ay f [.v (.agg ⟨ca⟩),.v (.agg ⟨cb⟩)] m' (.bool (gU a b))):
  ∀i,i<l.length->l.length=l2.length->∃X Y:Nd,(xs.drop (i * 8)).take 8=X.cs/\(ys.drop (i * 8)).take 8=Y.cs/\∀m',ak m m' ->ay f [.v (.agg ⟨X.cs⟩),.v (.agg ⟨Y.cs⟩)] m' (.bool (kO gU l l2 i)):=fun i hi he=>by
 have r1:=sw h1 hi;have r2:=sw h2 (by omega:i<l2.length);obtain⟨X,hX⟩:=pT r1;obtain⟨Y,hY⟩:=pT r2;rw[hX] at r1;rw[hY] at r2;refine⟨X,Y,hX,hY,fun m' hle=> ?_⟩;rw[GA hi (by omega)];exact hf _ (List.getElem_mem hi) _ (List.getElem_mem _) _ _ m' hle (aU hle r1) (aU hle r2)
theorem Gi:∀(h:Nat) (a b:Ex) (ca cb:List Value) (m:Mem),bq a<=h->ba m a ca->ba m b cb->ay 251 [.v (.agg ⟨ca⟩),.v (.agg ⟨cb⟩)] m (.bool (gU a b))
 |0,.mk k n s c ty args,b,ca,cb,m,hd,_,_=>by simp [bq] at hd
 |h+1,.mk k n s c ty args,.mk k' n' s' c' ty' iE,ca,cb,m,hd,ha,hb=>by
  simp only[ba] at ha hb;obtain⟨a,cp,xs,rfl,bb,hr,av,eE⟩:=ha;obtain⟨a',cp',xs',rfl,hcp',hr',hok',hes'⟩:=hb;simp only[bq] at hd;have hE:=fun m' (hle:ak m m')=>YU 251 (kO gU args iE) a args.length cp a' iE.length cp' xs xs' m' (aK hle hr) (aK hle hr') av.2.2.2.2.2 (by kernel_rfl)
   (Lu (xl hle eE) (xl hle hes') fun x hx y hy cx cy iI aX r1 r2=>Gi h x y cx cy iI (by have:=ER hx;omega) r1 r2)
  simp only[<- xw] at hE;refine enter gp aw Tryz.func251 rfl rfl (by kernel_rfl) rfl ?_ ?_
  ·simp only[go_sem,cT]
  ·simp only[go_sem,cT,qi];refine⟨fun h=>ab ((hE m (.inl rfl)).mono ?_),fun h=> ?_⟩
   ·clear hE;rintro r H' m2 aG ⟨aX,rfl,rfl⟩;simp only[go_sem];refine⟨aX,?_⟩;simp only[gU,Fp,Ty.eq,h,aC,Bool.true_and]
   ·clear hE;simp only[gU,Ty.eq];rcases h with (((h |h) |h) |h) |h |h |h<;>simp [h]
theorem Mu {α N:Type} {R:Mem->α->List Value->Prop} {wU:N->List Value} {sz:Nat} {e:α->α->Bool} (OY:∀m m' a c,ak m m' ->R m a c->R m' a c) (hN:∀m a c,R m a c->∃x:N,c=wU x) {m:Mem} {l l2:List α} {xs ys:List Value}
  (h1:∀i (hi:i<l.length),R m l[i] ((xs.drop (i * sz)).take sz)) (h2:∀i (hi:i<l2.length),R m l2[i] ((ys.drop (i * sz)).take sz)) {f:FuncId} (hf:∀a∈l,∀b∈l2,∀ca cb m',ak m m' ->R m' a ca->R m' b cb->ay f [.v (.agg ⟨ca⟩),.v (.agg ⟨cb⟩)] m' (.bool (e a b))):
  ∀i,i<l.length->l.length=l2.length->∃X Y:N,(xs.drop (i * sz)).take sz=wU X/\(ys.drop (i * sz)).take sz=wU Y/\∀m',ak m m' ->ay f [.v (.agg ⟨wU X⟩),.v (.agg ⟨wU Y⟩)] m' (.bool (kO e l l2 i)):=fun i hi he=>by
 have r1:=h1 i hi;have r2:=h2 i (by omega:i<l2.length);obtain⟨X,hX⟩:=hN _ _ _ r1;obtain⟨Y,hY⟩:=hN _ _ _ r2;rw[hX] at r1;rw[hY] at r2;refine⟨X,Y,hX,hY,fun m' hle=> ?_⟩;rw[GA hi (by omega)];exact hf _ (List.getElem_mem hi) _ (List.getElem_mem _) _ _ m' (hle) (OY _ _ _ _ hle r1) (OY _ _ _ _ hle r2)
theorem oo:∀(h:Nat) (a b:St) (ca cb:List Value) (m:Mem),ep a<=h->eH m a ca->eH m b cb->ay 236 [.v (.agg ⟨ca⟩),.v (.agg ⟨cb⟩)] m (.bool (cF a b))
 |0,.mk k nm ty tg ex body alt,b,ca,cb,m,hd,_,_=>by simp [ep] at hd
 |h+1,.mk k nm ty tg ex body alt,.mk k' nm' ty' AS By Aw AP,ca,cb,m,hd,ha,hb=>by
  simp only[eH] at ha hb;obtain⟨x,⟨rfl,rfl,rfl,rfl⟩,cL,hex,⟨hl,bb,bw,dC⟩,av,xs,ys,r1,r2,s1,s2⟩:=ha;obtain⟨x',⟨rfl,rfl,rfl,rfl⟩,htg',we,⟨mU,hcp',hl2',hcp2'⟩,hok',xs',ys',r1',r2',s1',s2'⟩:=hb;simp only[ep] at hd;have hT:=fun m' (hle:ak m m')=>Gi _ tg AS x.tg.cs x'.tg.cs m' (aq _) (aU hle cL) (aU hle htg')
  have hX:=fun m' (hle:ak m m')=>Gi _ ex By x.ex.cs x'.ex.cs m' (aq _) (aU hle hex) (aU hle we)
  have hB:∀m',ak m m' ->ay 252 [.v (.slice x.a x.l x.cp),.v (.slice x'.a x'.l x'.cp),.v (.func (.func 236) ⟨[]⟩ ⟨[]⟩)] m' (.bool (iS body Aw)):=fun m' hle=>by
   have hf:=Mu (R:=eH) (wU:=Sd.cs) (e:=cF) (f:=236) (fun _ _ _ _=>rW) (fun _ _ _=>FB) (fun i hi=>p7 (di hle s1) hi) (fun i hi=>p7 (di hle s1') hi)
    (fun a ha b hb ca cb m2 aX=>oo h a b ca cb m2 (by have:=n8 ha;omega))
   rw[Ce,xw];rw[<- hl,<- mU] at hf ⊢;exact NY _ _ x.a x.l x.cp x'.a x'.l x'.cp xs xs' m' (aK hle r1) (aK hle r1') (by rw[hl];exact av.l) (by kernel_rfl) hf
  have hA:∀m',ak m m' ->ay 252 [.v (.slice x.b x.l2 x.cp2),.v (.slice x'.b x'.l2 x'.cp2),.v (.func (.func 236) ⟨[]⟩ ⟨[]⟩)] m' (.bool (iS alt AP)):=fun m' hle=>by
   have hf:=Mu (R:=eH) (wU:=Sd.cs) (e:=cF) (f:=236) (fun _ _ _ _=>rW) (fun _ _ _=>FB) (fun i hi=>p7 (di hle s2) hi) (fun i hi=>p7 (di hle s2') hi)
    (fun a ha b hb ca cb m2 aX=>oo h a b ca cb m2 (by have:=n8 ha;omega))
   rw[Ce,xw];rw[<- bw,<- hl2'] at hf ⊢;exact NY _ _ x.b x.l2 x.cp2 x'.b x'.l2 x'.cp2 ys ys' m' (aK hle r2) (aK hle r2') (by rw[bw];exact av.l2) (by kernel_rfl) hf
  clear s1 s2 s1' s2';refine enter gp aw Tryz.func236 rfl rfl (by kernel_rfl) rfl ?_ ?_
  ·simp only[go_sem,Sd.cs,Nd.cs]
  ·simp only[go_sem,Sd.cs,Nd.cs,qi];refine⟨fun h=>ab ((aS (hT m (.inl rfl)) (fun V=>rfl)).mono ?_),fun h=> ?_⟩
   ·clear hT;rintro r H' m2 aG ⟨l2,rfl,rfl⟩;simp only[go_sem,Sd.cs,Nd.cs];have e0:cF (St.mk x.k x.name x.ty tg ex body alt) (St.mk x'.k x'.name x'.ty AS By Aw AP)=(gU tg AS&&gU ex By&&iS body Aw&&iS alt AP):=by simp only[cF,Ty.eq,h,aC,Bool.true_and]
    refine⟨fun h1=>ab ((aS (hX m2 l2) (fun V=>rfl)).mono ?_),fun h1=> ?_⟩
    ·clear hX;rintro r H' m3 bu ⟨l3,rfl,rfl⟩;simp only[go_sem,Sd.cs,Nd.cs];refine⟨fun h2=>ab ((hB m3 (aa l2 l3)).mono ?_),fun h2=> ?_⟩
     ·clear hB;rintro r H' m4 dc ⟨l4,rfl,rfl⟩;simp only[go_sem,Sd.cs,Nd.cs];refine⟨fun h3=>ab ((hA m4 (aa (aa l2 l3) l4)).mono ?_),fun h3=> ?_⟩
      ·clear hA;rintro r H' m5 b9 ⟨l5,rfl,rfl⟩;simp only[go_sem,Sd.cs,Nd.cs];refine⟨aa (aa (aa l2 l3) l4) l5,?_⟩;rw[e0,h1,h2,h3];rfl
      ·refine⟨aa (aa l2 l3) l4,?_⟩;rw[e0,h3,Bool.and_false];rfl
     ·refine⟨aa l2 l3,?_⟩;rw[e0,h2,Bool.and_false];rfl
    ·refine⟨l2,?_⟩;rw[e0,h1];rfl
   ·clear hT hX hB hA;simp only[cF,Ty.eq];rcases h with (h |h) |h |h |h<;>simp [h]
theorem FJ {m:Mem} {e:Md} {cs:List Value} (h:iD m e cs):∃x:Mc,cs=x.cs:=by
 obtain⟨x,h1,_⟩:=h;exact⟨x,h1.1⟩
def j0 (n:Nat) (B:Nat->Bool):Bool:=(List.range n).any B
theorem Cm {n:Nat} {B:Nat->Bool}:j0 (n+1) B=(j0 n B||B n):=by simp [j0,List.range_succ,List.any_append]
theorem CG {n k:Nat} {B:Nat->Bool} (hk:k<n) (h:B k=true):j0 n B=true:=by
 simp only[j0,List.any_eq_true,List.mem_range];exact⟨k,hk,h⟩
theorem Kq {α:Type} (p:α->Bool):∀(l:List α) (B:Nat->Bool),(∀i (h:i<l.length),B i=p l[i])->j0 l.length B=l.any p
 |[],_,_=>rfl
 |x::r,B,h=>by
  have h0:=h 0 (by simp);have hr:=Kq p r (fun i=>B (i+1)) fun i hi=>h (i+1) (by simpa using hi)
  rw[List.any_cons,<- hr,cC];simp only[j0,List.range_succ_eq_map,List.any_cons,List.any_map,h0,List.getElem_cons_zero];rfl
theorem Yx (f:FuncId) (B:Nat->Bool) (a:Option Addr) (n c:Nat) (xs:List Value) (m:Mem) (hr:aM m a n 4 xs) (hn:n<=az) (av:gM Tryz.prog f=true)
  (hx:∀i,i<n->∃X:Pc,(xs.drop (i * 4)).take 4=X.cs/\∀m',ak m m' ->ay f [.v (.agg ⟨X.cs⟩)] m' (.bool (B i))):
  FnH Tryz.prog 231 [.v (.slice a n c),.v (.func (.func f) ⟨[]⟩ ⟨[]⟩)] ⟨[],[]⟩ m fun r H' m' =>ak m m' /\H' =⟨[],[]⟩/\∃i:Int,r= .v (.int .i64 i)/\decide (0<=i)=j0 n B:=by
 refine aH aw Tryz.func231 ?_
 ·simp only[go_sem];refine cK aw (fun x:Nat×Mem=>⟨[⟨0,[],.v (.slice a n c)⟩,⟨1,[],.v (.func (.func f) ⟨[]⟩ ⟨[]⟩)⟩,⟨7,[],.v (.int .i64 n)⟩,⟨8,[],.v (.int .i64 x.1)⟩],[],[],[],0,x.2⟩)
   (fun x=>ak m x.2/\x.1<=n/\j0 x.1 B=false) (fun x=>n - x.1) (0,m) (fun _ _=>aq _) (fun x hx=>hx.1) ?_ ?_ ?_
  ·simp only[go_sem];rfl
  ·exact⟨.inl rfl,au _,rfl⟩
  ·rintro⟨k,mm⟩ ⟨h1,h2,h3⟩;simp only at h1 h2 h3;have dA:gp.own f=false:=rfl;have hy:∀(hk:k<n),∃X:Pc,(Rd mm (cI a (k * 4)) X.cs/\a≠none)/\ay f [.v (.agg ⟨X.cs⟩)] mm (.bool (B k)):=fun hk=>by
     obtain⟨X,e1,e3⟩:=hx k hk;have r1:=ed (aK h1 hr) hk;rw[e1] at r1;exact⟨X,r1,e3 mm h1⟩
   clear hx;simp only[go_sem,dA];refine⟨fun ao=> ?_,fun cA=>⟨h1,?_⟩⟩
   ·have hk:k<n:=by clear hy;omega
    refine Exists.elim (hy hk) fun X bc=>⟨⟨by clear hy bc;omega,ao,bc.1.2⟩,X.cs,⟨bc.1.1,rfl⟩,?_⟩
    clear hy;have ha:=bc.2;clear bc;simp only[go_sem,dA,Pc.cs];refine⟨av,cE ((aS ha (fun V=>rfl)).mono ?_)⟩;clear ha;rintro r H' m' hm ⟨hle,rfl,rfl⟩;simp only[go_sem];refine⟨fun hb=>⟨aa h1 hle,?_⟩,fun hb=>⟨by unfold ax;simp only[az] at hn;omega,(k+1,m'),⟨by simp,.inl rfl⟩,⟨aa h1 hle,by simp only;omega,?_⟩,by simp only;omega⟩⟩
    ·rw[CG hk hb];simp
    ·simp only;rw[Cm,h3,hb];rfl
   ·have:k=n:=by clear hy;omega
    rw[<- this,h3];rfl
theorem Y6 (f:FuncId) (B:Nat->Bool) (a:Option Addr) (n c:Nat) (xs:List Value) (m:Mem) (hr:aM m a n 4 xs) (hn:n<=az) (av:gM Tryz.prog f=true)
  (hx:∀i,i<n->∃X:Pc,(xs.drop (i * 4)).take 4=X.cs/\∀m',ak m m' ->ay f [.v (.agg ⟨X.cs⟩)] m' (.bool (B i))):
  ay 197 [.v (.slice a n c),.v (.func (.func f) ⟨[]⟩ ⟨[]⟩)] m (.bool (j0 n B)):=by
 refine aH aw Tryz.func197 ?_
 ·simp only[go_sem];refine ab ((Yx f B a n c xs m hr hn av hx).mono ?_);clear hx;rintro r H' m' hm ⟨hle,rfl,i,rfl,hi⟩;simp only[go_sem];exact⟨hle,hi⟩
theorem Yz (f:FuncId) (B:Nat->Bool) (a:Option Addr) (n c:Nat) (xs:List Value) (m:Mem) (hr:aM m a n 5 xs) (hn:n<=az) (av:gM Tryz.prog f=true)
  (hx:∀i,i<n->∃X:Fc,(xs.drop (i * 5)).take 5=X.cs/\∀m',ak m m' ->ay f [.v (.agg ⟨X.cs⟩)] m' (.bool (B i))):
  FnH Tryz.prog 199 [.v (.slice a n c),.v (.func (.func f) ⟨[]⟩ ⟨[]⟩)] ⟨[],[]⟩ m fun r H' m' =>ak m m' /\H' =⟨[],[]⟩/\∃i:Int,r= .v (.int .i64 i)/\decide (0<=i)=j0 n B:=by
 refine aH aw Tryz.func199 ?_
 ·simp only[go_sem];refine cK aw (fun x:Nat×Mem=>⟨[⟨0,[],.v (.slice a n c)⟩,⟨1,[],.v (.func (.func f) ⟨[]⟩ ⟨[]⟩)⟩,⟨7,[],.v (.int .i64 n)⟩,⟨8,[],.v (.int .i64 x.1)⟩],[],[],[],0,x.2⟩)
   (fun x=>ak m x.2/\x.1<=n/\j0 x.1 B=false) (fun x=>n - x.1) (0,m) (fun _ _=>aq _) (fun x hx=>hx.1) ?_ ?_ ?_
  ·simp only[go_sem];rfl
  ·exact⟨.inl rfl,au _,rfl⟩
  ·rintro⟨k,mm⟩ ⟨h1,h2,h3⟩;simp only at h1 h2 h3;have dA:gp.own f=false:=rfl;have hy:∀(hk:k<n),∃X:Fc,(Rd mm (cI a (k * 5)) X.cs/\a≠none)/\ay f [.v (.agg ⟨X.cs⟩)] mm (.bool (B k)):=fun hk=>by
     obtain⟨X,e1,e3⟩:=hx k hk;have r1:=ed (aK h1 hr) hk;rw[e1] at r1;exact⟨X,r1,e3 mm h1⟩
   clear hx;simp only[go_sem,dA];refine⟨fun ao=> ?_,fun cA=>⟨h1,?_⟩⟩
   ·have hk:k<n:=by clear hy;omega
    refine Exists.elim (hy hk) fun X bc=>⟨⟨by clear hy bc;omega,ao,bc.1.2⟩,X.cs,⟨bc.1.1,rfl⟩,?_⟩
    clear hy;have ha:=bc.2;clear bc;simp only[go_sem,dA,Fc.cs];refine⟨av,cE ((aS ha (fun V=>rfl)).mono ?_)⟩;clear ha;rintro r H' m' hm ⟨hle,rfl,rfl⟩;simp only[go_sem];refine⟨fun hb=>⟨aa h1 hle,?_⟩,fun hb=>⟨by unfold ax;simp only[az] at hn;omega,(k+1,m'),⟨by simp,.inl rfl⟩,⟨aa h1 hle,by simp only;omega,?_⟩,by simp only;omega⟩⟩
    ·rw[CG hk hb];simp
    ·simp only;rw[Cm,h3,hb];rfl
   ·have:k=n:=by clear hy;omega
    rw[<- this,h3];rfl
theorem Y8 (f:FuncId) (B:Nat->Bool) (a:Option Addr) (n c:Nat) (xs:List Value) (m:Mem) (hr:aM m a n 5 xs) (hn:n<=az) (av:gM Tryz.prog f=true)
  (hx:∀i,i<n->∃X:Fc,(xs.drop (i * 5)).take 5=X.cs/\∀m',ak m m' ->ay f [.v (.agg ⟨X.cs⟩)] m' (.bool (B i))):
  ay 140 [.v (.slice a n c),.v (.func (.func f) ⟨[]⟩ ⟨[]⟩)] m (.bool (j0 n B)):=by
 refine aH aw Tryz.func140 ?_
 ·simp only[go_sem];refine ab ((Yz f B a n c xs m hr hn av hx).mono ?_);clear hx;rintro r H' m' hm ⟨hle,rfl,i,rfl,hi⟩;simp only[go_sem];exact⟨hle,hi⟩
theorem Yy (f:FuncId) (B:Nat->Bool) (a:Option Addr) (n c:Nat) (xs:List Value) (m:Mem) (hr:aM m a n 8 xs) (hn:n<=az) (av:gM Tryz.prog f=true)
  (hx:∀i,i<n->∃X:Mc,(xs.drop (i * 8)).take 8=X.cs/\∀m',ak m m' ->ay f [.v (.agg ⟨X.cs⟩)] m' (.bool (B i))):
  FnH Tryz.prog 200 [.v (.slice a n c),.v (.func (.func f) ⟨[]⟩ ⟨[]⟩)] ⟨[],[]⟩ m fun r H' m' =>ak m m' /\H' =⟨[],[]⟩/\∃i:Int,r= .v (.int .i64 i)/\decide (0<=i)=j0 n B:=by
 refine aH aw Tryz.func200 ?_
 ·simp only[go_sem];refine cK aw (fun x:Nat×Mem=>⟨[⟨0,[],.v (.slice a n c)⟩,⟨1,[],.v (.func (.func f) ⟨[]⟩ ⟨[]⟩)⟩,⟨7,[],.v (.int .i64 n)⟩,⟨8,[],.v (.int .i64 x.1)⟩],[],[],[],0,x.2⟩)
   (fun x=>ak m x.2/\x.1<=n/\j0 x.1 B=false) (fun x=>n - x.1) (0,m) (fun _ _=>aq _) (fun x hx=>hx.1) ?_ ?_ ?_
  ·simp only[go_sem];rfl
  ·exact⟨.inl rfl,au _,rfl⟩
  ·rintro⟨k,mm⟩ ⟨h1,h2,h3⟩;simp only at h1 h2 h3;have dA:gp.own f=false:=rfl;have hy:∀(hk:k<n),∃X:Mc,(Rd mm (cI a (k * 8)) X.cs/\a≠none)/\ay f [.v (.agg ⟨X.cs⟩)] mm (.bool (B k)):=fun hk=>by
     obtain⟨X,e1,e3⟩:=hx k hk;have r1:=ed (aK h1 hr) hk;rw[e1] at r1;exact⟨X,r1,e3 mm h1⟩
   clear hx;simp only[go_sem,dA];refine⟨fun ao=> ?_,fun cA=>⟨h1,?_⟩⟩
   ·have hk:k<n:=by clear hy;omega
    refine Exists.elim (hy hk) fun X bc=>⟨⟨by clear hy bc;omega,ao,bc.1.2⟩,X.cs,⟨bc.1.1,rfl⟩,?_⟩
    clear hy;have ha:=bc.2;clear bc;simp only[go_sem,dA,Mc.cs];refine⟨av,cE ((aS ha (fun V=>rfl)).mono ?_)⟩;clear ha;rintro r H' m' hm ⟨hle,rfl,rfl⟩;simp only[go_sem];refine⟨fun hb=>⟨aa h1 hle,?_⟩,fun hb=>⟨by unfold ax;simp only[az] at hn;omega,(k+1,m'),⟨by simp,.inl rfl⟩,⟨aa h1 hle,by simp only;omega,?_⟩,by simp only;omega⟩⟩
    ·rw[CG hk hb];simp
    ·simp only;rw[Cm,h3,hb];rfl
   ·have:k=n:=by clear hy;omega
    rw[<- this,h3];rfl
theorem Y7 (f:FuncId) (B:Nat->Bool) (a:Option Addr) (n c:Nat) (xs:List Value) (m:Mem) (hr:aM m a n 8 xs) (hn:n<=az) (av:gM Tryz.prog f=true)
  (hx:∀i,i<n->∃X:Mc,(xs.drop (i * 8)).take 8=X.cs/\∀m',ak m m' ->ay f [.v (.agg ⟨X.cs⟩)] m' (.bool (B i))):
  ay 141 [.v (.slice a n c),.v (.func (.func f) ⟨[]⟩ ⟨[]⟩)] m (.bool (j0 n B)):=by
 refine aH aw Tryz.func141 ?_
 ·simp only[go_sem];refine ab ((Yy f B a n c xs m hr hn av hx).mono ?_);clear hx;rintro r H' m' hm ⟨hle,rfl,i,rfl,hi⟩;simp only[go_sem];exact⟨hle,hi⟩
theorem abc (f:FuncId) (B:Nat->Bool) (a:Option Addr) (n c:Nat) (xs:List Value) (m:Mem) (hr:aM m a n 1 xs) (hn:n<=az) (av:gM Tryz.prog f=true)
  (hx:∀i,i<n->∃s:List UInt8,xs[i]? =some (.string (bs s))/\∀m',ak m m' ->ay f [.v (.string (bs s))] m' (.bool (B i))):
  FnH Tryz.prog 198 [.v (.slice a n c),.v (.func (.func f) ⟨[]⟩ ⟨[]⟩)] ⟨[],[]⟩ m fun r H' m' =>ak m m' /\H' =⟨[],[]⟩/\∃i:Int,r= .v (.int .i64 i)/\decide (0<=i)=j0 n B:=by
 refine aH aw Tryz.func198 ?_
 ·simp only[go_sem];refine cK aw (fun x:Nat×Mem=>⟨[⟨0,[],.v (.slice a n c)⟩,⟨1,[],.v (.func (.func f) ⟨[]⟩ ⟨[]⟩)⟩,⟨7,[],.v (.int .i64 n)⟩,⟨8,[],.v (.int .i64 x.1)⟩],[],[],[],0,x.2⟩)
   (fun x=>ak m x.2/\x.1<=n/\j0 x.1 B=false) (fun x=>n - x.1) (0,m) (fun _ _=>aq _) (fun x hx=>hx.1) ?_ ?_ ?_
  ·simp only[go_sem];rfl
  ·exact⟨.inl rfl,au _,rfl⟩
  ·rintro⟨k,mm⟩ ⟨h1,h2,h3⟩;simp only at h1 h2 h3;have dA:gp.own f=false:=rfl;have hy:∀(hk:k<n),∃s:List UInt8,(Rd mm (cI a k) [.string (bs s)]/\a≠none)/\ay f [.v (.string (bs s))] mm (.bool (B k)):=fun hk=>by
     obtain⟨s,e1,e3⟩:=hx k hk;obtain⟨tr,r1,cY⟩:=CU (aK h1 hr) hk;rw[List.getElem?_eq_getElem tr] at e1;rw[Option.some.inj e1] at r1;exact⟨s,⟨r1,cY⟩,e3 mm h1⟩
   clear hx;simp only[go_sem,dA];refine⟨fun ao=> ?_,fun cA=>⟨h1,?_⟩⟩
   ·have hk:k<n:=by clear hy;omega
    refine Exists.elim (hy hk) fun s bc=>⟨⟨by clear hy bc;omega,ao,bc.1.2⟩,_,bc.1.1,?_⟩
    clear hy;have ha:=bc.2;clear bc;refine⟨av,cE ((ha).mono ?_)⟩;clear ha;rintro r H' m' hm ⟨hle,rfl,rfl⟩;simp only[go_sem];refine⟨fun hb=>⟨aa h1 hle,?_⟩,fun hb=>⟨by unfold ax;simp only[az] at hn;omega,(k+1,m'),⟨by simp,.inl rfl⟩,⟨aa h1 hle,by simp only;omega,?_⟩,by simp only;omega⟩⟩
    ·rw[CG hk hb];simp
    ·simp only;rw[Cm,h3,hb];rfl
   ·have:k=n:=by clear hy;omega
    rw[<- this,h3];rfl
theorem abP (f:FuncId) (B:Nat->Bool) (a:Option Addr) (n c:Nat) (xs:List Value) (m:Mem) (hr:aM m a n 1 xs) (hn:n<=az) (av:gM Tryz.prog f=true)
  (hx:∀i,i<n->∃s:List UInt8,xs[i]? =some (.string (bs s))/\∀m',ak m m' ->ay f [.v (.string (bs s))] m' (.bool (B i))):
  ay 139 [.v (.slice a n c),.v (.func (.func f) ⟨[]⟩ ⟨[]⟩)] m (.bool (j0 n B)):=by
 refine aH aw Tryz.func139 ?_
 ·simp only[go_sem];refine ab ((abc f B a n c xs m hr hn av hx).mono ?_);clear hx;rintro r H' m' hm ⟨hle,rfl,i,rfl,hi⟩;simp only[go_sem];exact⟨hle,hi⟩
def af:Ty:=⟨0,0,[]⟩
def aaS (e:Ex):Ex:= .mk 15 0 [45] [] af [e]
end Go.Proofs.YtimddhkipjedcaaGreatDoor.E

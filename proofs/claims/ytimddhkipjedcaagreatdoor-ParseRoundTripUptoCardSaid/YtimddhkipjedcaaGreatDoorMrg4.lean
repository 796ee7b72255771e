/- Several texts in one. -/
import Derived.Lib.ParseIntB
import Derived.Shelf.LaysC
import Derived.Shelf.Strconv.ParseIntPublic10
import Derived.Test.YtimddhkipjedcaaGreatDoorMrg3
set_option linter.unusedSimpArgs false
set_option linter.unusedVariables false
set_option maxHeartbeats 4000000
set_option maxRecDepth 20000
namespace Go.Proofs.YtimddhkipjedcaaGreatDoor.E
open Go
def ff:List (List UInt8)->List Cd->List UInt8×Int
 |_,[]=>([],0)
 |seen,d::r=>if iA d=true then(if tH d=true then(d.name,9) else if(seen.contains d.name||nL d)=true then(d.name,6) else ff (seen++[d.name]) r) else(d.name,4)
theorem Ok (l:List Cd) (p:Option Addr) (n c:Nat) (m:Mem) (hg:Glob m) (hC:∀d∈l,CdB d) (h:oT m l p n c):
  FnH Tryz.prog 27 [.v (.slice p n c)] ⟨[],[]⟩ m fun r H' m' =>ae m m' /\H' =⟨[],[]⟩/\r= .tup [.v (.string (bs (ff [] l).1)),.v (.int .i64 (ff [] l).2)]:=by
 obtain⟨hl,ba,hn,xs,r1,s1⟩:=h;refine aR aB Tryz.func27 ?_
 ·simp only[go_sem];refine ew aB (fun x:Nat×Mem=>⟨[⟨4,[],.mp 0⟩,⟨8,[],.v (.slice p n c)⟩,⟨9,[],.v (.int .i64 n)⟩,⟨10,[],.v (.int .i64 x.1)⟩],[],[⟨0,1000000,(vA ((l.map (·.name)).take x.1)).map .v⟩],[],1,x.2⟩)
   (fun x=>ae m x.2/\x.1<=n/\ff [] l=ff ((l.map (·.name)).take x.1) (l.drop x.1)) (fun x=>n - x.1) (0,m) (by kernel_rfl) (fun _ _=>av _) (fun x hx=>hx.1) (fun _=> ?_) ?_ ?_ ?_
  ·simp only[go_sem,FG]
  ·simp only[go_sem];exact⟨rfl,rfl⟩
  ·exact⟨.inl rfl,aD _,rfl⟩
  ·rintro⟨k,mm⟩ ⟨h1,h2,h3⟩;simp only at h1 h2 h3;have hy:∀(hk:k<l.length),∃X:Cc,(Rd mm (cO p (k * 7)) X.cs/\p≠none)/\X.name=l[k].name/\
     (aK 54 [.v (.agg ⟨X.cs⟩)] mm (.bool (iA l[k])))/\(∀m',ae mm m' ->aK 55 [.v (.agg ⟨X.cs⟩)] m' (.bool (tH l[k])))/\(∀m',ae mm m' ->aK 56 [.v (.agg ⟨X.cs⟩)] m' (.bool (nL l[k]))):=fun hk=>by
    have aT:=qu h1 (nZ s1 hk);have bW:=dH (ay h1 r1) (by omega:k<n);have hX:∃X:Cc,(xs.drop (k * 7)).take 7=X.cs/\X.name=l[k].name:=by
     obtain⟨X,e1,_⟩:=aT;exact⟨X,e1.1,e1.2.2.1⟩
    obtain⟨X,e1,e2⟩:=hX;rw[e1] at bW aT;have au:=hC _ (List.getElem_mem hk);exact⟨X,bW,e2,Xy _ _ mm (hg.upM h1) aT,fun m' hle=>ZD _ _ m' au (qu hle aT),fun m' hle=>abJ _ _ m' (qu hle aT)⟩
   have jf:∀(hk:k<l.length),ff [] l=(if iA l[k]=true then(if tH l[k]=true then(l[k].name,9) else if(((l.map (·.name)).take k).contains l[k].name||nL l[k])=true then(l[k].name,6) else ff ((l.map (·.name)).take (k+1)) (l.drop (k+1))) else(l[k].name,4)):=fun hk=>by
    rw[h3,List.drop_eq_getElem_cons hk,ff];have:(l.map (·.name)).take (k+1)=(l.map (·.name)).take k++[l[k].name]:=by
     rw[List.take_succ_eq_append_getElem (by simpa using hk)];simp
    rw[this]
   clear hC;simp only[go_sem];refine⟨fun aw=> ?_,fun cg=> ?_⟩
   ·have hk:k<l.length:=by clear hy;omega
    have mT:=jf hk;clear jf;refine Exists.elim (hy hk) fun X bt=>⟨⟨by clear hy bt;omega,aw,bt.1.2⟩,X.cs,⟨bt.1.1,rfl⟩,?_⟩
    clear hy;have sS:=bt.2.1;have hV:=bt.2.2.1;have MH:=bt.2.2.2.1;have Ee:=bt.2.2.2.2;clear bt;simp only[go_sem,Cc.cs];refine ab ((aP hV (fun V=>rfl)).mono ?_);clear hV;rintro r H' m2 aH ⟨l2,rfl,rfl⟩;simp only[go_sem,Cc.cs];refine⟨fun b1=>⟨aa h1 l2,?_⟩,fun b1=>ab ((aP (MH m2 l2) (fun V=>rfl)).mono ?_)⟩
    ·clear MH Ee;rw[mT,af (by rw[b1];decide),sS]
    ·clear MH;rw[ah b1] at mT;rintro r H' m3 bI ⟨l3,rfl,rfl⟩;have G9:=aa l2 l3;simp only[go_sem,Cc.cs,BA,EM];refine⟨fun b2=>⟨aa h1 G9,?_⟩,fun b2=> ?_⟩
     ·clear Ee;rw[mT,ah b2,sS]
     ·rw[af (by rw[b2];decide)] at mT;refine⟨fun b3=>ab ((aP (Ee m3 G9) (fun V=>rfl)).mono ?_),fun b3=>⟨aa h1 G9,?_⟩⟩
      ·clear Ee;rw[<- sS,b3,Bool.false_or] at mT;rintro r H' m4 cQ ⟨l4,rfl,rfl⟩;have Vn:=aa G9 l4;simp only[go_sem,Cc.cs,BA,EM];refine⟨fun b4=>⟨aa h1 Vn,?_⟩,fun b4=>⟨by unfold aF;simp only[aq] at hn;omega,(k+1,m4),⟨by simp,?_,.inl rfl⟩,⟨aa h1 Vn,by simp only;omega,?_⟩,by simp only;omega⟩⟩
       ·rw[mT,ah b4]
       ·have cF:k<(l.map (·.name)).length:=by simpa using hk
        simp only;rw[Jf _ _ b3,List.take_succ_eq_append_getElem cF,sS];simp
       ·simp only;rw[mT,af (by rw[b4];decide)]
      ·clear Ee;rw[mT,<- sS,b3,ah (by simp)]
   ·clear hy;rw[h3,List.drop_of_length_le (by omega),ff];exact⟨h1,rfl⟩
def bK:List (Int×List UInt8):=[(1,[112,117,98,108,105,99]),(2,[112,114,105,118,97,116,101]),(4,[112,114,111,116,101,99,116,101,100]),(8,[115,116,97,116,105,99]),(16,[102,105,110,97,108]),(32,[115,121,110,99]),(1024,[97,98,115,116,114,97,99,116])]
def cR (fl:Int):List Tk:=(bK.filter fun p=>hasB fl p.1).map fun p=>kw p.2
def gM (w:List UInt8):List (List UInt8)->List Tk
 |[]=>[]
 |s::r=>kw w::aM s::(r.map fun t=>[sg [44],aM t]).flatten
theorem aaY (fl:Int) {k:Nat} (hk:k<7):((bK.take (k+1)).filter fun p=>hasB fl p.1).map (fun p=>kw p.2)=((bK.take k).filter fun p=>hasB fl p.1).map (fun p=>kw p.2)++(if hasB fl (bK[k]'hk).1=true then[kw (bK[k]'hk).2] else[]):=by
 rw[List.take_succ_eq_append_getElem hk,List.filter_append,List.map_append];congr 1
 cases h:hasB fl (bK[k]'hk).1<;>simp [h]
theorem R6 (fl:Int) (k:Nat):(((bK.take k).filter fun p=>hasB fl p.1).map (fun p=>kw p.2)).length<=7:=by
 rw[List.length_map];refine cX (List.length_filter_le _ _) ?_;rw[List.length_take];exact Nat.min_le_right _ _
theorem xP (fl:Int):(cR fl).length<=7:=R6 fl 7
theorem abd (w:List UInt8):∀{l:List (List UInt8)} {k:Nat} (hk:k<l.length),gM w (l.take (k+1))=gM w (l.take k)++(if k=0 then[kw w] else[sg [44]])++[aM l[k]]
 |[],_,hk=>absurd hk (Nat.not_lt_zero _)
 |s::r,0,_=>by simp [gM]
 |s::r,k+1,hk=>by
  have fp:k<r.length:=by simpa using hk
  simp only[List.take_succ_cons,gM,List.getElem_cons_succ,Nat.add_one_ne_zero,if_false];rw[List.take_succ_eq_append_getElem fp,List.map_append,List.flatten_append];simp only[bJ,List.map_nil,List.flatten_cons,List.flatten_nil,List.append_nil,dW,List.nil_append,List.append_assoc]
theorem Co (w:List UInt8):∀(l:List (List UInt8)),(gM w l).length=l.length * 2
 |[]=>rfl
 |s::r=>by
  simp only[gM,aL]
  rw[show((r.map fun t=>[sg [44],aM t]).flatten).length=r.length * 2 by
   induction r with
   |nil=>rfl
   |cons a r ih=>simp only[bJ,List.flatten_cons,aI,aL,bg,ih];omega]
  omega
def pL (f:Fc):List Tk:=cR f.fl++b5 f.ty.dim f.ty.base f.ty.name++[aM f.name]++[sg [59]]
def pS (d:Cd):List Tk:=
 if hasB d.fl 512=true then cR (bits .andNot .i64 d.fl 1024)++[kw [105,110,116,101,114,102,97,99,101]]++[aM d.name]++gM [101,120,116,101,110,100,115] d.ifs
 else cR d.fl++[kw [99,108,97,115,115]]++[aM d.name]++[kw [101,120,116,101,110,100,115]]++[aM d.super]++gM [105,109,112,108,101,109,101,110,116,115] d.ifs
def F7 (IT:List Tk) (MT:Md->List Tk) (d:Cd):List Tk:=
 pS d++[sg [123]]++(d.fields.map pL).flatten++(if 0<d.init.length then[kw [115,116,97,116,105,99]]++IT else[])++(d.methods.map MT).flatten++[sg [125]]
theorem EL {α:Type} {f:α->List Tk}:∀{l:List α} {k:Nat} (hk:k<l.length),((l.take (k+1)).map f).flatten=((l.take k).map f).flatten++f l[k]:=fun{l k} hk=>by
 rw[List.take_succ_eq_append_getElem hk,List.map_append,List.flatten_append];simp
theorem Ag {α:Type} {f:α->List Tk}:∀(l:List α) (k:Nat),((l.take k).map f).flatten.length<=((l.map f).flatten).length
 |[],k=>by simp
 |x::r,0=>by simp
 |x::r,k+1=>by
  have:=Ag (f:=f) r k;simp only[List.take_succ_cons,bJ,List.flatten_cons,aI];omega
def bl (l:List Tk):List Tk:=sg [123]::(l++[sg [125]])
def Ex.args:Ex->List Ex | .mk _ _ _ _ _ args=>args
def pf (k:Int) (nm:List UInt8) (ty:Ty) (tg ex:Ex) (B A:List Tk) (al:Nat):List Tk:=
 if k=4 then[kw [105,102]]++bh [aC ex]++bl B++(if 0<al then[kw [101,108,115,101]]++bl A else[])
 else if k=5 then[kw [119,104,105,108,101]]++bh [aC ex]++bl B
 else if k=8 then[kw [116,114,121]]++bl B++[kw [99,97,116,99,104]]++[sg [40]]++b5 ty.dim ty.base ty.name++[aM nm]++[sg [41]]++bl A
 else if k=9 then[kw [115,121,110,99]]++bh [aC ex]++bl B
 else if k=10 then bl B
 else(if k=1 then b5 ty.dim ty.base ty.name++[aM nm]++[sg [61]]++aC ex
  else if k=2 then aC tg++[sg [61]]++aC ex
  else if k=3 then aC ex
  else if k=6 then[kw [114,101,116,117,114,110]]++(if ex.k≠0 then aC ex else[])
  else if k=7 then[kw [116,104,114,111,119]]++aC ex
  else if k=11 then[kw [115,117,112,101,114]]++bh (ex.args.map aC)
  else[])++[sg [59]]
mutual
def cT:St->List Tk
 | .mk k nm ty tg ex body alt=>pf k nm ty tg ex (be body) (be alt) alt.length
def be:List St->List Tk
 |[]=>[]
 |e::r=>cT e++be r
end
def cS (p:Pc):List Tk:=b5 p.ty.dim p.ty.base p.ty.name++[aM p.name]
def eQ (d:Md):List Tk:=
 cR d.fl++(if d.name=eK then[kw [110,101,119]] else b5 d.res.dim d.res.base d.res.name++[aM d.name])++bh (d.params.map cS)++(if d.hb=true then bl (be d.body) else[sg [59]])
def jy (d:Cd):List Tk:=F7 (bl (be d.init)) eQ d
def mI (l:List Cd):List Tk:=(l.map jy).flatten
def nK (l:List Cd):List UInt8×Int:=if(ff [] l).2=0 then ld (mI l) else([],(ff [] l).2)
def aji:List Cd:=[⟨0,[112,47,65],kH,[],[⟨0,⟨0,74,[]⟩,[120]⟩],[],[]⟩]
def alG:List Cd:=[⟨0,[112,47,97],kH,[],[],[],[]⟩]
def akt:Ex:= .mk 1 1 [] [] ai []
def af2:Ex:= .mk 1 0 [] [] ai []
def aiZ:Ex:= .mk 1 2 [] [] ai []
def aE:Ex:= .mk 6 0 [97] [] ai []
def ajg:Ex:= .mk 16 0 [43] [] ai [akt,aku aE]
def alH:Ex:= .mk 14 0 [] [] ⟨1,73,[]⟩ [aiZ]
def akC:Ex:= .mk 9 0 [] [] ai [alH,af2]
set_option maxRecDepth 100000 in
theorem Wh:lY ajg=([49,32,43,32,40,32,45,32,97,32,41],0):=by decide+kernel
set_option maxRecDepth 100000 in
theorem Wg:lY akC=([110,101,119,32,105,110,116,32,91,32,93,32,91,32,50,32,93,32,91,32,48,32,93],0):=by decide+kernel
set_option maxRecDepth 100000 in
theorem We:nK aji=([99,108,97,115,115,32,112,58,58,65,32,101,120,116,101,110,100,115,32,108,97,110,103,58,58,79,98,106,101,99,116,32,123,32,108,111,110,103,32,120,32,59,32,125],0):=by decide+kernel
theorem Wd:(ff [] alG).2=4:=by decide+kernel
theorem Uv {m:Mem} {k n:Int} {s c:List UInt8} {ty:Ty} {args:List Ex} {a:Option Addr} {cp:Nat} {xs:List Value} (ba:args.length<=cp) (hr:aX m a args.length 8 xs) (au:G2 k n s c ty args.length) (eo:dz m args xs):
  bw m (.mk k n s c ty args) (aJ k n s c ty (.slice a args.length cp)):=by
 simp only[bw];exact⟨a,cp,xs,rfl,ba,hr,au,eo⟩
theorem ad3 {m:Mem} {xs:List Value}:dz m [] xs:=by simp only[dz]
end Go.Proofs.YtimddhkipjedcaaGreatDoor.E
namespace Go.Proofs.YtimddhkipjedcaaGreatDoor.E
open Go Go.ChangeShapes Go.WideShapes Go.ChangeAt Go.RowKit
theorem QB {α:Type} {p:Nat->α->Prop}:∀(n:Nat),(∀i,i<n->∃t,p i t)->∃ts:List α,ts.length=n/\∀i (hi:i<ts.length),p i ts[i]
 |0,_=>⟨[],rfl,fun i hi=>absurd hi (Nat.not_lt_zero _)⟩
 |n+1,h=>by
  obtain⟨ts,h1,h2⟩:=QB n fun i hi=>h i (by omega)
  obtain⟨t,ht⟩:=h n (Nat.lt_succ_self _);refine⟨ts++[t],by simp [h1],fun i hi=> ?_⟩;rcases Nat.lt_or_ge i ts.length with h3 |h3
  ·rw[List.getElem_append_left h3];exact h2 i h3
  ·have:i=n:=by rw[aI,iq] at hi;omega
   subst this;rw[List.getElem_append_right h3];simpa using ht
theorem Rw {α:Type} {W:World} {a:Addr} {len sz:Nat} (dp:0<sz) {p:Nat->α->List Value->Prop} (h:∀i,i<len->∃(x:α) (cs:List Value),cs.length=sz/\(∀j,j<sz->W.cell? (a.add (i * sz+j))=cs[j]?)/\p i x cs):
  ∃(l:List α) (xs:List Value),l.length=len/\aX ⟨W,fR W⟩ (some a) len sz xs/\∀i (hi:i<l.length),p i l[i] ((xs.drop (i * sz)).take sz):=by
 obtain⟨ts,hl,hp⟩:=QB (α:=α×{cs:List Value // cs.length=sz}) (p:=fun i x=>(∀j,j<sz->W.cell? (a.add (i * sz+j))=x.2.1[j]?)/\p i x.1 x.2.1) len fun i hi=>by
  obtain⟨x,cs,h1,h2,h3⟩:=h i hi;exact⟨⟨x,cs,h1⟩,h2,h3⟩
 have Bg:∀{i:Nat} (hi:i<ts.length),((flat (fun x=>x.2.1) ts).drop (i * sz)).take sz=ts[i].2.1:=fun hi=>oJ (fun x=>x.2.2) hi
 have ky:∀(l:List (α×{cs:List Value // cs.length=sz})),(flat (fun x=>x.2.1) l).length=l.length * sz:=fun l=>by
  induction l with
  |nil=>simp [flat]
  |cons x r ih=>
   simp only[flat,bJ,List.flatten_cons,aI,aL,Nat.succ_mul] at ih ⊢;rw[ih,x.2.2];omega
 refine⟨ts.map (·.1),flat (fun x=>x.2.1) ts,by simp [hl],⟨by rw[ky,hl],fun h0=>⟨a,rfl,?_,fun j hj=> ?_⟩⟩,fun i hi=> ?_⟩
 ·have h1:=(hp 0 (by omega)).1 0 dp;have h2:(ts[0]'(by omega)).2.1[0]? =some ((ts[0]'(by omega)).2.1[0]'(by rw[(ts[0]'(by omega)).2.2];exact dp)):=List.getElem?_eq_getElem _;rw[h2] at h1;have:=(zR h1).1;simpa [Addr.add] using this
 ·have hq:j / sz<ts.length:=by rw[hl];exact Nat.div_lt_of_lt_mul (by rw[Nat.mul_comm];exact hj)
  have hr:j % sz<sz:=Nat.mod_lt _ dp;have VL:j / sz * sz+j % sz=j:=Nat.div_add_mod' j sz;have h1:=(hp (j / sz) hq).1 (j % sz) hr;rw[VL] at h1;have h2:(flat (fun x=>x.2.1) ts)[j]? =(ts[j / sz]'hq).2.1[j % sz]? :=by
   rw[<- Bg hq,List.getElem?_take,ah hr,List.getElem?_drop,VL]
  have h3:(ts[j / sz]'hq).2.1[j % sz]? =some ((ts[j / sz]'hq).2.1[j % sz]'(by rw[(ts[j / sz]'hq).2.2];exact hr)):=List.getElem?_eq_getElem _;refine⟨by rw[h2];exact h1,?_⟩;rw[h3] at h1;have h4:=zR h1;have Wc:=(hp 0 (by omega)).1 0 dp;have h5:(ts[0]'(by omega)).2.1[0]? =some ((ts[0]'(by omega)).2.1[0]'(by rw[(ts[0]'(by omega)).2.2];exact dp)):=List.getElem?_eq_getElem _;rw[h5] at Wc;have hs:a.spot=none:=by
   have:=(zR Wc).1;simpa [Addr.add] using this
  obtain⟨p1,p2,_⟩:=mA a j hs;rw[p1,p2] at h4;exact h4.2
 ·have qg:i<ts.length:=by simpa using hi
  rw[Bg qg];simpa using(hp i qg).2
theorem Ph {m:Mem}:∀(l:List Ex) (xs:List Value),(∀i (hi:i<l.length),bw m l[i] ((xs.drop (i * 8)).take 8))->dz m l xs
 |[],_,_=>by simp only[dz]
 |e::r,xs,h=>by
  simp only[dz];have h0:=h 0 (by simp);rw[Nat.zero_mul,List.drop_zero,List.getElem_cons_zero] at h0;refine⟨h0,Ph r (xs.drop 8) fun i hi=> ?_⟩;have:=h (i+1) (by simpa using hi);rw[List.getElem_cons_succ] at this;rw[List.drop_drop,show 8+i * 8=(i+1) * 8 by omega];exact this
theorem Oz {H:Type}:∀(l:List Ex) (ds:List (DataW H)),l.length=ds.length->(∀i (h:i<l.length) (h' :i<ds.length),dd l[i]<=Rows.uptoBulk ds[i])->eg l<=Rows.uptoBulkAll ds
 |[],_,_,_=>by simp [eg]
 |e::r,[],h,_=>by simp at h
 |e::r,d::ds,h,hp=>by
  have h1:=hp 0 (by simp) (by simp);have h2:=Oz r ds (by simpa using h) fun i h3 h4=>by
   have:=hp (i+1) (by simpa using h3) (by simpa using h4);simp only[List.getElem_cons_succ] at this;exact this
  simp only[eg,Rows.uptoBulkAll];simp only[List.getElem_cons_zero] at h1;omega
mutual
theorem xH:∀(e:Ex),bU e<=dd e
 | .mk _ _ _ _ _ args=>by
  have:=Nz args;simp only[bU,dd];omega
theorem Nz:∀(l:List Ex),kW l<=eg l
 |[]=>by simp [kW]
 |e::r=>by
  have h1:=xH e;have h2:=Nz r;simp only[kW,eg];omega
end
theorem O0:∀(l:List Ex),l.length<=eg l
 |[]=>aD _
 | .mk _ _ _ _ _ args::r=>by
  have:=O0 r;simp only[aL,eg,dd];omega
section
variable {H:Type} {enc:TypeId×Value->H} {W:World}
theorem yf {z:Int} (w:(Lit.int .i64 z).wf=true):aF z:=by
 have h:decide (IntKind.min .i64<=z)=true/\decide (z<=IntKind.max .i64)=true:=Bool.and_eq_true_iff.1 w;exact⟨of_decide_eq_true h.1,of_decide_eq_true h.2⟩
set_option maxRecDepth 100000 in
theorem Ck {fuel:Nat} {cs:List Value} {d:DataW H} {p:List MemPlace} (h:DataW.trod enc Tryz.prog W 0 (fun _=>true) true fuel 30 cs=some (d,p)):∃t:Ty,cs=yL t/\aF t.dim/\(0<=t.base/\t.base<256)/\t.name.length<=Rows.uptoBulk d:=by
 obtain⟨ys,n',_,hy,hlen,hyl,hf⟩:=DataW.trod_struct Tryz.underlying30 h;have hC:Tryz.prog.cellsOf 30=3:=by kernel_rfl
 have k3:Tryz.prog.cellsOf 3=1:=by kernel_rfl
 have k5:Tryz.prog.cellsOf 5=1:=by kernel_rfl
 have k9:Tryz.prog.cellsOf 9=1:=by kernel_rfl
 rw[hC] at hlen;match cs,hlen with
 |[c0,c1,c2],_=>
  match ys,hyl with
  |[y0,y1,y2],_=>
   have f0:DataW.trod enc Tryz.prog W 0 (fun _=>true) true n' 3 [c0]=some y0:=by have this:DataW.trod enc Tryz.prog W 0 (fun _=>true) true n' 3 (([c0,c1,c2].drop 0).take (Tryz.prog.cellsOf 3))=some y0:=hf 0 _ rfl;rw[k3] at this;exact this
   have f1:DataW.trod enc Tryz.prog W 0 (fun _=>true) true n' 5 [c1]=some y1:=by have this:DataW.trod enc Tryz.prog W 0 (fun _=>true) true n' 5 (([c0,c1,c2].drop 1).take (Tryz.prog.cellsOf 5))=some y1:=hf 1 _ rfl;rw[k5] at this;exact this
   have f2:DataW.trod enc Tryz.prog W 0 (fun _=>true) true n' 9 [c2]=some y2:=by have this:DataW.trod enc Tryz.prog W 0 (fun _=>true) true n' 9 (([c0,c1,c2].drop 2).take (Tryz.prog.cellsOf 9))=some y2:=hf 2 _ rfl;rw[k9] at this;exact this
   obtain⟨z0,e0,_,w0⟩:=DataW.trod_int Tryz.underlying3 f0;obtain⟨z1,e1,_,w1⟩:=DataW.trod_int Tryz.underlying5 f1;obtain⟨s,e2,x2,_⟩:=DataW.trod_string Tryz.underlying9 f2;cases e0;cases e1;cases e2;refine⟨⟨z0,z1,tl s⟩,by simp only[yL,kG],yf w0,?_,?_⟩
   ·have h:decide (IntKind.min .u8<=z1)=true/\decide (z1<=IntKind.max .u8)=true:=Bool.and_eq_true_iff.1 w1;have h1:IntKind.min .u8<=z1:=of_decide_eq_true h.1;have h2:z1<=IntKind.max .u8:=of_decide_eq_true h.2;have h3:IntKind.min .u8=0:=by decide
    have h4:IntKind.max .u8=255:=by decide
    simp only;omega
   ·have hD:d= .agg [y0.1,y1.1,y2.1]:=(Prod.mk.inj hy).1;have h2:Rows.uptoBulk d=Rows.uptoBulk y0.1+(Rows.uptoBulk y1.1+(Rows.uptoBulk y2.1+0))+1:=by rw[hD];rfl
    have h3:Rows.uptoBulk y2.1=s.data.toList.length+1:=by rw[x2];rfl
    show(tl s).length<=_;have e:(tl s).length=s.data.toList.length:=rfl;omega
set_option maxHeartbeats 1000000 in
set_option maxRecDepth 100000 in
theorem JJ:∀(B:Nat) (fuel:Nat) (cs:List Value) (d:DataW H) (p:List MemPlace),DataW.trod enc Tryz.prog W 0 (fun _=>true) true fuel 33 cs=some (d,p)->Rows.uptoBulk d<=B->B<=1048576->∃e:Ex,bw ⟨W,fR W⟩ e cs/\dd e<=Rows.uptoBulk d:=by
 intro B;induction B with
 |zero=>intro fuel cs d p _ hB _;have:=Fs d;omega
 |succ B ih=>
  intro fuel cs d p h hB hb;obtain⟨ys,n',_,hy,hlen,hyl,hf⟩:=DataW.trod_struct Tryz.underlying33 h;have hC:Tryz.prog.cellsOf 33=8:=by kernel_rfl
  have kT:Tryz.prog.cellsOf 30=3:=by kernel_rfl
  have kL:Tryz.prog.cellsOf 31=1:=by kernel_rfl
  have k3:Tryz.prog.cellsOf 3=1:=by kernel_rfl
  have k9:Tryz.prog.cellsOf 9=1:=by kernel_rfl
  rw[hC] at hlen;match cs,hlen with
  |[c0,c1,c2,c3,c4,c5,c6,c7],_=>
   match ys,hyl with
   |[y0,y1,y2,y3,y4,y5],_=>
    have f0:DataW.trod enc Tryz.prog W 0 (fun _=>true) true n' 3 [c0]=some y0:=by have this:DataW.trod enc Tryz.prog W 0 (fun _=>true) true n' 3 (([c0,c1,c2,c3,c4,c5,c6,c7].drop 0).take (Tryz.prog.cellsOf 3))=some y0:=hf 0 _ rfl;rw[k3] at this;exact this
    have f1:DataW.trod enc Tryz.prog W 0 (fun _=>true) true n' 3 [c1]=some y1:=by have this:DataW.trod enc Tryz.prog W 0 (fun _=>true) true n' 3 (([c0,c1,c2,c3,c4,c5,c6,c7].drop 1).take (Tryz.prog.cellsOf 3))=some y1:=hf 1 _ rfl;rw[k3] at this;exact this
    have f2:DataW.trod enc Tryz.prog W 0 (fun _=>true) true n' 9 [c2]=some y2:=by have this:DataW.trod enc Tryz.prog W 0 (fun _=>true) true n' 9 (([c0,c1,c2,c3,c4,c5,c6,c7].drop 2).take (Tryz.prog.cellsOf 9))=some y2:=hf 2 _ rfl;rw[k9] at this;exact this
    have f3:DataW.trod enc Tryz.prog W 0 (fun _=>true) true n' 9 [c3]=some y3:=by have this:DataW.trod enc Tryz.prog W 0 (fun _=>true) true n' 9 (([c0,c1,c2,c3,c4,c5,c6,c7].drop 3).take (Tryz.prog.cellsOf 9))=some y3:=hf 3 _ rfl;rw[k9] at this;exact this
    have f4:DataW.trod enc Tryz.prog W 0 (fun _=>true) true n' 30 [c4,c5,c6]=some y4:=by have this:DataW.trod enc Tryz.prog W 0 (fun _=>true) true n' 30 (([c0,c1,c2,c3,c4,c5,c6,c7].drop 4).take (Tryz.prog.cellsOf 30))=some y4:=hf 4 _ rfl;rw[kT] at this;exact this
    have f5:DataW.trod enc Tryz.prog W 0 (fun _=>true) true n' 31 [c7]=some y5:=by have this:DataW.trod enc Tryz.prog W 0 (fun _=>true) true n' 31 (([c0,c1,c2,c3,c4,c5,c6,c7].drop 7).take (Tryz.prog.cellsOf 31))=some y5:=hf 5 _ rfl;rw[kL] at this;exact this
    obtain⟨z0,e0,_,w0⟩:=DataW.trod_int Tryz.underlying3 f0;obtain⟨z1,e1,_,w1⟩:=DataW.trod_int Tryz.underlying3 f1;obtain⟨s2,e2,x2,_⟩:=DataW.trod_string Tryz.underlying9 f2;obtain⟨s3,e3,x3,_⟩:=DataW.trod_string Tryz.underlying9 f3;obtain⟨ty,e4,t1,t2,t3⟩:=Ck (d:=y4.1) (p:=y4.2) f4;have hD:d= .agg [y0.1,y1.1,y2.1,y3.1,y4.1,y5.1]:=(Prod.mk.inj hy).1;have nf:Rows.uptoBulk d=Rows.uptoBulk y0.1+(Rows.uptoBulk y1.1+(Rows.uptoBulk y2.1+(Rows.uptoBulk y3.1+(Rows.uptoBulk y4.1+(Rows.uptoBulk y5.1+0)))))+1:=by rw[hD];rfl
    have b2:Rows.uptoBulk y2.1=s2.data.toList.length+1:=by rw[x2];rfl
    have b3:Rows.uptoBulk y3.1=s3.data.toList.length+1:=by rw[x3];rfl
    have l2:(tl s2).length=s2.data.toList.length:=rfl;have l3:(tl s3).length=s3.data.toList.length:=rfl;simp only[yL,List.cons.injEq,and_true] at e4;obtain⟨rfl,rfl,rfl⟩:=e4;cases e0;cases e1;cases e2;cases e3;have au:∀l:Nat,l<=aq->G2 z0 z1 (tl s2) (tl s3) ty l:=fun l hl=>⟨yf w0,yf w1,by simp only[aq];omega,by simp only[aq];omega,⟨t1,t2,by simp only[aq];omega⟩,hl⟩
    have gD:∀c7,[Value.int .i64 z0,.int .i64 z1,.string s2,.string s3,.int .i64 ty.dim,.int .u8 ty.base,.string (bs ty.name),c7]=aJ z0 z1 (tl s2) (tl s3) ty c7:=fun c7=>by simp only[aJ,kG]
    rcases Deep.open_slice Tryz.underlying31 f5 with ⟨hc,hx⟩ |⟨a,len,cap,m,n,D,Pl,hcs7,_,hl,hm,hmm,hx,hi⟩
    ·have xA:c7= .slice none 0 0:=by simpa using hc
     subst xA;refine⟨.mk z0 z1 (tl s2) (tl s3) ty [],?_,by simp only[dd,eg];omega⟩;rw[gD];exact Uv (args:=[]) (av _) lT (au _ (aD _)) ad3
    ·have xA:c7= .slice (some a) len cap:=by simpa using hcs7
     have aH:m=cap:=by simpa using hmm
     subst xA;have Mz:y5.1= .slice (List.map D (List.range len)) (List.map (fun j=>D (len+j)) (List.range (m - len))):=(Prod.mk.inj hx).1;have hb5:Rows.uptoBulk y5.1=Rows.uptoBulkAll (List.map D (List.range len))+Rows.uptoBulkAll (List.map (fun j=>D (len+j)) (List.range (m - len)))+1:=by rw[Mz];rfl
     obtain⟨l,xs,lN,hr,hp⟩:=Rw (W:=W) (a:=a) (len:=len) (sz:=8) (by decide) (p:=fun i (x:Ex) cs=>bw ⟨W,fR W⟩ x cs/\dd x<=Rows.uptoBulk (D i)) fun i dv=>by
      obtain⟨ck,hc,yW⟩:=hi i (by omega);rw[hC] at hc;obtain⟨_,cu,gE⟩:=World.cells?_some hc;have vu:D i∈List.map D (List.range len):=List.mem_map.2 ⟨i,List.mem_range.2 dv,rfl⟩;have uv:=Jx vu;obtain⟨e,he,hs⟩:=ih n ck (D i) (Pl i) yW (by omega) (by omega);exact⟨e,ck,cu,fun j hj=>by rw[<- Deep.add_add];exact gE j hj,he,hs⟩
     have dp:=Oz l (List.map D (List.range len)) (by simp [lN]) fun i h1 h2=>by simpa using(hp i h1).2
     have Be:=O0 l;subst lN;refine⟨.mk z0 z1 (tl s2) (tl s3) ty l,?_,by simp only[dd];omega⟩;rw[gD];exact Uv hl hr (au _ (by simp only[aq];omega)) (Ph l xs fun i hi=>(hp i hi).1)
set_option maxRecDepth 100000 in
theorem Zh {v:Value} {d:DataW H} {p:List MemPlace} {r:Reach} {b0:Nat} (vt:Value.okWide Tryz.prog W r b0 33 v) (h:DataW.Trod enc Tryz.prog W 0 (fun _=>true) true 33 v d p) (hb:Rows.uptoBulk d<=1048576):
  ∃(e:Ex) (cs:List Value),v= .agg ⟨cs⟩/\bw ⟨W,fR W⟩ e cs/\dd e<=1048576:=by
 obtain⟨⟨ck⟩,rfl,dp⟩:=okWide_struct Tryz.underlying33 vt;obtain⟨fuel,h⟩:=h;obtain⟨e,h1,h2⟩:=JJ (Rows.uptoBulk d) fuel ck d p h (av _) hb;exact⟨e,ck,rfl,h1,cX h2 hb⟩
end
theorem ab5 (ad:Addr) (i j:Nat) (h:ad.spot=none):(ad.add i).add j=ad.add (i+j):=by
 obtain⟨e1,e2,e3⟩:=mA ad i h;obtain⟨f1,f2,f3⟩:=mA (ad.add i) j e3;obtain⟨g1,g2,g3⟩:=mA ad (i+j) h;rcases hx:(ad.add i).add j with ⟨b,o,s⟩
 rcases hy:ad.add (i+j) with ⟨b',o',s'⟩
 rw[hx] at f1 f2 f3;rw[hy] at g1 g2 g3;simp only at f1 f2 f3 g1 g2 g3;subst f3 g3;have h1:b=b' :=by omega
 have h2:o=o' :=by omega
 rw[h1,h2]
theorem iZ {m:Mem} {x:Value} {cs:List Value} (h:Rd m x cs):KB x:=by
 obtain⟨ad,e,_⟩:=h;exact⟨ad,e⟩
theorem gU {m:Mem} {x:Value} {cs:List Value} (h:Rd m x cs) (o n:Nat) (hn:o+n<=cs.length):Rd m (wg x o) ((cs.drop o).take n):=by
 obtain⟨ad,rfl,hs,hc⟩:=h;obtain⟨e1,e2,e3⟩:=mA ad o hs;refine⟨ad.add o,rfl,e3,fun j hj=> ?_⟩;have hl:((cs.drop o).take n).length=n:=by rw[List.length_take,dG];omega
 rw[hl] at hj;obtain⟨h1,h2⟩:=hc (o+j) (by omega);refine⟨by rw[ab5 ad o j hs,h1,List.getElem?_take,ah hj,List.getElem?_drop],by rw[e1,e2];omega⟩
theorem B3:∀(h:Nat) (a b:Ex) (ca cb:List Value) (m:Mem),bU a<=h->bw m a ca->bw m b cb->aK 17 [.v (.agg ⟨ca⟩),.v (.agg ⟨cb⟩)] m (.bool (iG a b))
 |0,.mk k n s c ty args,b,ca,cb,m,hd,_,_=>by simp [bU] at hd
 |h+1,.mk k n s c ty args,.mk k' n' s' c' dT jb,ca,cb,m,hd,ha,hb=>by
  obtain⟨x,rfl,rfl,rfl,rfl,rfl,rfl,hl,ba,hn,xs,hr,eo⟩:=rD ha;obtain⟨x',rfl,rfl,rfl,rfl,rfl,rfl,lu,hcp',zc,xs',hr',hes'⟩:=rD hb;simp only[bU] at hd;have hE:=fun m' (hle:ae m m')=>QV (uH hle eo) (uH hle hes') (f:=17) fun y hy z hz cy cz ku aY r1 r2=>B3 h y z cy cz ku (by have:=BF hy;omega) r1 r2
  refine enter gY aB Tryz.func17 rfl rfl (by kernel_rfl) rfl ?_ ?_
  ·simp only[go_sem,Nd.cs]
  ·simp only[go_sem,Nd.cs,qG];have hX:iG (Ex.mk x.k x.n x.s x.c x.ty args) (Ex.mk x'.k x'.n x'.s x'.c x'.ty jb)=(decide (x.k=x'.k)&&decide (x.n=x'.n)&&decide (x.s=x'.s)&&decide (x.c=x'.c)&&Ty.eq x.ty x'.ty&&(decide (args.length=jb.length)&&gw args.length (fA iG args jb))):=by rw[iG,IZ,rA]
   refine⟨fun h=> ?_,fun h=> ?_⟩
   ·clear hE;rw[hX];simp only[Ty.eq];rcases h with ((((h |h) |h) |h) |h |h |h) |h
    ·simp [h]
    ·simp [h]
    ·simp [h]
    ·simp [h]
    ·simp [h]
    ·simp [h]
    ·simp [h]
    ·rw[dr (by omega:¬args.length=jb.length)];simp
   ·have lN:args.length=jb.length:=by clear hE;omega
    have rh:iG (Ex.mk x.k x.n x.s x.c x.ty args) (Ex.mk x'.k x'.n x'.s x'.c x'.ty jb)=gw args.length (fA iG args jb):=by rw[hX];simp only[Ty.eq,h,lN,ao,Bool.true_and]
    clear hX;refine ew aB (fun y:Nat×Mem=>⟨[⟨2,[],.box 0 0⟩,⟨3,[],.box 1 0⟩,⟨5,[],.v (.int .i64 y.1)⟩],[],[⟨0,33,x.cs.map .v⟩,⟨1,33,x'.cs.map .v⟩],[],2,y.2⟩)
     (fun y=>ae m y.2/\y.1<=x.l/\gw y.1 (fA iG args jb)=true) (fun y=>x.l - y.1) (0,m) (by kernel_rfl) (fun _ _=>av _) (fun y hy=>hy.1) (fun _=> ?_) ?_ ?_ ?_
    ·simp only[go_sem,Nd.cs]
    ·simp only[go_sem,Nd.cs];rfl
    ·exact⟨.inl rfl,aD _,rfl⟩
    ·rintro⟨k,mm⟩ ⟨h1,h2,h3⟩;simp only at h1 h2 h3;have hy:∀(hk:k<args.length),∃X Y:Nd,(Rd mm (cO x.a (k * 8)) X.cs/\x.a≠none)/\(Rd mm (cO x'.a (k * 8)) Y.cs/\x'.a≠none)/\aK 17 [.v (.agg ⟨X.cs⟩),.v (.agg ⟨Y.cs⟩)] mm (.bool (fA iG args jb k)):=fun hk=>by
      obtain⟨X,Y,e1,e2,e3⟩:=hE mm h1 k hk lN;have r1:=dH (ay h1 hr) (by omega:k<x.l);have r2:=dH (ay h1 hr') (by omega:k<x'.l);rw[e1] at r1;rw[e2] at r2;exact⟨X,Y,r1,r2,e3 mm (.inl rfl)⟩
     clear hE;simp only[go_sem,Nd.cs];refine⟨fun aw=> ?_,fun cg=> ?_⟩
     ·have hk:k<args.length:=by clear hy;omega
      refine bO (.hoist 0 (.hoist 1 (.hoist 2 (.hoist 3 (.hoist 4 (.hoist 5 (.hoist 6 (.hoist 7 (.hoist 8 (.hoist 9 (.alt 10 [] (.hoist 11 .done) .stop))))))))))) aB (by kernel_rfl) (by kernel_rfl) ?_;simp only[go_sem,Nd.cs];refine Exists.elim (hy hk) fun X fW=>Exists.elim fW fun Y fF=>⟨⟨by clear hy fW fF;omega,aw,fF.1.2⟩,X.cs,⟨fF.1.1,rfl⟩,?_⟩
      clear hy fW;have ha:=fF.2.2;simp only[go_sem,Nd.cs];refine⟨⟨by clear fF ha;omega,by clear fF ha;omega,fF.2.1.2⟩,Y.cs,⟨fF.2.1.1,rfl⟩,?_⟩;clear fF;simp only[go_sem,Nd.cs];refine ab ((aP ha (fun V=>rfl)).mono ?_);clear ha;rintro r H' m2 aH ⟨aY,rfl,rfl⟩;simp only[go_sem,Nd.cs];refine⟨fun hb=>⟨aa h1 aY,?_⟩,fun hb=>⟨by unfold aF;simp only[aq] at hn;omega,(k+1,m2),⟨by simp,.inl rfl⟩,⟨aa h1 aY,by simp only;omega,?_⟩,by simp only;omega⟩⟩
      ·rw[rh,lS hk hb]
      ·simp only;rw[tf,h3,hb];rfl
     ·have:k=args.length:=by clear hy;omega
      refine⟨h1,?_⟩;rw[rh,<- this,h3]
structure SbIt (X Y:Sd) (e e2:St) (mm:Mem) (bT bE bB bA:Bool):Prop where
 tg:∀m',ae mm m' ->aK 17 [.v (.agg ⟨X.tg.cs⟩),.v (.agg ⟨Y.tg.cs⟩)] m' (.bool bT)
 ex:∀m',ae mm m' ->aK 17 [.v (.agg ⟨X.ex.cs⟩),.v (.agg ⟨Y.ex.cs⟩)] m' (.bool bE)
 body:∀m',ae mm m' ->aK 18 [.v (.slice X.a X.l X.cp),.v (.slice Y.a Y.l Y.cp)] m' (.bool bB)
 alt:∀m',ae mm m' ->aK 18 [.v (.slice X.b X.l2 X.cp2),.v (.slice Y.b Y.l2 Y.cp2)] m' (.bool bA)
 eq:dq e e2=(decide (X.k=Y.k)&&decide (X.name=Y.name)&&Ty.eq X.ty Y.ty&&bT&&bE&&bB&&bA)
set_option maxHeartbeats 8000000 in
theorem OC:∀(h:Nat) (l l2:List St) (a:Option Addr) (n c:Nat) (a2:Option Addr) (n2 c2:Nat) (xs ys:List Value) (m:Mem),dy l<=h->n=l.length->n2=l2.length->n<=aq->n2<=aq->aX m a n 23 xs->aX m a2 n2 23 ys->bS m l xs->bS m l2 ys->
  aK 18 [.v (.slice a n c),.v (.slice a2 n2 c2)] m (.bool (gv l l2)):=by
 intro h;induction h using Nat.strongRecOn with
 |ind h ih=>
  intro l l2 a n c a2 n2 c2 xs ys m hd hl ct hn Hm hr lL hs uh;have hX:gv l l2=(decide (l.length=l2.length)&&gw l.length (fA dq l l2)):=by rw[E0,rA]
  refine aR aB Tryz.func18 ?_
  ·simp only[go_sem];refine⟨fun db=> ?_,fun heq=> ?_⟩
   ·rw[hX,dr (by clear ih;omega:¬l.length=l2.length)];rfl
   ·have lN:l.length=l2.length:=by clear ih;omega
    rw[eH lN,Bool.true_and] at hX;refine dA aB (fun y:Nat×Mem=>⟨[⟨0,[],.v (.slice a n c)⟩,⟨1,[],.v (.slice a2 n2 c2)⟩,⟨5,[],.v (.int .i64 y.1)⟩],[],[],[],0,y.2⟩)
     (fun y=>ae m y.2/\y.1<=n/\gw y.1 (fA dq l l2)=true) (fun y=>n - y.1) (0,m) (fun _ _=>av _) (fun y hy=>hy.1) ?_ ?_ ?_
    ·simp only[go_sem];rfl
    ·exact⟨.inl rfl,aD _,rfl⟩
    ·rintro⟨k,mm⟩ ⟨h1,h2,h3⟩;simp only at h1 h2 h3;have hy:∀(hk:k<l.length),∃(X Y:Sd) (bT bE bB bA:Bool) (e e2:St),(Rd mm (cO a (k * 23)) X.cs/\a≠none)/\(Rd mm (cO a2 (k * 23)) Y.cs/\a2≠none)/\SbIt X Y e e2 mm bT bE bB bA/\fA dq l l2 k=dq e e2:=fun hk=>by
      have vK:k<l2.length:=by omega
      have aT:=td h1 (qw hs hk);have Uq:=td h1 (qw uh vK);have bW:=dH (ay h1 hr) (by omega:k<n);have UI:=dH (ay h1 lL) (by omega:k<n2);have q1:=my (List.getElem_mem hk);have gE:fA dq l l2 k=dq l[k] l2[k]:=Av hk vK;cases he:l[k] with
      |mk k1 aM DE tg1 Wh body1 alt1=>
       cases he2:l2[k] with
       |mk k2 nm2 LL tg2 Wg body2 alt2=>
        rw[he] at aT q1 gE;rw[he2] at Uq gE;simp only[eT] at q1;obtain⟨X,hX,rfl,rfl,rfl,dn,hex,po,ba,hl2',eb,au,zs,ws,r1,r2,s1,s2⟩:=rB aT;obtain⟨Y,hY,rfl,rfl,rfl,htg',yz,hl1',hcp',hl2'',hcp2',hok',zs',ws',r1',r2',s1',s2'⟩:=rB Uq;rw[hX] at bW;rw[hY] at UI;refine⟨X,Y,_,_,_,_,_,_,bW,UI,⟨fun m' hle=>B3 _ tg1 tg2 _ _ m' (av _) (bq hle dn) (bq hle htg'),fun m' hle=>B3 _ Wh Wg _ _ m' (av _) (bq hle hex) (bq hle yz),fun m' hle=> ?_,fun m' hle=> ?_,rfl⟩,gE⟩
        ·exact ih (dy body1) (by omega) body1 body2 X.a X.l X.cp Y.a Y.l Y.cp zs zs' m' (av _) po hl1' (by rw[po];exact au.l) (by rw[hl1'];exact hok'.l) (ay hle r1) (ay hle r1') (dw hle s1) (dw hle s1')
        ·exact ih (dy alt1) (by omega) alt1 alt2 X.b X.l2 X.cp2 Y.b Y.l2 Y.cp2 ws ws' m' (av _) hl2' hl2'' (by rw[hl2'];exact au.l2) (by rw[hl2''];exact hok'.l2) (ay hle r2) (ay hle r2') (dw hle s2) (dw hle s2')
     clear ih;simp only[go_sem];refine⟨fun aw=> ?_,fun cg=> ?_⟩
     ·have hk:k<l.length:=by clear hy;omega
      refine bO (.hoist 0 (.hoist 1 (.hoist 2 (.hoist 3 (.hoist 4 (.hoist 5 (.hoist 6 (.hoist 7 (.alt 8 [7,6,5,4,3,2,1,0] (.alt 9 [7,6,5,4,3,2,1,0] (.alt 10 [7,6,5,4] (.alt 11 [] .done .stop) .stop) .stop) (.alt 9 [7,6,5,4,3,2,1,0] (.alt 8 [7,6,5,4,3,2,1,0] (.alt 10 [7,6,5,4] (.alt 11 [] .done .stop) .stop) .stop) .stop)))))))))) aB (by kernel_rfl) (by kernel_rfl) ?_;simp only[go_sem];refine Exists.elim (hy hk) fun X y1=>Exists.elim y1 fun Y y2=>Exists.elim y2 fun bT y3=>Exists.elim y3 fun bE y4=>Exists.elim y4 fun bB y5=>Exists.elim y5 fun bA y6=>Exists.elim y6 fun e y7=>Exists.elim y7 fun e2 y8=>⟨⟨by clear hy y1 y2 y3 y4 y5 y6 y7 y8;omega,aw,y8.1.2⟩,X.cs,⟨y8.1.1,rfl⟩,⟨by clear hy y1 y2 y3 y4 y5 y6 y7 y8;omega,by clear hy y1 y2 y3 y4 y5 y6 y7 y8;omega,y8.2.1.2⟩,Y.cs,⟨y8.2.1.1,rfl⟩,?_⟩
      clear hy y1 y2 y3 y4 y5 y6 y7;have hS:=y8.2.2.1;have gE:=y8.2.2.2;clear y8;simp only[go_sem,Sd.cs,Nd.cs,qG];refine⟨?_,?_⟩
      ·refine⟨fun he=>ab ((aP (hS.tg mm (.inl rfl)) (fun V=>rfl)).mono ?_),fun db=>⟨h1,?_⟩⟩
       ·have e0:dq e e2=(bT&&bE&&bB&&bA):=by rw[hS.eq];simp only[Ty.eq,he,ao,Bool.true_and]
        rintro r H' m2 aH ⟨dV,rfl,rfl⟩;simp only[go_sem,Sd.cs,Nd.cs];refine⟨fun b1=>ab ((aP (hS.ex m2 dV) (fun V=>rfl)).mono ?_),fun b1=>⟨aa h1 dV,?_⟩⟩
        ·rintro r H' m3 bI ⟨l3,rfl,rfl⟩;have k3:=aa dV l3;simp only[go_sem,Sd.cs,Nd.cs];refine⟨fun b2=>ab ((hS.body m3 k3).mono ?_),fun b2=>⟨aa h1 k3,?_⟩⟩
         ·rintro r H' m4 cQ ⟨l4,rfl,rfl⟩;have k4:=aa k3 l4;simp only[go_sem,Sd.cs,Nd.cs];refine⟨fun b3=>ab ((hS.alt m4 k4).mono ?_),fun b3=>⟨aa h1 k4,?_⟩⟩
          ·rintro r H' m5 cK ⟨l5,rfl,rfl⟩;have k5:=aa k4 l5;simp only[go_sem,Sd.cs,Nd.cs];refine⟨fun b4=>⟨aa h1 k5,?_⟩,fun b4=>⟨by unfold aF;simp only[aq] at hn;omega,(k+1,m5),⟨by simp,.inl rfl⟩,⟨aa h1 k5,by simp only;omega,?_⟩,by simp only;omega⟩⟩
           ·rw[hX,lS hk (by rw[gE,e0,b4,Bool.and_false])]
           ·simp only;rw[tf,h3,gE,e0,b1,b2,b3,b4];rfl
          ·rw[hX,lS hk (by rw[gE,e0,b3,Bool.and_false];rfl)]
         ·rw[hX,lS hk (by rw[gE,e0,b2,Bool.and_false];rfl)]
        ·rw[hX,lS hk (by rw[gE,e0,b1];rfl)]
       ·rw[hX,lS hk];rw[gE,hS.eq];simp only[Ty.eq];clear hS;rcases db with (h |h) |h |h |h<;>simp [h]
      ·refine⟨fun he=>ab ((aP (hS.tg mm (.inl rfl)) (fun V=>rfl)).mono ?_),fun db=>⟨h1,?_⟩⟩
       ·have e0:dq e e2=(bT&&bE&&bB&&bA):=by rw[hS.eq];simp only[Ty.eq,he,ao,Bool.true_and]
        rintro r H' m2 aH ⟨dV,rfl,rfl⟩;simp only[go_sem,Sd.cs,Nd.cs];refine⟨fun b1=>ab ((aP (hS.ex m2 dV) (fun V=>rfl)).mono ?_),fun b1=>⟨aa h1 dV,?_⟩⟩
        ·rintro r H' m3 bI ⟨l3,rfl,rfl⟩;have k3:=aa dV l3;simp only[go_sem,Sd.cs,Nd.cs];refine⟨fun b2=>ab ((hS.body m3 k3).mono ?_),fun b2=>⟨aa h1 k3,?_⟩⟩
         ·rintro r H' m4 cQ ⟨l4,rfl,rfl⟩;have k4:=aa k3 l4;simp only[go_sem,Sd.cs,Nd.cs];refine⟨fun b3=>ab ((hS.alt m4 k4).mono ?_),fun b3=>⟨aa h1 k4,?_⟩⟩
          ·rintro r H' m5 cK ⟨l5,rfl,rfl⟩;have k5:=aa k4 l5;simp only[go_sem,Sd.cs,Nd.cs];refine⟨fun b4=>⟨aa h1 k5,?_⟩,fun b4=>⟨by unfold aF;simp only[aq] at hn;omega,(k+1,m5),⟨by simp,.inl rfl⟩,⟨aa h1 k5,by simp only;omega,?_⟩,by simp only;omega⟩⟩
           ·rw[hX,lS hk (by rw[gE,e0,b4,Bool.and_false])]
           ·simp only;rw[tf,h3,gE,e0,b1,b2,b3,b4];rfl
          ·rw[hX,lS hk (by rw[gE,e0,b3,Bool.and_false];rfl)]
         ·rw[hX,lS hk (by rw[gE,e0,b2,Bool.and_false];rfl)]
        ·rw[hX,lS hk (by rw[gE,e0,b1];rfl)]
       ·rw[hX,lS hk];rw[gE,hS.eq];simp only[Ty.eq];clear hS;rcases db with (h |h) |h |h |h<;>simp [h]
     ·have:k=l.length:=by clear hy;omega
      refine⟨h1,?_⟩;rw[hX,<- this,h3]
mutual
def fS:St->Nat
 | .mk _ _ _ tg ex body alt=>1+dd ex+dd tg+cY body+cY alt
def cY:List St->Nat
 |[]=>0
 |e::r=>fS e+cY r
end
theorem uF:∀{l:List St} {e:St},e∈l->fS e<=cY l
 |[],e,he=>by cases he
 |x::r,e,he=>by
  simp only[cY];rcases List.mem_cons.1 he with rfl |he
  ·omega
  ·have:=uF he;omega
end Go.Proofs.YtimddhkipjedcaaGreatDoor.E
namespace Go.Proofs.YtimddhkipjedcaaGreatDoor.E
open Go Go.ChangeShapes Go.WideShapes Go.ChangeAt Go.RowKit
theorem FL {α:Type} {f:α->List Value} {sz:Nat} (hf:∀x,(f x).length=sz):∀(l:List α) (xs:List Value),xs.length=l.length * sz->(∀i (hi:i<l.length),(xs.drop (i * sz)).take sz=f l[i])->xs=flat f l
 |[],xs,h,_=>by
  have:xs=[]:=List.length_eq_zero_iff.1 (by simpa using h);subst this;rfl
 |x::r,xs,h,hp=>by
  have h0:=hp 0 (by simp);rw[Nat.zero_mul,List.drop_zero,List.getElem_cons_zero] at h0;have hl:(xs.drop sz).length=r.length * sz:=by
   rw[dG,h,aL,Nat.succ_mul];omega
  have hr:=FL hf r (xs.drop sz) hl fun i hi=>by
   have:=hp (i+1) (by simpa using hi);rw[List.getElem_cons_succ] at this;rw[List.drop_drop,<- this,Nat.succ_mul,Nat.add_comm]
  have e:flat f (x::r)=f x++flat f r:=rfl;rw[e,<- h0,<- hr,List.take_append_drop]
theorem Pe:∀l:List (List UInt8),flat (fun s=>[.string (bs s)]) l=strs l
 |[]=>rfl
 |a::r=>by
  have h:=Pe r;simp only[flat,strs,bJ,List.flatten_cons,dW,List.nil_append] at h ⊢;rw[h]
theorem Jl {α:Type} {R:α->List Value->Prop} {sz:Nat}:∀(l:List α) (xs:List Value),(∀i (hi:i<l.length),R l[i] ((xs.drop (i * sz)).take sz))->nz R sz l xs
 |[],_,_=>trivial
 |x::r,xs,h=>by
  have h0:=h 0 (by simp);rw[Nat.zero_mul,List.drop_zero,List.getElem_cons_zero] at h0;refine⟨h0,Jl r (xs.drop sz) fun i hi=> ?_⟩;have:=h (i+1) (by simpa using hi);rw[List.getElem_cons_succ] at this;rw[List.drop_drop,show sz+i * sz=(i+1) * sz by rw[Nat.succ_mul,Nat.add_comm]];exact this
theorem BH {m:Mem}:∀(l:List St) (xs:List Value),(∀i (hi:i<l.length),eX m l[i] ((xs.drop (i * 23)).take 23))->bS m l xs
 |[],_,_=>by simp only[bS]
 |x::r,xs,h=>by
  simp only[bS];have h0:=h 0 (by simp);rw[Nat.zero_mul,List.drop_zero,List.getElem_cons_zero] at h0;refine⟨h0,BH r (xs.drop 23) fun i hi=> ?_⟩;have:=h (i+1) (by simpa using hi);rw[List.getElem_cons_succ] at this;rw[List.drop_drop,show 23+i * 23=(i+1) * 23 by omega];exact this
theorem PL {H:Type} {α:Type} {size:α->Nat}:∀(l:List α) (ds:List (DataW H)),l.length=ds.length->(∀i (h:i<l.length) (h' :i<ds.length),size l[i]<=Rows.uptoBulk ds[i])->(l.map size).sum<=Rows.uptoBulkAll ds
 |[],_,_,_=>by simp
 |e::r,[],h,_=>by simp at h
 |e::r,d::ds,h,hp=>by
  have h1:=hp 0 (by simp) (by simp);have h2:=PL (size:=size) r ds (by simpa using h) fun i h3 h4=>by
   have:=hp (i+1) (by simpa using h3) (by simpa using h4);simp only[List.getElem_cons_succ] at this;exact this
  simp only[bJ,List.sum_cons,Rows.uptoBulkAll];simp only[List.getElem_cons_zero] at h1;omega
theorem EF:∀(l:List St),(l.map fS).sum=cY l
 |[]=>rfl
 |e::r=>by simp only[bJ,List.sum_cons,cY,EF r]
section
variable {H:Type} {enc:TypeId×Value->H} {W:World}
theorem uJ {α:Type} {t e:TypeId} {sz:Nat} (ht:Tryz.prog.underlying t=some (.slice e)) (hC:Tryz.prog.cellsOf e=sz) (dp:0<sz) (R:α->List Value->Prop) (size:α->Nat) {fuel:Nat} {c:Value} {d:DataW H} {p:List MemPlace}
  (h:DataW.trod enc Tryz.prog W 0 (fun _=>true) true fuel t [c]=some (d,p)) (ih:∀n ck D Pl,DataW.trod enc Tryz.prog W 0 (fun _=>true) true n e ck=some (D,Pl)->Rows.uptoBulk D<Rows.uptoBulk d->∃x,R x ck/\size x<=Rows.uptoBulk D):
  ∃(l:List α) (a:Option Addr) (n cp:Nat) (xs:List Value),c= .slice a n cp/\n=l.length/\n<=cp/\aX ⟨W,fR W⟩ a n sz xs/\(∀i (hi:i<l.length),R l[i] ((xs.drop (i * sz)).take sz))/\(l.map size).sum+1<=Rows.uptoBulk d/\l.length+1<=Rows.uptoBulk d:=by
 rcases Deep.open_slice ht h with ⟨hc,hx⟩ |⟨a,len,cap,m,n,D,Pl,hcs7,_,hl,hm,hmm,hx,hi⟩
 ·have xA:c= .slice none 0 0:=by simpa using hc
  have:=Fs d;exact⟨[],none,0,0,[],xA,rfl,av _,lT,fun i hi=>absurd hi (Nat.not_lt_zero _),by simpa using this,by simpa using this⟩
 ·have xA:c= .slice (some a) len cap:=by simpa using hcs7
  have aH:m=cap:=by simpa using hmm
  have Mz:d= .slice (List.map D (List.range len)) (List.map (fun j=>D (len+j)) (List.range (m - len))):=(Prod.mk.inj hx).1;have hb5:Rows.uptoBulk d=Rows.uptoBulkAll (List.map D (List.range len))+Rows.uptoBulkAll (List.map (fun j=>D (len+j)) (List.range (m - len)))+1:=by rw[Mz];rfl
  obtain⟨l,xs,lN,hr,hp⟩:=Rw (W:=W) (a:=a) (len:=len) (sz:=sz) dp (p:=fun i (x:α) cs=>R x cs/\size x<=Rows.uptoBulk (D i)) fun i dv=>by
   obtain⟨ck,hc,yW⟩:=hi i (by omega);rw[hC] at hc;obtain⟨_,cu,gE⟩:=World.cells?_some hc;have vu:D i∈List.map D (List.range len):=List.mem_map.2 ⟨i,List.mem_range.2 dv,rfl⟩;have uv:=Jx vu;obtain⟨e,he,hs⟩:=ih n ck (D i) (Pl i) yW (by omega);exact⟨e,ck,cu,fun j hj=>by rw[<- Deep.add_add];exact gE j hj,he,hs⟩
  have api:=PL (size:=size) l (List.map D (List.range len)) (by simp [lN]) fun i h1 h2=>by simpa using(hp i h1).2
  have hlen:=Q7 (List.map D (List.range len));rw[List.length_map,List.length_range] at hlen;exact⟨l,some a,len,cap,xs,xA,lN.symm,hl,hr,fun i hi=>(hp i hi).1,by omega,by omega⟩
set_option maxHeartbeats 2000000 in
set_option maxRecDepth 100000 in
theorem RQ:∀(B:Nat) (fuel:Nat) (cs:List Value) (d:DataW H) (p:List MemPlace),DataW.trod enc Tryz.prog W 0 (fun _=>true) true fuel 73 cs=some (d,p)->Rows.uptoBulk d<=B->B<=1048576->∃e:St,eX ⟨W,fR W⟩ e cs/\fS e<=Rows.uptoBulk d:=by
 intro B;induction B with
 |zero=>intro fuel cs d p _ hB _;have:=Fs d;omega
 |succ B ih=>
  intro fuel cs d p h hB hb;obtain⟨ys,n',_,hy,hlen,hyl,hf⟩:=DataW.trod_struct Tryz.underlying73 h;rw[show Tryz.prog.cellsOf 73=23 by kernel_rfl] at hlen;match cs,hlen with
  |[c0,c1,c2,c3,c4,c5,c6,c7,c8,c9,mw,rs,c12,pw,pv,nP,rr,rq,rn,rm,c20,c21,lz],_=>
  match ys,hyl with
  |[y0,y1,y2,y3,y4,y5,y6],_=>
   have f0:DataW.trod enc Tryz.prog W 0 (fun _=>true) true n' 3 [c0]=some y0:=by have this:DataW.trod enc Tryz.prog W 0 (fun _=>true) true n' 3 (([c0,c1,c2,c3,c4,c5,c6,c7,c8,c9,mw,rs,c12,pw,pv,nP,rr,rq,rn,rm,c20,c21,lz].drop 0).take (Tryz.prog.cellsOf 3))=some y0:=hf 0 _ rfl;rw[show Tryz.prog.cellsOf 3=1 by kernel_rfl] at this;exact this
   have f1:DataW.trod enc Tryz.prog W 0 (fun _=>true) true n' 9 [c1]=some y1:=by have this:DataW.trod enc Tryz.prog W 0 (fun _=>true) true n' 9 (([c0,c1,c2,c3,c4,c5,c6,c7,c8,c9,mw,rs,c12,pw,pv,nP,rr,rq,rn,rm,c20,c21,lz].drop 1).take (Tryz.prog.cellsOf 9))=some y1:=hf 1 _ rfl;rw[show Tryz.prog.cellsOf 9=1 by kernel_rfl] at this;exact this
   have f2:DataW.trod enc Tryz.prog W 0 (fun _=>true) true n' 30 [c2,c3,c4]=some y2:=by have this:DataW.trod enc Tryz.prog W 0 (fun _=>true) true n' 30 (([c0,c1,c2,c3,c4,c5,c6,c7,c8,c9,mw,rs,c12,pw,pv,nP,rr,rq,rn,rm,c20,c21,lz].drop 2).take (Tryz.prog.cellsOf 30))=some y2:=hf 2 _ rfl;rw[show Tryz.prog.cellsOf 30=3 by kernel_rfl] at this;exact this
   have f3:DataW.trod enc Tryz.prog W 0 (fun _=>true) true n' 33 [c5,c6,c7,c8,c9,mw,rs,c12]=some y3:=by have this:DataW.trod enc Tryz.prog W 0 (fun _=>true) true n' 33 (([c0,c1,c2,c3,c4,c5,c6,c7,c8,c9,mw,rs,c12,pw,pv,nP,rr,rq,rn,rm,c20,c21,lz].drop 5).take (Tryz.prog.cellsOf 33))=some y3:=hf 3 _ rfl;rw[show Tryz.prog.cellsOf 33=8 by kernel_rfl] at this;exact this
   have f4:DataW.trod enc Tryz.prog W 0 (fun _=>true) true n' 33 [pw,pv,nP,rr,rq,rn,rm,c20]=some y4:=by have this:DataW.trod enc Tryz.prog W 0 (fun _=>true) true n' 33 (([c0,c1,c2,c3,c4,c5,c6,c7,c8,c9,mw,rs,c12,pw,pv,nP,rr,rq,rn,rm,c20,c21,lz].drop 13).take (Tryz.prog.cellsOf 33))=some y4:=hf 4 _ rfl;rw[show Tryz.prog.cellsOf 33=8 by kernel_rfl] at this;exact this
   have f5:DataW.trod enc Tryz.prog W 0 (fun _=>true) true n' 36 [c21]=some y5:=by have this:DataW.trod enc Tryz.prog W 0 (fun _=>true) true n' 36 (([c0,c1,c2,c3,c4,c5,c6,c7,c8,c9,mw,rs,c12,pw,pv,nP,rr,rq,rn,rm,c20,c21,lz].drop 21).take (Tryz.prog.cellsOf 36))=some y5:=hf 5 _ rfl;rw[show Tryz.prog.cellsOf 36=1 by kernel_rfl] at this;exact this
   have f6:DataW.trod enc Tryz.prog W 0 (fun _=>true) true n' 36 [lz]=some y6:=by have this:DataW.trod enc Tryz.prog W 0 (fun _=>true) true n' 36 (([c0,c1,c2,c3,c4,c5,c6,c7,c8,c9,mw,rs,c12,pw,pv,nP,rr,rq,rn,rm,c20,c21,lz].drop 22).take (Tryz.prog.cellsOf 36))=some y6:=hf 6 _ rfl;rw[show Tryz.prog.cellsOf 36=1 by kernel_rfl] at this;exact this
   have hD:d= .agg [y0.1,y1.1,y2.1,y3.1,y4.1,y5.1,y6.1]:=(Prod.mk.inj hy).1;have nf:Rows.uptoBulk d=Rows.uptoBulk y0.1+(Rows.uptoBulk y1.1+(Rows.uptoBulk y2.1+(Rows.uptoBulk y3.1+(Rows.uptoBulk y4.1+(Rows.uptoBulk y5.1+(Rows.uptoBulk y6.1+0))))))+1:=by rw[hD];rfl
   obtain⟨z0,e0,_,w0⟩:=DataW.trod_int Tryz.underlying3 f0;cases e0;obtain⟨s1,e1,x1,_⟩:=DataW.trod_string Tryz.underlying9 f1;cases e1;have b1:Rows.uptoBulk y1.1=s1.data.toList.length+1:=by rw[x1];rfl
   have l1:(tl s1).length=s1.data.toList.length:=rfl;obtain⟨LL,e2,t2a,t2b,t2c⟩:=Ck (d:=y2.1) (p:=y2.2) f2;simp only[yL,List.cons.injEq,and_true] at e2;obtain⟨rfl,rfl,rfl⟩:=e2;obtain⟨We,h3a,h3b⟩:=JJ (Rows.uptoBulk y3.1) n' _ y3.1 y3.2 f3 (av _) (by omega);obtain⟨N3,e3⟩:=mC h3a;rw[e3] at h3a;simp only[Nd.cs,List.cons.injEq,and_true] at e3;obtain⟨rfl,rfl,rfl,rfl,rfl,rfl,rfl,rfl⟩:=e3;obtain⟨Wd,h4a,h4b⟩:=JJ (Rows.uptoBulk y4.1) n' _ y4.1 y4.2 f4 (av _) (by omega);obtain⟨N4,e4⟩:=mC h4a;rw[e4] at h4a;simp only[Nd.cs,List.cons.injEq,and_true] at e4;obtain⟨rfl,rfl,rfl,rfl,rfl,rfl,rfl,rfl⟩:=e4;obtain⟨body,a5,n5,k5,xs5,e5,g5a,g5b,g5c,g5d,g5e,g5f⟩:=uJ (Tryz.underlying36) (show Tryz.prog.cellsOf 73=23 by kernel_rfl) (by decide) (eX ⟨W,fR W⟩) fS (d:=y5.1) (p:=y5.2) f5 fun n ck D Pl ht aw=>ih n ck D Pl ht (by omega) (by omega)
   obtain⟨alt,a6,n6,k6,xs6,e6,g6a,g6b,g6c,g6d,g6e,g6f⟩:=uJ (Tryz.underlying36) (show Tryz.prog.cellsOf 73=23 by kernel_rfl) (by decide) (eX ⟨W,fR W⟩) fS (d:=y6.1) (p:=y6.2) f6 fun n ck D Pl ht aw=>ih n ck D Pl ht (by omega) (by omega)
   subst e5 e6;rw[EF] at g5e g6e;refine⟨.mk z0 (tl s1) LL We Wd body alt,?_,by simp only[fS];omega⟩;have:=jW (m:=⟨W,fR W⟩) (⟨z0,tl s1,LL,N3,N4,a5,n5,k5,a6,n6,k6⟩:Sd) h3a h4a g5a g5b g6a g6b ⟨yf w0,by simp only[aq];omega,⟨t2a,t2b,by simp only[aq];omega⟩,by simp only[aq];omega,by simp only[aq];omega⟩ g5c g6c (BH body xs5 g5d) (BH alt xs6 g6d);simp only[Sd.cs,kG] at this;exact this
end
end Go.Proofs.YtimddhkipjedcaaGreatDoor.E
namespace Go.Proofs.YtimddhkipjedcaaGreatDoor.E
open Go Go.RowKit
def jH (a b:List UInt8):Bool:=decide ((b.length:Int)<=a.length)&&decide (a.take b.length=b)
theorem B8 (l:List (List UInt8)) (s:List UInt8) (a:Option Addr) (n c:Nat) (m:Mem) (h:aX m a n 1 (strs l)) (hn:n<=4611686018427387904):
  FnH Tryz.prog 178 [.v (.slice a n c),.v (.string (bs s))] ⟨[],[]⟩ m fun r H' _=>r= .v (.bool (l.contains s))/\H' =⟨[],[]⟩:=by
 have hl:l.length=n:=by have:=h.1;simpa [strs] using this
 refine aR qR Tryz.func178 ?_
 ·simp only[go_sem];refine dA qR (fun k:Nat=>⟨[⟨0,[],.v (.slice a n c)⟩,⟨1,[],.v (.string (bs s))⟩,⟨5,[],.v (.int .i64 k)⟩],[],[],[],0,m⟩)
   (fun k=>k<=n/\(l.take k).contains s=false) (fun k=>n - k) 0 (fun _ _=>av _) (fun _ _=> .inl rfl) ?_ ?_ ?_
  ·simp only[go_sem];rfl
  ·simp
  ·rintro k ⟨hk,hp⟩;simp only[go_sem];refine⟨fun aw=> ?_,fun cg=> ?_⟩
   ·have Ms:k<n:=by omega
    obtain⟨hx,hr,db⟩:=Cu h Ms;refine⟨⟨by omega,aw,db⟩,_,by simpa using hr,?_⟩;have cF:k<l.length:=by omega
    have e:(strs l)[k]= .string (bs l[k]):=by simp [strs]
    have ec:=PK (s:=s) cF;simp only[e];simp only[go_sem];refine⟨fun he=> ?_,fun he=>⟨by unfold aF;omega,k+1,by omega,⟨by omega,?_⟩,by omega⟩⟩
    ·have:s∈l:=by rw[<- he];exact List.getElem_mem cF
     simp [this]
    ·rw[ec,hp];simp;exact fun h=>he h.symm
   ·have:l.take k=l:=fj (by omega);rw[<- hp,this]
theorem HN (m:Mem):FnH Tryz.prog 179 [] ⟨[],[]⟩ m fun r H' m' =>r= .vec 0 0/\H' =⟨[],[⟨0,0,9,1,28,strs gG⟩]⟩/\m' =m:=by
 refine aR aB Tryz.func179 ?_
 ·simp only[go_sem];rfl
theorem W7 (m:Mem):FnH Tryz.prog 181 [] ⟨[],[]⟩ m fun r H' m' =>r= .vec 0 0/\H' =⟨[],[⟨0,0,9,1,30,strs ji⟩]⟩/\m' =m:=by
 refine aR aB Tryz.func181 ?_
 ·simp only[go_sem];rfl
theorem Bu (s:List UInt8) (m:Mem) (hs:BL s):FnH Tryz.prog 107 [.v (.string (bs s))] ⟨[],[]⟩ m fun r H' _=>r= .v (.bool (dh s))/\H' =⟨[],[]⟩:=by
 refine aR sH Tryz.func107 ?_
 ·simp only[go_sem];refine⟨hs,fun h=>by simp [dh,h],fun h=>⟨hs,⟨by omega,by have:=OB h;omega⟩,?_⟩⟩;rw[dh,h,Bool.true_and];have e1:∀n:Nat,decide ((65:Int)<=n)=decide (65<=n):=fun n=>by rw[decide_eq_decide];omega
  have e2:∀n:Nat,decide ((n:Int)<=90)=decide (n<=90):=fun n=>by rw[decide_eq_decide];omega
  rw[e1,e2]
theorem BD (l:List UInt8):jH l []=true:=by simp [jH]
theorem EC (x:UInt8) (o:List UInt8):jH [] (x::o)=false:=by simp [jH]
theorem tb (y x:UInt8) (l o:List UInt8):jH (y::l) (x::o)=(decide (y=x)&&jH l o):=by
 unfold jH;simp only[aL,List.take_succ_cons,List.cons.injEq];have e:decide (((o.length+1:Nat):Int)<=((l.length+1:Nat):Int))=decide ((o.length:Int)<=l.length):=by rw[decide_eq_decide];omega
 rw[e,Bool.decide_and];cases decide (y=x)<;>simp
theorem afO (l:List UInt8) (h:jH l [58,58]=true):∃r,l=58::58::r:=by
 cases l with
 |nil=>rw[EC] at h;cases h
 |cons a l=>
  rw[tb] at h;cases l with
  |nil=>rw[EC] at h;simp at h
  |cons b l=>
   rw[tb,BD] at h;simp only[Bool.and_true,aG,bu] at h;exact⟨l,by rw[h.1,h.2]⟩
def spell:List UInt8->List UInt8
 |[]=>[]
 |c::r=>if c.toNat=47 then 58::58::spell r else c::spell r
theorem IB:∀(a b:List UInt8),spell (a++b)=spell a++spell b
 |[],_=>rfl
 |c::a,b=>by
  simp only[dW,spell,IB a b];split<;>rfl
theorem Jb:∀{a:List UInt8},(∀c∈a,c≠47)->spell a=a
 |[],_=>rfl
 |c::a,h=>by
  have h1:¬c.toNat=47:=fun e=>h c (b6 ..) (UInt8.toNat_inj.1 e)
  simp only[spell,af h1,Jb fun d hd=>h d (bR _ hd)]
theorem Uh:∀(A:List UInt8),(∀c∈A,c≠47)->Lib.index A [47]= -1
 |[],_=>rfl
 |a::A,h=>by
  have ih:=Uh A fun c hc=>h c (bR _ hc)
  have ha:=h a (b6 ..);have hp:List.isPrefixOf [47] (a::A)=false:=by
   simp only[List.isPrefixOf,Bool.and_eq_false_iff];left;exact beq_eq_false_iff_ne.2 fun e=>ha e.symm
  simp only[Lib.index,hp,ih];rfl
theorem Ui:∀(A r:List UInt8),(∀c∈A,c≠47)->Lib.index (A++47::r) [47]=A.length
 |[],r,_=>by simp [Lib.index,List.isPrefixOf]
 |a::A,r,h=>by
  have ih:=Ui A r fun c hc=>h c (bR _ hc)
  have ha:=h a (b6 ..);have hp:List.isPrefixOf [47] (a::(A++47::r))=false:=by
   simp only[List.isPrefixOf,Bool.and_eq_false_iff];left;exact beq_eq_false_iff_ne.2 fun e=>ha e.symm
  simp only[dW,Lib.index,hp,ih];rw[af (by decide),af (by simp),aL];rfl
def xb (F:Nat) (s:List UInt8):List UInt8:=Lib.replaceK [47] [58,58] (Lib.countFrom [47] F s) s
theorem aeI {F:Nat} {A:List UInt8} (h:∀c∈A,c≠47):xb (F+1) A=A:=by
 unfold xb Lib.countFrom;rw[Uh A h];rfl
theorem aeJ {F:Nat} {A r:List UInt8} (h:∀c∈A,c≠47):xb (F+1) (A++47::r)=A++58::58::xb F r:=by
 have hi:=Ui A r h;have hd:(A++47::r).drop (A.length+([47]:List UInt8).length)=r:=by
  rw[List.drop_append];simp
 unfold xb;have hc:Lib.countFrom [47] (F+1) (A++47::r)=Lib.countFrom [47] F r+1:=by
  simp only[Lib.countFrom];rw[hi,af (by simp),Int.toNat_natCast,hd];omega
 rw[hc,Lib.replaceK_hit _ _ _ _ _ hi,hd];simp
theorem Np:∀(s:List UInt8),(∀c∈s,c≠47)\/∃A r,s=A++47::r/\∀c∈A,c≠47
 |[]=> .inl fun c h=>by cases h
 |a::s=>by
  by_cases ha:a=47
  ·exact .inr ⟨[],s,by rw[ha];rfl,fun c h=>by cases h⟩
  ·rcases Np s with h |⟨A,r,rfl,h⟩
   ·exact .inl fun c hc=>by
     rcases List.mem_cons.1 hc with rfl |hc
     ·exact ha
     ·exact h c hc
   ·exact .inr ⟨a::A,r,rfl,fun c hc=>by
     rcases List.mem_cons.1 hc with rfl |hc
     ·exact ha
     ·exact h c hc⟩
theorem OD:∀(F:Nat) (s:List UInt8),s.length<F->xb F s=spell s
 |0,_,h=>absurd h (Nat.not_lt_zero _)
 |F+1,s,h=>by
  rcases Np s with hs |⟨A,r,rfl,hA⟩
  ·rw[aeI hs,Jb hs]
  ·rw[aI,aL] at h;rw[aeJ hA,OD F r (by omega),IB,Jb hA];rfl
theorem RA (s:List UInt8):Lib.replaceAll s [47] [58,58]=spell s:=by
 have e:Lib.replaceAll s [47] [58,58]=xb (s.length+1) s:=by
  unfold Lib.replaceAll Lib.replace xb;rw[af (by decide)];have:Lib.replaceNum s [47] (-1)=Lib.count s [47]:=by simp [Lib.replaceNum]
  rw[this];rfl
 rw[e,OD _ _ (Nat.lt_succ_self _)]
theorem FJ (x y:List UInt8) (ys:List (List UInt8)):Lib.join (x::y::ys) [32]=x++([32]++Lib.join (y::ys) [32]):=by simp [Lib.join]
theorem aah:∀n:Nat,n<256->IntKind.u8.wrap (n:Int)=(n:Int):=by decide
theorem Ox:∀(s:List UInt8),(spell s).length<=2 * s.length
 |[]=>by simp [spell]
 |c::s=>by
  have:=Ox s;simp only[spell];split<;>simp only[aL]<;>omega
theorem NM {s:List UInt8} {k:Nat} (h:k<s.length):spell (s.take (k+1))=spell (s.take k)++if(s.getD k 0).toNat=47 then[58,58] else[s.getD k 0]:=by
 rw[List.take_succ_eq_append_getElem h,IB];have e:s.getD k 0=s[k]:=by rw[List.getD_eq_getElem?_getD,List.getElem?_eq_getElem h];rfl
 rw[e];simp only[spell]
theorem OS {s:List UInt8} {k:Nat} (h:k<s.length):(s.take (k+1)).drop k=[s.getD k 0]:=by
 rw[List.take_succ_eq_append_getElem h,List.drop_append_of_le_length (by rw[List.length_take];omega),List.drop_eq_nil_of_le (by rw[List.length_take];omega),List.getD_eq_getElem?_getD,List.getElem?_eq_getElem h];rfl
theorem WN (s:List UInt8) (m:Mem) (hs:s.length<=2000000):
  FnH Tryz.prog 123 [.v (.string (bs s))] ⟨[],[]⟩ m fun r H' m' =>r= .v (.string (bs (spell s)))/\H' =⟨[],[]⟩/\m' =m:=by
 refine aR aB Tryz.func123 ?_
 ·simp only[go_sem];refine ew aB (fun k:Nat=>⟨[⟨0,[],.v (.string (bs s))⟩,⟨3,[],.v (.string (bs (spell (s.take k))))⟩,⟨4,[],.v (.int .i64 k)⟩],[],[],[],0,m⟩)
   (fun k=>k<=s.length) (fun k=>s.length - k) 0 (by kernel_rfl) (fun _ _=>av _) (fun _ _=> .inl rfl) (fun _=> ?_) ?_ (aD _) ?_
  ·simp only[go_sem]
  ·simp only[go_sem];exact⟨rfl,rfl⟩
  ·intro k hk;have hl:(spell (s.take k)).length<=2 * k:=by have:=Ox (s.take k);rw[List.length_take] at this;omega
   simp only[go_sem];refine⟨fun aw=> ?_,fun cg=> ?_⟩
   ·have fp:k<s.length:=by omega
    have e1:((k:Int)+1).toNat=k+1:=by omega
    refine⟨⟨by omega,aw⟩,fun vP=>⟨by omega,by unfold aF;omega,k+1,⟨?_,rfl⟩,fp,by omega⟩,fun vP=>⟨by unfold aF;omega,⟨by omega,by omega,by omega⟩,?_,by unfold aF;omega,k+1,⟨?_,rfl⟩,fp,by omega⟩⟩
    ·rw[NM fp,ah (by omega)]
    ·rw[e1,OS fp];simp only[iq];omega
    ·rw[e1,OS fp,NM fp,af (by omega)]
   ·rw[fj (by omega)]
theorem WQ (s:List UInt8) (m:Mem) (hs:s.length<=2000000):
  FnH Tryz.prog 122 [.v (.string (bs s))] ⟨[],[]⟩ m fun r H' m' =>r= .v (.string (bs (uM s)))/\H' =⟨[],[]⟩/\m' =m:=by
 refine aR aB Tryz.func122 ?_
 ·simp only[go_sem];refine dA aB (fun x:Nat×Nat×List UInt8=>⟨[⟨0,[],.v (.string (bs s))⟩,⟨3,[],.vec 0 x.2.1⟩,⟨4,[],.v (.int .i64 x.1)⟩],[],[],[⟨0,x.2.1,5,1,x.2.2.length,j0 x.2.2⟩],1,m⟩)
   (fun x=>x.1<=s.length/\x.2.2=34::((s.take x.1).map ko).flatten) (fun x=>s.length - x.1) (0,0,[34]) (fun _ _=>av _) (fun _ _=> .inl rfl) ?_ ?_ ?_
  ·simp only[go_sem];exact⟨rfl,rfl⟩
  ·exact⟨aD _,rfl⟩
  ·rintro⟨k,u,b⟩ ⟨h1,h2⟩;simp only at h1 h2;have iT:b.length<=1+4 * k:=by
    rw[h2,aL];have:=Ic (s.take k);rw[List.length_take] at this;omega
   have lD:∀n,n<=4->room (b.length+n) 1:=fun n hn=>⟨by omega,by simp only[maxLen];omega⟩
   have step:k<s.length->∀e,ko (s.getD k 0)=e->∀ver:Nat,ver=u+1->b.length+e.length=(b++e).length/\j0 b++j0 e=j0 (b++e)/\(k+1<=s.length/\b++e=34::((s.take (k+1)).map ko).flatten)/\s.length - (k+1)<s.length - k:=fun hk e he ver _=>by
    refine⟨(aI).symm,(Cg b e).symm,⟨hk,?_⟩,by omega⟩;rw[List.take_succ_eq_append_getElem hk,List.map_append,List.flatten_append,h2,<- he,List.getD_eq_getElem?_getD,List.getElem?_eq_getElem hk];simp
   simp only[go_sem];refine⟨fun aw=> ?_,fun cg=> ?_⟩
   ·have hk:k<s.length:=by omega
    have hI:aF (k+1):=by unfold aF;omega
    refine⟨⟨by omega,aw⟩,fun c1=>⟨lD 2 (by omega),hI,?_⟩,fun c1=>⟨fun c2=>⟨lD 2 (by omega),hI,?_⟩,fun c2=>⟨fun c3=>⟨lD 1 (by omega),hI,?_⟩,fun c3=> ?_⟩⟩⟩
    ·have h:=step hk [92,s.getD k 0] (by unfold ko;rw[ah (by omega)]) _ rfl;exact⟨(k+1,u+1,b++[92,s.getD k 0]),⟨⟨rfl,rfl⟩,rfl,h.1,h.2.1⟩,h.2.2.1,h.2.2.2⟩
    ·have h:=step hk [92,110] (by unfold ko;rw[af (by omega),ah (by omega)]) _ rfl;exact⟨(k+1,u+1,b++[92,110]),⟨⟨rfl,rfl⟩,rfl,h.1,h.2.1⟩,h.2.2.1,h.2.2.2⟩
    ·have h:=step hk [s.getD k 0] (by unfold ko;rw[af (by omega),af (by omega),af (by omega)]) _ rfl;exact⟨(k+1,u+1,b++[s.getD k 0]),⟨⟨rfl,rfl⟩,rfl,h.1,h.2.1⟩,h.2.2.1,h.2.2.2⟩
    ·have h:=step hk [92,120,mU.getD ((s.getD k 0).toNat / 16) 0,mU.getD ((s.getD k 0).toNat % 16) 0] (by unfold ko;rw[af (by omega),af (by omega),ah (by omega)]) _ rfl;have hc:=(s.getD k 0).toNat_lt;have e1:(((s.getD k 0).toNat:Nat):Int).tdiv 16=((((s.getD k 0).toNat / 16:Nat)):Int):=by rw[Int.tdiv_eq_ediv_of_nonneg (by omega)];omega
     have e2:(((s.getD k 0).toNat:Nat):Int).tmod 16=((((s.getD k 0).toNat % 16:Nat)):Int):=by rw[Int.tmod_eq_emod_of_nonneg (by omega)];omega
     have e3:=aah ((s.getD k 0).toNat / 16) (by omega);refine bO (.hoist 0 (.hoist 1 (.hoist 2 (.hoist 3 (.hoist 4 (.hoist 5 (.hoist 6 (.alt 7 [0] (.alt 8 [] (.hoist 9 .done) .stop) .stop)))))))) aB (by kernel_rfl) (by kernel_rfl) ?_;simp only[go_sem,e1,e2,e3];exact⟨by omega,by omega,by omega,⟨by omega,by omega⟩,lD 4 (by omega),hI,(k+1,u+1,b++[92,120,mU.getD ((s.getD k 0).toNat / 16) 0,mU.getD ((s.getD k 0).toNat % 16) 0]),⟨⟨rfl,rfl⟩,rfl,h.1,h.2.1⟩,h.2.2.1,h.2.2.2⟩
   ·have ek:k=s.length:=by omega
    refine⟨lD 1 (by omega),b++[34],by rw[Cg];rfl,?_⟩;rw[h2,ek,List.take_length];rfl
def GA (x:Nat):List UInt8:=if x=0 then[] else Lib.decDigits x
theorem OI (x:Nat):Lib.decDigits x=GA (x / 10)++[UInt8.ofNat (48+x % 10)]:=by
 unfold GA;rw[Lib.decDigits];by_cases h:x<10
 ·rw[dif_pos h,ah (by omega),Nat.mod_eq_of_lt h];rfl
 ·rw[dif_neg h,af (by omega)]
def Ux:List UInt8:=[48,49,50,51,52,53,54,55,56,57]
theorem ZB:∀d:Nat,d<10->(Ux.take (d+1)).drop d=[UInt8.ofNat (48+d)]:=by decide
theorem Xw (N:Nat) (m:Mem) (hN:N<=9223372036854775807):
  FnH Tryz.prog 121 [.v (.int .i64 N)] ⟨[],[]⟩ m fun r H' m' =>r= .v (.string (bs (Lib.decDigits N)))/\H' =⟨[],[]⟩/\m' =m:=by
 have hlen:(Lib.decDigits N).length<=20:=by rw[Lib.decDigits_length];have:=Is 19 N (by omega);omega
 refine aR aB Tryz.func121 ?_
 ·simp only[go_sem];refine ew aB (fun x:Nat×List UInt8=>⟨[⟨0,[],.v (.int .i64 x.1)⟩,⟨3,[],.v (.string (bs x.2))⟩],[],[],[],0,m⟩)
   (fun x=>x.1<=N/\((x.2=[]/\x.1=N)\/(x.2≠[]/\Lib.decDigits N=GA x.1++x.2))) (fun x=>x.1+if x.2=[] then 1 else 0) (N,[]) (by kernel_rfl) (fun _ _=>av _) (fun _ _=> .inl rfl) (fun _=> ?_) ?_ ⟨av _,.inl ⟨rfl,rfl⟩⟩ ?_
  ·simp only[go_sem]
  ·simp only[go_sem]
  ·rintro⟨x,b⟩ hx;simp only at hx;simp only[go_sem];have e1:(x:Int).tmod 10=((x % 10:Nat):Int):=by rw[Int.tmod_eq_emod_of_nonneg (by omega)];omega
   have e2:(x:Int).tdiv 10=((x / 10:Nat):Int):=by rw[Int.tdiv_eq_ediv_of_nonneg (by omega)];omega
   have e3:(((x % 10:Nat):Int)).toNat=x % 10:=Int.toNat_natCast _;have e4:(((x % 10:Nat):Int)+1).toNat=x % 10+1:=by omega
   rw[e1,e2,e3,e4];have e5:=ZB (x % 10) (Nat.mod_lt _ (by omega));unfold Ux at e5;rw[e5];have iT:b.length<=20:=by
    rcases hx.2 with h |h
    ·rw[h.1];simp
    ·have:=congrArg List.length h.2;rw[aI] at this;omega
   have hxN:=hx.1;refine⟨fun hc=>⟨by omega,by omega,by unfold aF;omega,⟨by omega,by omega,by omega⟩,by simp only[iq];omega,by omega,by unfold aF;omega,(x / 10,[UInt8.ofNat (48+x % 10)]++b),⟨rfl,rfl⟩,⟨by simp only;omega,.inr ⟨by simp,?_⟩⟩,?_⟩,fun hc=> ?_⟩
   ·simp only;rcases hx.2 with h |h
    ·rw[h.1,<- h.2,List.append_nil];exact OI x
    ·have h0:¬x=0:=by
      rcases hc with hc |hc
      ·exact absurd hc h.1
      ·omega
     have e:GA x=Lib.decDigits x:=af h0;rw[h.2,e,OI x,List.append_assoc]
   ·simp only[dW,List.nil_append,af (List.cons_ne_nil _ _)];by_cases hb:b=[]
    ·rw[ah hb];omega
    ·rw[af hb];rcases hc with hc |hc
     ·exact absurd hc hb
     ·omega
   ·rcases hx.2 with h |h
    ·exact absurd h.1 hc.1
    ·have h0:x=0:=by omega
     rw[h.2,h0];rfl
theorem YL {t:Tk} (h:((decide (t.k=3)||decide (t.k=4))==(decide (t.s=[])&& !decide (t.k=5)))=false):fg t=none:=by
 obtain⟨k,s,n,q⟩:=t;simp only at h;have hn:fK []=false:=rfl;by_cases hs:s=[]
 ·subst hs;simp only[ao,Bool.true_and] at h;by_cases h3:k=3
  ·subst h3;exact absurd h (by simp)
  ·by_cases h4:k=4
   ·subst h4;exact absurd h (by simp)
   ·by_cases h5:k=5
    ·subst h5;exact absurd h (by simp)
    ·simp only[fg,h3,h4,h5,if_false,hn];have e1:gG.contains []=false:=by decide
     have e2:ji.contains []=false:=by decide
     simp only[e1,e2];simp
 ·simp only[dr hs,Bool.false_and] at h;by_cases h3:k=3
  ·subst h3;simp [fg,hs]
  ·by_cases h4:k=4
   ·subst h4;simp [fg,hs]
   ·simp only[dr h3,dr h4,Bool.or_self] at h;exact absurd h (by decide)
theorem YM {t:Tk} (h:((decide (t.k=3)||decide (t.k=4))==(decide (t.s=[])&& !decide (t.k=5)))=true):t.k=3\/t.k=4->t.s=[]:=by
 intro hk;have e:(decide (t.k=3)||decide (t.k=4))=true:=by simpa using hk
 rw[e] at h;have:=beq_iff_eq.1 h;have:=Bool.and_eq_true_iff.1 this.symm;exact of_decide_eq_true this.1
theorem Ad {p:Prop} [Decidable p] {x:List UInt8}:(if p then some x else none).isSome=decide p:=by
 by_cases h:p<;>simp [h]
set_option maxHeartbeats 8000000 in
theorem WX (t:Tk) (m:Mem) (ht:ox t):
  FnH Tryz.prog 120 [Tk.sv t] ⟨[],[]⟩ m fun r H' m' =>ae m m' /\H' =⟨[],[]⟩/\r= .v (.bool (fg t).isSome):=by
 have hl:=ht.1;refine enter HH sH Tryz.func120 rfl rfl (by kernel_rfl) rfl ?_ ?_
 ·simp only[go_sem,Tk.sv,Tk.cells]
 ·simp only[go_sem,Tk.sv,Tk.cells];refine⟨Tryz.underlying4,fun hp=>by rw[YL hp];rfl,fun hp=> ?_⟩;have UH:=YM hp;refine⟨fun k1=> ?_,fun k1=>⟨fun k2=> ?_,fun k2=>⟨fun k3=> ?_,fun k3=>⟨fun k4=> ?_,fun k4=>⟨fun k5=> ?_,fun k5=>⟨fun k6=> ?_,fun k6=> ?_⟩⟩⟩⟩⟩⟩
  ·have hf:fg t=if t.n=0/\fK t.s=true/\gG.contains t.s=false then some (Lib.replaceAll t.s [47] [58,58]) else none:=ah k1
   rw[hf,Ad];clear hp;refine bO (.hoist 0 (.hoist 1 (.hoist 2 (.hoist 3 (.hoist 4 (.hoist 5 (.alt 6 [] (.hoist 7 (.hoist 8 (.hoist 10 (.hoist 11 (.alt 9 [11,10] (.alt 12 [] (.hoist 13 (.hoist 14 (.hoist 15 .done))) .stop) .stop))))) .stop))))))) sH (by kernel_rfl) (by kernel_rfl) ?_;simp only[go_sem];refine⟨fun _=>by unfold BL;omega,fun hh=>ab ((HN m).mono ?_),fun hh=> ?_⟩
   ·rintro r H' m1 aN ⟨rfl,rfl,rfl⟩;simp only[go_sem];refine⟨by kernel_rfl,fun ad cp m2 aH _ bW=>bo ((B8 gG t.s ad 28 cp m2 bW (by decide)).mono ?_)⟩;rintro r H' m3 bI ⟨rfl,rfl⟩;simp only[go_sem];refine⟨.inr (Mem.le_trans aH bI),?_⟩;rw[hh.1,hh.2];cases gG.contains t.s<;>rfl
   ·rw[eq_comm,decide_eq_false_iff_not];rintro⟨a,b,_⟩;rcases hh with hh |hh
    ·exact hh a
    ·rw[b] at hh;cases hh
  ·have hf:fg t=if t.n=0/\gG.contains t.s=true then some t.s else none:=by unfold fg;rw[af k1,ah k2]
   rw[hf,Ad];clear hp;refine bO (.hoist 0 (.hoist 1 (.hoist 2 (.hoist 3 (.hoist 5 (.hoist 6 (.alt 4 [6,5] (.alt 7 [] (.hoist 8 (.hoist 9 .done)) .stop) .stop))))))) sH (by kernel_rfl) (by kernel_rfl) ?_;simp only[go_sem];refine⟨fun hh=>ab ((HN m).mono ?_),fun hh=> ?_⟩
   ·rintro r H' m1 aN ⟨rfl,rfl,rfl⟩;simp only[go_sem];refine⟨by kernel_rfl,fun ad cp m2 aH _ bW=>bo ((B8 gG t.s ad 28 cp m2 bW (by decide)).mono ?_)⟩;rintro r H' m3 bI ⟨rfl,rfl⟩;simp only[go_sem];refine⟨.inr (Mem.le_trans aH bI),?_⟩;rw[hh];cases gG.contains t.s<;>rfl
   ·rw[eq_comm,decide_eq_false_iff_not];rintro⟨a,b⟩;exact hh a
  ·have hf:fg t=if(t.s=[]/\0<=t.n)/\t.n<2147483648 then some (Lib.itoa t.n) else none:=by unfold fg;rw[af k1,af k2,ah k3]
   rw[hf,Ad,<- Bool.decide_and,decide_eq_decide];have:=UH (.inl k3);simp only[this,true_and];omega
  ·have hf:fg t=if t.s=[]/\0<=t.n then some (Lib.itoa t.n++[76]) else none:=by unfold fg;rw[af k1,af k2,af k3,ah k4]
   rw[hf,Ad,decide_eq_decide];simp only[UH (.inr k4),true_and]
  ·have hf:fg t=if t.n=0/\t.s.length<=1024 then some (uM t.s) else none:=by unfold fg;rw[af k1,af k2,af k3,af k4,ah k5]
   rw[hf,Ad,<- Bool.decide_and,decide_eq_decide];omega
  ·have hf:fg t=if t.n=0/\ji.contains t.s=true then some t.s else none:=by unfold fg;rw[af k1,af k2,af k3,af k4,af k5,ah k6]
   rw[hf,Ad];clear hp;refine bO (.hoist 0 (.hoist 1 (.hoist 2 (.hoist 3 (.hoist 5 (.hoist 6 (.alt 4 [6,5] (.alt 7 [] (.hoist 8 (.hoist 9 .done)) .stop) .stop))))))) sH (by kernel_rfl) (by kernel_rfl) ?_;simp only[go_sem];refine⟨fun hh=>ab ((W7 m).mono ?_),fun hh=> ?_⟩
   ·rintro r H' m1 aN ⟨rfl,rfl,rfl⟩;simp only[go_sem];refine⟨by kernel_rfl,fun ad cp m2 aH _ bW=>bo ((B8 ji t.s ad 30 cp m2 bW (by decide)).mono ?_)⟩;rintro r H' m3 bI ⟨rfl,rfl⟩;simp only[go_sem];refine⟨.inr (Mem.le_trans aH bI),?_⟩;rw[hh];cases ji.contains t.s<;>rfl
   ·rw[eq_comm,decide_eq_false_iff_not];rintro⟨a,b⟩;exact hh a
  ·have hf:fg t=none:=by unfold fg;rw[af k1,af k2,af k3,af k4,af k5,af k6]
   rw[hf];rfl
theorem Cp {t:Tk} {x:List UInt8} (h:fg t=some x):(t.k=3->0<=t.n/\x=Lib.itoa t.n)/\(t.k=4->0<=t.n/\x=Lib.itoa t.n++[76])/\(t.k=5->x=uM t.s)/\(t.k=1->x=spell t.s)/\(¬t.k=3->¬t.k=4->¬t.k=5->¬t.k=1->x=t.s):=by
 unfold fg at h;split at h
 ·rename_i hk;split at h
  ·cases h;exact⟨by omega,by omega,by omega,fun _=>RA _,fun _ _ _ h=>absurd hk h⟩
  ·cases h
 ·split at h
  ·rename_i h1 hk;split at h
   ·cases h;exact⟨by omega,by omega,by omega,fun h=>absurd h h1,fun _ _ _ _=>rfl⟩
   ·cases h
  ·split at h
   ·rename_i h1 _ hk;split at h
    ·rename_i hc;cases h;exact⟨fun _=>⟨hc.1.2,rfl⟩,by omega,by omega,fun h=>absurd h h1,fun h=>absurd hk h⟩
    ·cases h
   ·split at h
    ·rename_i h1 _ h3 hk;split at h
     ·rename_i hc;cases h;exact⟨fun h=>absurd h h3,fun _=>⟨hc.2,rfl⟩,by omega,fun h=>absurd h h1,fun _ h=>absurd hk h⟩
     ·cases h
    ·split at h
     ·rename_i h1 _ h3 h4 hk;split at h
      ·cases h;exact⟨fun h=>absurd h h3,fun h=>absurd h h4,fun _=>rfl,fun h=>absurd h h1,fun _ _ h=>absurd hk h⟩
      ·cases h
     ·split at h
      ·rename_i h1 _ h3 h4 h5 hk;split at h
       ·cases h;exact⟨fun h=>absurd h h3,fun h=>absurd h h4,fun h=>absurd h h5,fun h=>absurd h h1,fun _ _ _ _=>rfl⟩
       ·cases h
      ·cases h
theorem RD (n:Int) (m:Mem) (h0:0<=n) (hI:aF n):FnH Tryz.prog 121 [.v (.int .i64 n)] ⟨[],[]⟩ m fun r H' m' =>r= .v (.string (bs (Lib.itoa n)))/\H' =⟨[],[]⟩/\m' =m:=by
 obtain⟨u,rfl⟩:∃u:Nat,n=u:=⟨n.toNat,by omega⟩;rw[Lib.itoa_nonneg];exact Xw u m (by have:=hI.2;omega)
set_option maxHeartbeats 8000000 in
theorem WS (t:Tk) (m:Mem) (ht:ox t):
  FnH Tryz.prog 47 [Tk.sv t] ⟨[],[]⟩ m fun r H' m' =>ae m m' /\H' =⟨[],[]⟩/\U9 (fg t) r:=by
 have hl:=ht.1;have hv:=WX t m ht;cases hx:fg t with
 |none=>
  rw[hx] at hv;refine enter HH sH Tryz.func47 rfl rfl (by kernel_rfl) rfl ?_ ?_
  ·simp only[go_sem,Tk.sv,Tk.cells]
  ·simp only[go_sem,Tk.sv,Tk.cells];refine ab (hv.mono ?_);rintro r H' m1 aN ⟨lW,rfl,rfl⟩;simp only[go_sem,Option.isSome];exact⟨lW,rfl⟩
 |some x=>
  rw[hx] at hv;refine enter HH sH Tryz.func47 rfl rfl (by kernel_rfl) rfl ?_ ?_
  ·simp only[go_sem,Tk.sv,Tk.cells]
  ·simp only[go_sem,Tk.sv,Tk.cells];refine ab (hv.mono ?_);rintro r H' m1 aN ⟨lW,rfl,rfl⟩;simp only[go_sem,Option.isSome];have i3:=(Cp hx).1;have i4:=(Cp hx).2.1;have i5:=(Cp hx).2.2.1;have i1:=(Cp hx).2.2.2.1;have i6:=(Cp hx).2.2.2.2;refine⟨fun k3=>ab ((RD t.n m1 (i3 k3).1 ht.2).mono ?_),fun k3=>⟨fun k4=>ab ((RD t.n m1 (i4 k4).1 ht.2).mono ?_),fun k4=>⟨fun k5=>ab ((WQ t.s m1 hl).mono ?_),fun k5=>⟨fun k1=>ab ((WN t.s m1 hl).mono ?_),fun k1=>⟨lW,?_⟩⟩⟩⟩⟩
   ·rintro r H' m2 aH ⟨rfl,rfl,rfl⟩;simp only[go_sem];refine⟨lW,?_⟩;rw[(i3 k3).2];rfl
   ·rintro r H' m2 aH ⟨rfl,rfl,rfl⟩;simp only[go_sem];refine⟨by have:=QG ht.2;omega,lW,?_⟩;rw[(i4 k4).2];rfl
   ·rintro r H' m2 aH ⟨rfl,rfl,rfl⟩;simp only[go_sem];refine⟨lW,?_⟩;rw[i5 k5];rfl
   ·rintro r H' m2 aH ⟨rfl,rfl,rfl⟩;simp only[go_sem];refine⟨lW,?_⟩;rw[i1 k1];rfl
   ·rw[i6 k3 k4 k5 k1];rfl
theorem O3:∀(acc:List (List UInt8)) (x:List UInt8),Lib.join (acc++[x]) [32]=if acc=[] then x else Lib.join acc [32]++[32]++x
 |[],x=>by simp [Lib.join]
 |[y],x=>by
  rw[af (List.cons_ne_nil _ _)];show Lib.join (y::x::[]) [32]=_;rw[FJ];simp [Lib.join]
 |y::z::acc,x=>by
  rw[af (List.cons_ne_nil _ _)];show Lib.join (y::z::(acc++[x])) [32]=_;have ih:=O3 (z::acc) x;rw[af (List.cons_ne_nil _ _)] at ih;rw[FJ,FJ,show z::(acc++[x])=z::acc++[x] from rfl,ih];simp
theorem Yf {a b c:Mem} (h:ae a b) (h' :ae b c):ae a c:=by
 rcases h' with rfl |h'
 ·exact h
 ·exact O1 h h'
theorem PA {m m' :Mem} {a:Option Addr} {n sz:Nat} {xs:List Value} (hle:ae m m') (h:aX m a n sz xs):aX m' a n sz xs:=by
 rcases hle with rfl |hle
 ·exact h
 ·exact Aw hle h
set_option maxHeartbeats 8000000 in
theorem NT (ts:List Tk) (a:Option Addr) (n c:Nat) (m:Mem) (h:aX m a n 4 (cw ts)) (ht:∀t∈ts,ox t) (hn:n<=4611686018427387904):
  FnH Tryz.prog 23 [.v (.slice a n c)] ⟨[],[]⟩ m fun r H' m' =>ae m m' /\H' =⟨[],[]⟩/\r= .tup [.v (.string (bs (ld ts).1)),.v (.int .i64 (ld ts).2)]:=by
 have hl:ts.length=n:=by have:=h.1;rw[CA] at this;omega
 refine aR sH Tryz.func23 ?_
 ·simp only[go_sem];refine⟨fun hb=> ?_,fun hb=> ?_⟩
  ·have e:ld ts=([],5):=ah (by omega);rw[e]
  ·have hj:ld ts=match jX ts with |none=>([],1) |some l=>if 20000<(Lib.join l [32]).length then([],8) else(Lib.join l [32],0):=af (by omega)
   refine dA sH (fun x:Nat×List (List UInt8)×Nat×Mem=>⟨[⟨0,[],.v (.slice a n c)⟩,⟨4,[],.vec 0 x.2.2.1⟩,⟨5,[],.v (.int .i64 x.1)⟩],[],[],[⟨0,x.2.2.1,5,1,(Lib.join x.2.1 [32]).length,j0 (Lib.join x.2.1 [32])⟩],1,x.2.2.2⟩)
    (fun x=>ae m x.2.2.2/\aX x.2.2.2 a n 4 (cw ts)/\x.1<=n/\x.2.1.length=x.1/\(∀y∈x.2.1,y.length<=10000000)/\jX ts=Dl x.2.1 (jX (ts.drop x.1))) (fun x=>n - x.1) (0,[],0,m) (fun _ _=>av _) (fun x hx=>hx.1) ?_ ?_ ?_
   ·simp only[go_sem];exact⟨rfl,rfl,rfl⟩
   ·refine⟨.inl rfl,h,aD _,rfl,(fun y hy=>by cases hy),?_⟩;simp [Dl]
   ·rintro⟨k,acc,u,mm⟩ ⟨h1,h3,h4,h5,h7,h6⟩;simp only at h1 h3 h4 h5 h6 h7;have hr:∀(cF:k<ts.length),Rd mm (cO a (k * 4)) (kq ts[k])/\a≠none:=fun cF=>by
     have:=dH h3 (i:=k) (by omega);rwa [T3 cF] at this
    have qh:∀(cF:k<ts.length),_:=fun cF=>(WS ts[k] mm (ht _ (List.getElem_mem cF))).mono fun r H' m' _ h=>And.intro h.1 (And.intro h.2.1 (acf h.2.2))
    have hjs:=fun cF:k=n=>show jX ts=some acc by rw[h6,List.drop_eq_nil_of_le (by omega)];simp [jX,Dl]
    have oB:=abc [32] 10000000 acc h7;simp only[iq] at oB;simp only[go_sem];refine⟨fun aw=> ?_,fun cg=> ?_⟩
    ·have cF:k<ts.length:=by clear hr qh;omega
     refine⟨⟨by clear hr qh;omega,aw,(hr cF).2⟩,kq ts[k],⟨(hr cF).1,rfl⟩,?_⟩;simp only[go_sem,kq];refine ab ((qh cF).mono ?_);clear qh;rintro r H' m' hm ⟨hle,rfl,x,e,rfl,hx⟩;have sU:ae m m' :=Yf h1 hle;simp only[go_sem];refine⟨fun he=>⟨sU,?_⟩,fun he=> ?_⟩
     ·rcases hx with ⟨h8,_⟩ |⟨rfl,rfl,h8⟩
      ·exact absurd h8 he
      ·rw[hj,h6,adp cF h8];rfl
     ·have VN:fg ts[k]=some x:=by
       rcases hx with ⟨_,h8⟩ |⟨h8,_⟩
       ·exact h8
       ·rw[he] at h8;cases h8
      have DS:=abm (ht _ (List.getElem_mem cF)) VN;have xo:=O3 acc x;have gu:∀y∈acc++[x],y.length<=10000000:=fun y hy=>by
       rcases List.mem_append.1 hy with hy |hy
       ·exact h7 y hy
       ·rw[List.mem_singleton.1 hy];exact DS
      have qW:jX ts=Dl (acc++[x]) (jX (ts.drop (k+1))):=by
       rw[h6,abl cF VN];cases jX (ts.drop (k+1))<;>simp [Dl]
      have hlen:(acc++[x]).length=k+1:=by rw[aI,h5];rfl
      refine⟨fun h0=> ?_,fun h0=> ?_⟩
      ·have db:acc≠[]:=by
        rintro rfl;simp only[bg] at h5;omega
       rw[af db] at xo;refine⟨⟨by omega,by simp only[maxLen];omega⟩,⟨by omega,by simp only[maxLen];omega⟩,by unfold aF;omega,(k+1,acc++[x],u+1+1,m'),⟨⟨rfl,rfl⟩,⟨rfl,?_,?_⟩,.inl rfl⟩,⟨sU,PA hle h3,by simp only;omega,hlen,gu,qW⟩,by simp only;omega⟩
       ·simp only[xo,aI,iq]
       ·simp only[xo,Cg];rfl
      ·have xu:acc=[]:=List.eq_nil_of_length_eq_zero (by omega);rw[ah xu] at xo;subst xu;refine⟨⟨by simp only[Lib.join_nil,bg];omega,by simp only[maxLen,Lib.join_nil,bg];omega⟩,by unfold aF;omega,(k+1,[]++[x],u+1,m'),⟨⟨rfl,rfl⟩,⟨rfl,?_,?_⟩,.inl rfl⟩,⟨sU,PA hle h3,by simp only;omega,hlen,gu,qW⟩,by simp only;omega⟩
       ·simp only[xo,Lib.join_nil,bg,Nat.zero_add]
       ·simp only[xo,Lib.join_nil];rfl
    ·have UX:jX ts=some acc:=hjs (by clear qh;omega);refine⟨fun hx=>⟨h1,?_⟩,fun hx=>⟨_,rfl,h1,?_⟩⟩
     ·rw[hj,UX];simp only[ah (show 20000<(Lib.join acc [32]).length by clear qh;omega)]
     ·rw[hj,UX];simp only[af (show ¬20000<(Lib.join acc [32]).length by clear qh;omega)]
end Go.Proofs.YtimddhkipjedcaaGreatDoor.E
namespace Go.Proofs.YtimddhkipjedcaaGreatDoor.E
open Go Go.RowKit
def cH (first:Bool):List UInt8->Nat
 |[]=>0
 |c::r=>if dX c.toNat||(!first&&eI c.toNat) then 1+cH false r else 0
def jl (s:List UInt8):Int×Bool:=
 match Lib.parseIntB 64 s with
 | .ok v=>(v,true)
 | .range=>(Lib.intSat 64 s,false)
 |_=>(0,false)
def eJ:Bool->List UInt8->Nat
 |_,[]=>0
 |true,c::r=>if c.toNat=10 then 1+eJ false r else 1+eJ true r
 |false,c::r=>if c.toNat=9\/c.toNat=10\/c.toNat=13\/c.toNat=32 then 1+eJ false r else if c.toNat=47/\r.head?.map UInt8.toNat=some 47 then 1+eJ true r else 0
theorem Ch:∀(b:Bool) (l:List UInt8),eJ b l<=l.length
 |_,[]=>by simp [eJ]
 |true,c::r=>by
  have h1:=Ch false r;have h2:=Ch true r;simp only[eJ,aL];split<;>omega
 |false,c::r=>by
  have h1:=Ch false r;have h2:=Ch true r;simp only[eJ,aL];split
  ·omega
  ·split<;>omega
theorem EK {a b:List UInt8}:jH a b=true↔∃r,a=b++r:=by
 simp only[jH,aG,bu];constructor
 ·rintro⟨_,h⟩;exact⟨a.drop b.length,by conv=>lhs;rw[<- List.take_append_drop b.length a,h]⟩
 ·rintro⟨r,rfl⟩;exact⟨by rw[aI];omega,by simp⟩
theorem Kp {c:UInt8} {n:Nat} (h:c.toNat=n):c=UInt8.ofNat n:=by rw[<- h];simp
theorem Oa {c:UInt8} {r:List UInt8}:jH (c::r) [47,47]=true↔c.toNat=47/\r.head?.map UInt8.toNat=some 47:=by
 rw[EK];constructor
 ·rintro⟨t,h⟩;simp only[dW,List.nil_append,List.cons.injEq] at h;rw[h.1,h.2];simp
 ·rintro⟨h1,h2⟩;cases r with
  |nil=>simp at h2
  |cons d r=>
   simp only[List.head?_cons,Option.map_some,dY] at h2;exact⟨r,by rw[Kp h1,Kp h2];rfl⟩
theorem Kf (c:UInt8):∀(l:List UInt8),Lib.indexByte l c<l.length
 |[]=>by simp [Lib.indexByte]
 |d::r=>by
  have:=Kf c r;simp only[Lib.indexByte,aL];split
  ·omega
  ·split<;>omega
abbrev vT:Tk:=⟨0,[],0,0⟩
def tz (l:List UInt8):Option (List UInt8):=ji.find? fun o=>jH l o
def qa (c:UInt8):Int:=Lib.indexByte mU c
def fr:List UInt8->Nat×Int×Bool
  |[]=>(0,0,false)
  |c::r=>if c.toNat=34\/c.toNat=92 then(1,c.toNat,true) else if c.toNat=110 then(1,10,true) else if c.toNat=120 then
      (match r with
        |h::l::_=>(3,IntKind.u8.wrap (16 * qa h+qa l),decide (0<=qa h)&&decide (0<=qa l))
        |_=>(0,0,false)) else(0,0,false)
def jG:Nat->List UInt8->Option (List UInt8×Nat)
  |0,_=>none
  |_+1,[]=>none
  |f+1,c::r=>if c.toNat=34 then some ([],1) else if c.toNat<32\/126<c.toNat then none else
      if c.toNat=92 then(if(fr r).2.2=true then(jG f (r.drop (fr r).1)).map fun x=>(UInt8.ofNat (fr r).2.1.toNat::x.1,1+(fr r).1+x.2) else none)
      else(jG f r).map fun x=>(c::x.1,1+x.2)
def kZ (l:List UInt8):Option (List UInt8×Nat):=jG (l.length+1) l
theorem wrap_u8 (n:Int):∃x:UInt8,IntKind.u8.wrap n=x.toNat:=by
 have h:0<=IntKind.u8.wrap n/\IntKind.u8.wrap n<256:=by
  have e:IntKind.u8.wrap n=n % 256:=by simp [IntKind.wrap,IntKind.bits,IntKind.signed]
  rw[e];omega
 exact⟨UInt8.ofNat (IntKind.u8.wrap n).toNat,by rw[UInt8.toNat_ofNat'];omega⟩
theorem Zz (l:List UInt8):∃x:UInt8,(fr l).2.1=x.toNat:=by
 unfold fr;split
 ·exact⟨0,rfl⟩
 ·rename_i c r;split
  ·exact⟨c,rfl⟩
  ·split
   ·exact⟨10,rfl⟩
   ·split
    ·split
     ·exact wrap_u8 _
     ·exact⟨0,rfl⟩
    ·exact⟨0,rfl⟩
theorem Fm (l:List UInt8):(fr l).1<=l.length/\((fr l).2.2=true->1<=(fr l).1):=by
 unfold fr;split
 ·simp
 ·rename_i c r;split
  ·simp
  ·split
   ·simp
   ·split
    ·split
     ·simp
     ·simp
    ·simp
def dP:List UInt8->Nat
 |[]=>0
 |c::r=>if eI c.toNat then 1+dP r else 0
theorem CP:∀l,dP l<=l.length
 |[]=>by simp [dP]
 |c::r=>by
  have:=CP r;simp only[dP,aL];split<;>omega
def gV (l:List UInt8):Bool×Int×Nat×Bool:=
 let d:=dP l
 let aq:=decide ((l.drop d).head?.map UInt8.toNat=some 76)
 let v:=jl (l.take d)
 (aq,v.1,if aq=true then d+1 else d,v.2&&decide (v.1<=if aq=true then 9223372036854775807 else 2147483647)&&(decide ((l.head?.map UInt8.toNat)≠some 48)||decide (d=1)))
def p9 (s:List UInt8) (p:Nat):List UInt8:=(s.drop p).take (dP (s.drop p))
theorem ae0 {s:List UInt8} {p k:Nat} (hp:p<s.length) (hk:k<=s.length) (lv:k=p+dP (s.drop p)) (UJ:p<k):
  (s.take k).drop p=p9 s p/\(p9 s p).length=k - p/\gV (s.drop p)=(decide ((k:Int)<s.length/\(((s.getD k 0).toNat:Nat):Int)=76),(jl (p9 s p)).1,(if((k:Int)<s.length/\(((s.getD k 0).toNat:Nat):Int)=76) then k - p+1 else k - p),
   (jl (p9 s p)).2&&decide ((jl (p9 s p)).1<=if((k:Int)<s.length/\(((s.getD k 0).toNat:Nat):Int)=76) then 9223372036854775807 else 2147483647)&&(decide (((p9 s p).getD 0 0).toNat≠48)||decide ((p9 s p).length=1))):=by
 have lx:(s.take k).drop p=(s.drop p).take (dP (s.drop p)):=by
  rw[List.drop_take];congr 1;omega
 have hdn:(s.drop p).drop (dP (s.drop p))=s.drop k:=by rw[List.drop_drop,lv]
 have xw:((s.drop p).take (dP (s.drop p))).length=k - p:=by rw[List.length_take];have:=CP (s.drop p);omega
 have Hq:((s.drop p).take (dP (s.drop p))).getD 0 0=(s.drop p).getD 0 0:=by
  rw[List.getD_eq_getElem?_getD,List.getElem?_take,ah (by omega),List.getD_eq_getElem?_getD]
 have hdg:dP (s.drop p)=k - p:=by omega
 have hh0:(s.drop p).head?.map UInt8.toNat=some ((s.drop p).getD 0 0).toNat:=by
  rw[drop_at hp];rfl
 have hh1:((s.drop k).head?.map UInt8.toNat=some 76)=((k:Int)<s.length/\(((s.getD k 0).toNat:Nat):Int)=76):=by
  rw[eq_iff_iff];rcases Nat.lt_or_ge k s.length with h' |h'
  ·rw[drop_at h'];simp only[List.head?_cons,Option.map_some,dY];omega
  ·rw[List.drop_of_length_le h'];simp only[List.head?_nil,Option.map_none];constructor
   ·intro h;cases h
   ·intro h;omega
 refine⟨lx,xw,?_⟩;unfold p9
 have hN:gV (s.drop p)=(decide (((s.drop p).drop (dP (s.drop p))).head?.map UInt8.toNat=some 76),(jl ((s.drop p).take (dP (s.drop p)))).1,
  (if decide (((s.drop p).drop (dP (s.drop p))).head?.map UInt8.toNat=some 76)=true then dP (s.drop p)+1 else dP (s.drop p)),
  (jl ((s.drop p).take (dP (s.drop p)))).2&&decide ((jl ((s.drop p).take (dP (s.drop p)))).1<=if decide (((s.drop p).drop (dP (s.drop p))).head?.map UInt8.toNat=some 76)=true then 9223372036854775807 else 2147483647)&&(decide (((s.drop p).head?.map UInt8.toNat)≠some 48)||decide (dP (s.drop p)=1))):=rfl
 rw[hN,hdn,xw,Hq,hh0];generalize (s.drop p).take (dP (s.drop p))=t
 rw[hdg];simp only[hh1,bu,ne_eq,dY]
def jZ:Nat->List UInt8->Nat
 |0,_=>0
 |f+1,l=>if jH l [58,58]=true/\cH true (l.drop 2)≠0 then 2+cH true (l.drop 2)+jZ f (l.drop (2+cH true (l.drop 2))) else 0
def jQ (l:List UInt8):Nat:=cH true l+jZ (l.length+1) (l.drop (cH true l))
def gA (l:List UInt8):List UInt8:=Lib.replaceAll (l.take (jQ l)) [58,58] [47]
theorem xU:∀(b:Bool) (l:List UInt8),cH b l<=l.length
 |_,[]=>by simp [cH]
 |b,c::r=>by
  have:=xU false r;simp only[cH,aL];split<;>omega
theorem FF {a b:List UInt8} (h:jH a b=true):b.length<=a.length:=by
 obtain⟨r,rfl⟩:=EK.1 h;rw[aI];omega
def ig (l:List UInt8):Option (Int×List UInt8×Int×Nat):=
 match l with
 |[]=>none
 |c::r=>
  if dX c.toNat=true then(if fK (gA l)=true then some (if gG.contains (gA l)=true then 2 else 1,gA l,0,jQ l) else none)
  else if eI c.toNat=true then(if(gV l).2.2.2=true then some (if(gV l).1=true then 4 else 3,[],(gV l).2.1,(gV l).2.2.1) else none)
  else if c.toNat=34 then(match kZ r with
   |some (b,n)=>if b.length<=1024 then some (5,b,0,1+n) else none
   |none=>none)
  else(tz l).map fun o=>(6,o,0,o.length)
theorem Sl:∀(f:Nat) (l:List UInt8),jZ f l<=l.length
 |0,_=>aD _
 |f+1,l=>by
  simp only[jZ];split
  ·rename_i h;have h1:=xU true (l.drop 2);have h2:=Sl f (l.drop (2+cH true (l.drop 2)));have h3:=FF h.1;simp only[dG,aL,bg] at h1 h2 h3;omega
  ·exact aD _
theorem TE (l:List UInt8):jQ l<=l.length:=by
 have h1:=xU true l;have h2:=Sl (l.length+1) (l.drop (cH true l));rw[dG] at h2;unfold jQ;omega
theorem Ip:∀(f:Nat) (l:List UInt8) (b:List UInt8) (n:Nat),jG f l=some (b,n)->1<=n/\n<=l.length
 |0,l,b,n,h=>by cases h
 |f+1,[],b,n,h=>by cases h
 |f+1,c::r,b,n,h=>by
  simp only[jG] at h;split at h
  ·cases h;simp
  ·split at h
   ·cases h
   ·split at h
    ·split at h
     ·obtain⟨⟨b',n'⟩,h',e⟩:=Option.map_eq_some_iff.1 h;cases e;have h1:=Ip f _ _ _ h';have h2:=(Fm r).1;rw[dG] at h1;simp only[aL];omega
     ·cases h
    ·obtain⟨⟨b',n'⟩,h',e⟩:=Option.map_eq_some_iff.1 h;cases e;have h1:=Ip f _ _ _ h';simp only[aL];omega
theorem XL {l o:List UInt8} (h:tz l=some o):1<=o.length/\o.length<=l.length:=by
 have h1:=List.find?_some h;have h2:=List.mem_of_find?_eq_some h;exact⟨(by decide:∀o∈ji,1<=o.length) o h2,FF h1⟩
theorem PJ {l:List UInt8} {k:Int} {t:List UInt8} {n:Int} {len:Nat} (h:ig l=some (k,t,n,len)):1<=len/\len<=l.length:=by
 cases l with
 |nil=>cases h
 |cons c r=>
  simp only[ig] at h;split at h
  ·rename_i hs;split at h
   ·cases h;refine⟨?_,TE _⟩;have:1<=cH true (c::r):=by
     simp only[cH];rw[ah (by rw[hs];rfl)];omega
    unfold jQ;omega
   ·cases h
  ·split at h
   ·rename_i hd;split at h
    ·cases h;have h1:=CP (c::r);have h2:1<=dP (c::r):=by simp only[dP];rw[ah hd];omega
     simp only[gV];split
     ·rename_i hb;refine⟨by omega,?_⟩;rcases Nat.lt_or_ge (dP (c::r)) (c::r).length with h3 |h3
      ·omega
      ·rw[List.drop_of_length_le h3] at hb;simp at hb
     ·exact⟨h2,h1⟩
    ·cases h
   ·split at h
    ·split at h
     ·rename_i b n' hq;split at h
      ·cases h;have:=Ip _ _ _ _ hq;simp only[aL];omega
      ·cases h
     ·cases h
    ·obtain⟨o,ho,e⟩:=Option.map_eq_some_iff.1 h;cases e;exact XL ho
def r0 (s:List UInt8):Nat->Nat->List Tk->List Tk×Int×Int
 |0,_,acc=>(acc,0,0)
 |f+1,p,acc=>
  let q:=p+eJ false (s.drop p)
  if s.length<=q then(acc,0,0) else if 5000<=acc.length then([],0,5) else
   match ig (s.drop q) with
   |none=>([],q,70)
   |some (k,t,n,len)=>r0 s f (q+len) (acc++[⟨k,t,n,q⟩])
def bk (s:List UInt8):List Tk×Int×Int:=if 20000<s.length then([],0,8) else r0 s (s.length+1) 0 []
theorem WL (a:List Tk) (t:Tk):cw a++[Value.int .i64 t.k,.string (bs t.s),.int .i64 t.n,.int .i64 t.at_]=cw (a++[t]):=by simp [cw]
def DA (x:List Tk×Int×Int) (r:SV) (H' :Hp):Prop:=
 (x.2.2=0/\∃k u,r= .tup [.vec k u,.v (.int .i64 x.2.1),.v (.int .i64 x.2.2)]/\H' =⟨[],[⟨k,u,50,4,x.1.length,cw x.1⟩]⟩)\/
 (x.2.2≠0/\x.1=[]/\r= .tup [.v (.slice none 0 0),.v (.int .i64 x.2.1),.v (.int .i64 x.2.2)]/\H' =⟨[],[]⟩)
theorem JW (c:Int):eI c=true↔48<=c/\c<=57:=by simp [eI]
def aj7 (F:Int->Value):List Value->Option (Prop×Value)
 |[.int .u8 c]=>some (0<=c/\c<=255,F c)
 |_=>none
attribute [go_sem] aj7.eq_1
def pIs (B:List UInt8->Int->List UInt8->Prop) (F:List UInt8->Int->List UInt8->Value):List Value->Option (Prop×Value)
 |[.string a,.int .i64 c,.string b]=>some (B (tl a) c (tl b),F (tl a) c (tl b))
 |_=>none
attribute [go_sem] pIs.eq_1
def pG:Nat->List UInt8->Option Nat
 |n,[]=>some n
 |n,c::r=>if n<=(9223372036854775807 - (c.toNat - 48)) / 10 then pG (n * 10+(c.toNat - 48)) r else none
theorem PE {M:Nat}:∀(l:List UInt8) (acc u:Nat),Lib.parseUintM M acc l= .ok u->acc<=u
 |[],acc,u,h=>by simp only[Lib.parseUintM,Lib.NumEnd.ok.injEq] at h;omega
 |c::r,acc,u,h=>by
  simp only[Lib.parseUintM] at h;split at h
  ·split at h
   ·cases h
   ·split at h
    ·cases h
    ·have:=PE r _ u h;omega
  ·cases h
theorem Ns:∀(l:List UInt8) (n:Nat),n<=9223372036854775807->(∀c∈l,eI c.toNat=true)->
  match pG n l with
  |some v=>Lib.parseUintM 18446744073709551615 n l= .ok v/\v<=9223372036854775807
  |none=>∀u,Lib.parseUintM 18446744073709551615 n l= .ok u->9223372036854775808<=u
 |[],n,hn,_=>⟨rfl,hn⟩
 |c::r,n,hn,hd=>by
  have hc:=(JW _).1 (hd c (b6 ..));have hr:=fun x hx=>hd x (bR _ hx)
  simp only[pG];by_cases h:n<=(9223372036854775807 - (c.toNat - 48)) / 10
  ·rw[ah h];have ih:=Ns r (n * 10+(c.toNat - 48)) (by omega) hr;have e:Lib.parseUintM 18446744073709551615 n (c::r)=Lib.parseUintM 18446744073709551615 (n * 10+(c.toNat - 48)) r:=by
    simp only[Lib.parseUintM];rw[ah (by omega),af (by omega),af (by omega)]
   rw[e];exact ih
  ·rw[af h];intro u hu;simp only[Lib.parseUintM] at hu;rw[ah (by omega)] at hu;split at hu
   ·cases hu
   ·split at hu
    ·cases hu
    ·have:=PE r _ u hu;omega
theorem N1 {l:List UInt8} (db:l≠[]) (hd:∀c∈l,eI c.toNat=true):
  match pG 0 l with
  |some v=>jl l=((v:Int),true)/\v<=9223372036854775807
  |none=>(jl l).2=false:=by
 have h:=Ns l 0 (by omega) hd;cases l with
 |nil=>exact absurd rfl db
 |cons c r=>
  have hc:=(JW _).1 (hd c (b6 ..));have e:jl (c::r)=match Lib.parseUintM 18446744073709551615 0 (c::r) with
   | .ok u=>if 9223372036854775808<=u then(Lib.intSat 64 (c::r),false) else((u:Int),true)
   | .range=>(Lib.intSat 64 (c::r),false)
   |_=>(0,false):=by
   unfold jl Lib.parseIntB;simp only[Lib.parseUintB];have h43:¬(c.toNat=43\/c.toNat=45):=by omega
   have Wa:¬c.toNat=45:=by omega
   rw[af h43,af (List.cons_ne_nil _ _)];cases Lib.parseUintM (2 ^ 64 - 1) 0 (c::r) with
   |ok u=>
    by_cases hu:9223372036854775808<=u
    ·simp [Wa,hu]
    ·simp [Wa,hu]
   |range=>rfl
   |_=>rfl
  rw[e];cases hr:pG 0 (c::r) with
  |some v=>
   rw[hr] at h;rw[h.1];simp only;rw[af (by omega)];exact⟨rfl,h.2⟩
  |none=>
   rw[hr] at h;cases hm:Lib.parseUintM 18446744073709551615 0 (c::r) with
   |ok u=>
    have:=h u hm;simp only;rw[ah this]
   |range=>rfl
   |_=>rfl
theorem SD:∀(l:List UInt8),∀c∈l.take (dP l),eI c.toNat=true
 |[],c,h=>by simp at h
 |d::r,c,h=>by
  simp only[dP] at h;split at h
  ·rename_i hd;rw[Nat.add_comm,List.take_succ_cons] at h;rcases List.mem_cons.1 h with rfl |h
   ·exact hd
   ·exact SD r c h
  ·simp at h
theorem IK:∀(b:Bool) (l:List UInt8),∀c∈l.take (cH b l),c≠58
 |_,[],c,h=>by simp at h
 |b,d::r,c,h=>by
  simp only[cH] at h;split at h
  ·rename_i hd;rw[Nat.add_comm,List.take_succ_cons] at h;rcases List.mem_cons.1 h with rfl |h
   ·rintro rfl;revert hd;cases b<;>decide
   ·exact IK false r c h
  ·simp at h
theorem QI:∀(A:List UInt8),(∀c∈A,c≠58)->Lib.index A [58,58]= -1
 |[],_=>rfl
 |a::A,h=>by
  have ih:=QI A fun c hc=>h c (bR _ hc)
  have ha:=h a (b6 ..);have hp:List.isPrefixOf [58,58] (a::A)=false:=by
   simp only[List.isPrefixOf,Bool.and_eq_false_iff];left;exact beq_eq_false_iff_ne.2 fun e=>ha e.symm
  simp only[Lib.index,hp,ih];rfl
theorem QJ:∀(A r:List UInt8),(∀c∈A,c≠58)->Lib.index (A++58::58::r) [58,58]=A.length
 |[],r,_=>by simp [Lib.index,List.isPrefixOf]
 |a::A,r,h=>by
  have ih:=QJ A r fun c hc=>h c (bR _ hc)
  have ha:=h a (b6 ..);have hp:List.isPrefixOf [58,58] (a::(A++58::58::r))=false:=by
   simp only[List.isPrefixOf,Bool.and_eq_false_iff];left;exact beq_eq_false_iff_ne.2 fun e=>ha e.symm
  simp only[dW,Lib.index,hp,ih];rw[af (by decide),af (by simp),aL];rfl
def wK (F:Nat) (s:List UInt8):List UInt8:=Lib.replaceK [58,58] [47] (Lib.countFrom [58,58] F s) s
theorem RC {F:Nat} {A:List UInt8} (h:∀c∈A,c≠58):wK (F+1) A=A:=by
 unfold wK Lib.countFrom;rw[QI A h];rfl
theorem acD {F:Nat} {A r:List UInt8} (h:∀c∈A,c≠58):wK (F+1) (A++58::58::r)=A++47::wK F r:=by
 have hi:=QJ A r h;have hd:(A++58::58::r).drop (A.length+([58,58]:List UInt8).length)=r:=by
  rw[List.drop_append];simp
 unfold wK;have hc:Lib.countFrom [58,58] (F+1) (A++58::58::r)=Lib.countFrom [58,58] F r+1:=by
  simp only[Lib.countFrom];rw[hi,af (by simp),Int.toNat_natCast,hd];omega
 rw[hc,Lib.replaceK_hit _ _ _ _ _ hi,hd];simp
def tS:Nat->List UInt8->List UInt8
 |0,_=>[]
 |f+1,l=>if jH l [58,58]=true/\cH true (l.drop 2)≠0 then 47::((l.drop 2).take (cH true (l.drop 2))++tS f (l.drop (2+cH true (l.drop 2)))) else[]
theorem S6:∀(f:Nat) (l A:List UInt8) (F:Nat),(∀c∈A,c≠58)->(A++l.take (jZ f l)).length<F->wK F (A++l.take (jZ f l))=A++tS f l
 |0,l,A,F,hA,hF=>by
  obtain⟨F,rfl⟩:∃g,F=g+1:=⟨F - 1,by omega⟩;simp only[jZ,tS,List.take_zero,List.append_nil];exact RC hA
 |f+1,l,A,F,hA,hF=>by
  obtain⟨F,rfl⟩:∃g,F=g+1:=⟨F - 1,by omega⟩;simp only[jZ] at hF;simp only[jZ,tS];by_cases h:jH l [58,58]=true/\cH true (l.drop 2)≠0
  ·rw[ah h] at hF;rw[ah h,ah h];obtain⟨r,hr⟩:=EK.1 h.1;subst hr;have e2:([58,58]++r).drop 2=r:=rfl;have e3:([58,58]++r).drop (2+cH true r)=r.drop (cH true r):=by
    rw[<- List.drop_drop,e2]
   rw[e2,e3] at hF;rw[e2,e3];have e4:([58,58]++r).take (2+cH true r+jZ f (r.drop (cH true r)))=58::58::(r.take (cH true r)++(r.drop (cH true r)).take (jZ f (r.drop (cH true r)))):=by
    rw[Nat.add_assoc,Nat.add_comm 2];show 58::58::r.take (cH true r+jZ f (r.drop (cH true r)))=_;rw[List.take_add]
   rw[e4] at hF;have ih:=S6 f (r.drop (cH true r)) (r.take (cH true r)) F (IK true r) (by rw[aI,aL,aL] at hF;omega);rw[e4,acD hA,ih]
  ·rw[af h,af h,List.take_zero,List.append_nil];exact RC hA
theorem TD (l:List UInt8):gA l=l.take (cH true l)++tS (l.length+1) (l.drop (cH true l)):=by
 have e:∀s,Lib.replaceAll s [58,58] [47]=wK (s.length+1) s:=fun s=>by
  unfold Lib.replaceAll Lib.replace wK;rw[af (by decide)];have:Lib.replaceNum s [58,58] (-1)=Lib.count s [58,58]:=by simp [Lib.replaceNum]
  rw[this];rfl
 have h1:l.take (jQ l)=l.take (cH true l)++(l.drop (cH true l)).take (jZ (l.length+1) (l.drop (cH true l))):=by
  unfold jQ;rw[List.take_add]
 unfold gA;rw[e,h1];exact S6 _ _ _ _ (IK true l) (Nat.lt_succ_self _)
theorem ade {s:List UInt8} (h:gG.contains s=true):fK s=true:=
 (by decide:∀k∈gG,fK k=true) s (by simpa using h)
theorem W0 {c:Int} (h:dX c=true):eI c=false:=by
 cases hd:eI c with
 |false=>rfl
 |true=>
  have:=(JW _).1 hd;simp only[dX,Bool.or_eq_true,aG,bu] at h;omega
theorem Ze {c:UInt8} {r:List UInt8}:cH true (c::r)≠0↔dX c.toNat=true:=by
 simp only[cH];cases h:dX c.toNat
 ·simp
 ·simp
def yl:List Tk->List Tk->Bool
 |[],[]=>true
 |x::a,y::b=>decide (x.k=y.k)&&decide (x.s=y.s)&&decide (x.n=y.n)&&yl a b
 |_,_=>false
def tI (t:Tk) (x:List Tk×Int×Int):List Tk×Int×Int:=if x.2.2=0 then(t::x.1,x.2.1,0) else([],x.2.1,x.2.2)
def oh:Nat->Nat->Nat->List UInt8->List Tk×Int×Int
 |0,_,_,_=>([],0,0)
 |f+1,mr,pos,l=>
  if l.drop (eJ false l)=[] then([],0,0) else if 5000<=mr then([],0,5) else
   match ig (l.drop (eJ false l)) with
   |none=>([],(pos+eJ false l:Nat),70)
   |some (k,t,n,len)=>tI ⟨k,t,n,(pos+eJ false l:Nat)⟩ (oh f (mr+1) (pos+eJ false l+len) (l.drop (eJ false l+len)))
def tQ (acc:List Tk) (x:List Tk×Int×Int):List Tk×Int×Int:=if x.2.2=0 then(acc++x.1,x.2.1,0) else([],x.2.1,x.2.2)
theorem Y8 (acc:List Tk) (t:Tk) (x:List Tk×Int×Int):tQ acc (tI t x)=tQ (acc++[t]) x:=by
 unfold tQ tI;by_cases h:x.2.2=0
 ·simp [h]
 ·simp [h]
theorem Se (s:List UInt8):∀(f p:Nat) (acc:List Tk),r0 s f p acc=tQ acc (oh f acc.length p (s.drop p))
 |0,p,acc=>by simp [r0,oh,tQ]
 |f+1,p,acc=>by
  simp only[r0,oh];have e1:(s.drop p).drop (eJ false (s.drop p))=s.drop (p+eJ false (s.drop p)):=List.drop_drop;rw[e1];by_cases h1:s.length<=p+eJ false (s.drop p)
  ·rw[ah h1,ah (List.drop_eq_nil_of_le h1)];simp [tQ]
  ·rw[af h1,af (fun h=>h1 (List.drop_eq_nil_iff.1 h))];by_cases h2:5000<=acc.length
   ·rw[ah h2,ah h2];simp [tQ]
   ·rw[af h2,af h2];cases ht:ig (s.drop (p+eJ false (s.drop p))) with
    |none=>simp [tQ]
    |some y=>
     obtain⟨k,t,n,len⟩:=y;simp only;rw[Se s f,Y8];simp only[aI,iq,List.drop_drop,Nat.add_assoc]
theorem Yx {t:Tk} {x:List Tk×Int×Int} (h:(x.2.2=0->x.2.1=0)/\(x.2.2≠0->x.1=[])):((tI t x).2.2=0->(tI t x).2.1=0)/\((tI t x).2.2≠0->(tI t x).1=[]):=by
 unfold tI;by_cases e:x.2.2=0
 ·simp only[ah e];exact⟨fun _=>h.1 e,fun h=>absurd rfl h⟩
 ·simp only[af e];exact⟨fun h=>absurd h e,fun _=>trivial⟩
theorem IS:∀(f mr pos:Nat) (l:List UInt8),((oh f mr pos l).2.2=0->(oh f mr pos l).2.1=0)/\((oh f mr pos l).2.2≠0->(oh f mr pos l).1=[])
 |0,_,_,_=>⟨fun _=>rfl,fun _=>rfl⟩
 |f+1,mr,pos,l=>by
  simp only[oh];split
  ·exact⟨fun _=>rfl,fun _=>rfl⟩
  ·split
   ·exact⟨fun _=>rfl,fun _=>rfl⟩
   ·split
    ·exact⟨fun h=>absurd h (by simp),fun _=>rfl⟩
    ·exact Yx (IS f _ _ _)
theorem aaH {x:List Tk×Int×Int} (h:x.2.2≠0->x.1=[]):tQ [] x=x:=by
 obtain⟨a,b,c⟩:=x;unfold tQ;by_cases e:c=0
 ·subst e;rfl
 ·simp only[af e];have h1:a=[]:=h e;rw[h1]
theorem HV {s:List UInt8} (h:s.length<=20000):bk s=oh (s.length+1) 0 0 s:=by
 have e:bk s=r0 s (s.length+1) 0 []:=af (by omega);rw[e,Se,aaH (IS _ _ _ _).2];rfl
def Stop (rest:List UInt8):Prop:=rest=[]\/∃c r,rest=c::r/\(c=10\/c=32)
theorem IJ {rest:List UInt8} (h:Stop rest):∀(b:Bool) (l:List UInt8),cH b (l++rest)=cH b l
 |b,[]=>by
  rcases h with rfl |⟨c,r,rfl,rfl |rfl⟩
  ·rfl
  ·cases b<;>rfl
  ·cases b<;>rfl
 |b,c::l=>by simp only[dW,cH,IJ h false l]
theorem QZ {rest:List UInt8} (h:Stop rest):∀(l:List UInt8),dP (l++rest)=dP l
 |[]=>by
  rcases h with rfl |⟨c,r,rfl,rfl |rfl⟩
  ·rfl
  ·rfl
  ·rfl
 |c::l=>by simp only[dW,dP,QZ h l]
theorem Ib {rest:List UInt8} (h:Stop rest):∀(o l:List UInt8),(∀c∈o,c≠10/\c≠32)->jH (l++rest) o=jH l o
 |[],l,_=>by rw[BD,BD]
 |x::o,[],ho=>by
  rw[EC,List.nil_append];rcases h with rfl |⟨c,r,rfl,hc⟩
  ·rw[EC]
  ·rw[tb];have:=ho x (b6 ..);have db:c≠x:=by rcases hc with rfl |rfl;exact fun e=>this.1 e.symm;exact fun e=>this.2 e.symm
   simp [db]
 |x::o,y::l,ho=>by
  rw[dW,tb,tb,Ib h o l fun c hc=>ho c (bR _ hc)]
theorem find_congr {α:Type} {p q:α->Bool}:∀(l:List α),(∀a∈l,p a=q a)->l.find? p=l.find? q
 |[],_=>rfl
 |a::l,h=>by
  simp only[List.find?_cons,h a (b6 ..)];rw[find_congr l fun b hb=>h b (bR _ hb)]
theorem W3:∀o∈ji,∀c∈o,c≠10/\c≠32:=by decide
theorem YQ {rest:List UInt8} (h:Stop rest) (l:List UInt8):tz (l++rest)=tz l:=
 find_congr _ fun o ho=>Ib h o l (W3 o ho)
theorem Pb:∀(f f' :Nat) (l:List UInt8),l.length<f->l.length<f' ->jZ f l=jZ f' l
 |0,_,_,h,_=>absurd h (Nat.not_lt_zero _)
 |_+1,0,_,_,h=>absurd h (Nat.not_lt_zero _)
 |f+1,f' +1,l,h,h' =>by
  simp only[jZ];split
  ·rename_i hc;have:=FF hc.1;simp only[aL,bg] at this;rw[Pb f f' _ (by rw[dG];omega) (by rw[dG];omega)]
  ·rfl
theorem O9 {rest:List UInt8} (h:Stop rest):∀(f:Nat) (l:List UInt8),jZ f (l++rest)=jZ f l
 |0,_=>rfl
 |f+1,l=>by
  simp only[jZ,Ib h [58,58] l (by decide)];by_cases hp:jH l [58,58]=true
  ·obtain⟨r,rfl⟩:=afO l hp;have e1:(58::58::r++rest).drop 2=r++rest:=rfl;have e2:(58::58::r).drop 2=r:=rfl;have e3:∀k,k<=r.length->(58::58::r++rest).drop (2+k)=(58::58::r).drop (2+k)++rest:=fun k hk=>by
    rw[Nat.add_comm,List.drop_append_of_le_length (by simp only[aL];omega)]
   rw[e1,e2,IJ h,e3 _ (xU _ _),O9 h f]
  ·rw[af (fun hc=>hp hc.1),af (fun hc=>hp hc.1)]
theorem QL {rest:List UInt8} (h:Stop rest) (l:List UInt8):jQ (l++rest)=jQ l:=by
 unfold jQ;rw[IJ h,List.drop_append_of_le_length (xU _ _),O9 h];rw[Pb ((l++rest).length+1) (l.length+1) _ (by rw[dG,aI];omega) (by rw[dG];omega)]
theorem abg {rest:List UInt8} (h:Stop rest) (l:List UInt8):gA (l++rest)=gA l:=by
 unfold gA;rw[QL h,List.take_append_of_le_length (TE l)]
theorem aaU {rest:List UInt8} (h:Stop rest) {l:List UInt8} (hl:l≠[]):gV (l++rest)=gV l:=by
 have e2:((l.drop (dP l)++rest).head?.map UInt8.toNat=some 76)=((l.drop (dP l)).head?.map UInt8.toNat=some 76):=by
  cases l.drop (dP l) with
  |nil=>
   rcases h with rfl |⟨c,r,rfl,rfl |rfl⟩
   ·rfl
   ·simp
   ·simp
  |cons=>rfl
 have e3:(l++rest).head? =l.head? :=by
  cases l with
  |nil=>exact absurd rfl hl
  |cons=>rfl
 simp only[gV,QZ h,List.drop_append_of_le_length (CP l),List.take_append_of_le_length (CP l),e3,e2]
theorem QU {r:List UInt8} (h:(fr r).2.2=true) (rest:List UInt8):fr (r++rest)=fr r:=by
 match r,h with
 |[],h=>cases h
 |c::r,h=>
  simp only[dW,fr] at h ⊢;by_cases h1:c.toNat=34\/c.toNat=92
  ·rw[ah h1,ah h1]
  ·rw[af h1,af h1];rw[af h1] at h;by_cases h2:c.toNat=110
   ·rw[ah h2,ah h2]
   ·rw[af h2,af h2];rw[af h2] at h;by_cases h3:c.toNat=120
    ·rw[ah h3,ah h3];rw[ah h3] at h;match r,h with
     |[],h=>cases h
     |[_],h=>cases h
     |_::_::_,_=>rfl
    ·rw[af h3] at h;cases h
theorem abD {r rest:List UInt8} (h:(fr r).2.2=false):(fr (r++10::rest)).2.2=false:=by
 match r,h with
 |[],_=>rfl
 |c::r,h=>
  simp only[dW,fr] at h ⊢;by_cases h1:c.toNat=34\/c.toNat=92
  ·rw[ah h1] at h;cases h
  ·rw[af h1];rw[af h1] at h;by_cases h2:c.toNat=110
   ·rw[ah h2] at h;cases h
   ·rw[af h2];rw[af h2] at h;by_cases h3:c.toNat=120
    ·rw[ah h3];rw[ah h3] at h;match r,h with
     |[],_=>
      have e:qa 10= -1:=by decide
      cases rest with
      |nil=>rfl
      |cons a b=>simp [e]
     |[x],_=>
      have e:qa 10= -1:=by decide
      simp [e]
     |_::_::_,h=>exact h
    ·rw[af h3]
theorem EA:∀(f f' :Nat) (l:List UInt8),l.length<f->l.length<f' ->jG f l=jG f' l
 |0,_,_,h,_=>absurd h (Nat.not_lt_zero _)
 |_+1,0,_,_,h=>absurd h (Nat.not_lt_zero _)
 |f+1,f' +1,[],_,_=>rfl
 |f+1,f' +1,c::r,h,h' =>by
  simp only[aL] at h h';simp only[jG];rw[EA f f' r (by omega) (by omega),EA f f' (r.drop (fr r).1) (by rw[dG];omega) (by rw[dG];omega)]
theorem H5:∀(f:Nat) (l rest:List UInt8) (y:List UInt8×Nat),jG f l=some y->jG f (l++rest)=some y
 |0,_,_,_,h=>by cases h
 |f+1,[],_,_,h=>by cases h
 |f+1,c::r,rest,y,h=>by
  simp only[dW,jG] at h ⊢;by_cases h1:c.toNat=34
  ·rw[ah h1] at h ⊢;exact h
  ·rw[af h1] at h ⊢;by_cases h2:c.toNat<32\/126<c.toNat
   ·rw[ah h2] at h;cases h
   ·rw[af h2] at h ⊢;by_cases h3:c.toNat=92
    ·rw[ah h3] at h ⊢;by_cases h4:(fr r).2.2=true
     ·rw[ah h4] at h;rw[QU h4,ah h4,List.drop_append_of_le_length (Fm r).1];obtain⟨y',h',e⟩:=Option.map_eq_some_iff.1 h;rw[H5 f _ rest y' h',<- e];rfl
     ·rw[af h4] at h;cases h
    ·rw[af h3] at h ⊢;obtain⟨y',h',e⟩:=Option.map_eq_some_iff.1 h;rw[H5 f _ rest y' h',<- e];rfl
theorem H6:∀(f:Nat) (l rest:List UInt8),l.length<f->jG f l=none->jG f (l++10::rest)=none
 |0,_,_,h,_=>absurd h (Nat.not_lt_zero _)
 |f+1,[],rest,_,_=>rfl
 |f+1,c::r,rest,hf,h=>by
  simp only[aL] at hf;simp only[dW,jG] at h ⊢;by_cases h1:c.toNat=34
  ·rw[ah h1] at h;cases h
  ·rw[af h1] at h ⊢;by_cases h2:c.toNat<32\/126<c.toNat
   ·rw[ah h2]
   ·rw[af h2] at h ⊢;by_cases h3:c.toNat=92
    ·rw[ah h3] at h ⊢;by_cases h4:(fr r).2.2=true
     ·rw[ah h4] at h;rw[QU h4,ah h4,List.drop_append_of_le_length (Fm r).1];rw[H6 f _ rest (by rw[dG];omega) (Option.map_eq_none_iff.1 h)];rfl
     ·rw[af (by rw[abD (by simpa using h4)];exact Bool.false_ne_true)]
    ·rw[af h3] at h ⊢;rw[H6 f _ rest (by omega) (Option.map_eq_none_iff.1 h)];rfl
theorem XT {l:List UInt8} {y:List UInt8×Nat} (h:kZ l=some y) (rest:List UInt8):kZ (l++rest)=some y:=by
 unfold kZ at h ⊢;rw[EA _ ((l++rest).length+1) l (by omega) (by rw[aI];omega)] at h;exact H5 _ _ _ _ h
theorem XU {l:List UInt8} (h:kZ l=none) (rest:List UInt8):kZ (l++10::rest)=none:=by
 unfold kZ at h ⊢;rw[EA _ ((l++10::rest).length+1) l (by omega) (by rw[aI];omega)] at h;exact H6 _ _ _ (by rw[aI];omega) h
theorem aaj {l rest:List UInt8} (hl:l≠[]) (h:Stop rest) (hy:ig l≠none\/∃r,rest=10::r):ig (l++rest)=ig l:=by
 cases l with
 |nil=>exact absurd rfl hl
 |cons c r=>
  have e1:=abg h (c::r);have e2:=QL h (c::r);have e3:=aaU h hl;have e4:=YQ h (c::r);simp only[dW] at e1 e2 e3 e4;simp only[dW,ig,e1,e2,e3,e4] at hy ⊢;by_cases h1:dX c.toNat=true
  ·rw[ah h1,ah h1]
  ·rw[af h1,af h1];by_cases h2:eI c.toNat=true
   ·rw[ah h2,ah h2]
   ·rw[af h2,af h2];by_cases h3:c.toNat=34
    ·rw[ah h3,ah h3];rw[af h1,af h2,ah h3] at hy;cases hq:kZ r with
     |some y=>rw[XT hq]
     |none=>
      rw[hq] at hy;rcases hy with hy |⟨r',rfl⟩
      ·exact absurd rfl hy
      ·rw[XU hq]
    ·rw[af h3,af h3]
theorem Ff {r:List UInt8} (h:eD true r=true):∃c s,r=c::s/\c.toNat≠47/\dX c.toNat=true/\eD false s=true:=by
 cases r with
 |nil=>cases h
 |cons c s=>
  have vP:c.toNat≠47:=fun e=>by
   have hc:c=47:=UInt8.toNat_inj.1 e;subst hc;have:eD true (47::s)=false:=rfl;rw[this] at h;cases h
  simp only[eD] at h;rw[af (fun hh=>Bool.noConfusion hh.2)] at h;split at h
  ·rename_i hc;rcases hc with hc |hc
   ·exact⟨c,s,rfl,vP,hc,h⟩
   ·exact Bool.noConfusion hc.2
  ·cases h
theorem R2 {c:UInt8} {s:List UInt8} (h:eD false (c::s)=true):(c=47/\eD true s=true)\/(c.toNat≠47/\(dX c.toNat=true\/eI c.toNat=true)/\eD false s=true):=by
 simp only[eD] at h;split at h
 ·rename_i hc;exact .inl ⟨UInt8.toNat_inj.1 hc.1,h⟩
 ·rename_i hn;split at h
  ·rename_i hc;exact .inr ⟨fun e=>hn ⟨e,trivial⟩,hc.imp id (·.1),h⟩
  ·cases h
theorem N0 {r:List UInt8} (h:eD true r=true):cH true (spell r)≠0:=by
 obtain⟨c,s,rfl,vP,hc,_⟩:=Ff h;simp only[spell,af vP];exact Ze.2 hc
theorem Oj (l:List UInt8):cH false (58::l)=0:=by
 have h:(dX ((58:UInt8).toNat:Int)||(!false&&eI ((58:UInt8).toNat:Int)))=false:=by decide
 simp only[cH,h];rfl
theorem Kg:∀(s:List UInt8) (b:Bool) (f:Nat),eD b s=true->(spell s).length<f->cH b (spell s)+jZ f ((spell s).drop (cH b (spell s)))=(spell s).length
 |[],true,f,h,_=>by cases h
 |[],false,f,_,hf=>by
  cases f with
  |zero=>exact absurd hf (Nat.not_lt_zero _)
  |succ f=>rfl
 |c::s,b,f,h,hf=>by
  have key:(c.toNat≠47/\(dX c.toNat=true\/(b=false/\eI c.toNat=true))/\eD false s=true)\/(b=false/\c=47/\eD true s=true):=by
   cases b with
   |true=>obtain⟨c',s',e,h1,h2,h3⟩:=Ff h;cases e;exact .inl ⟨h1,.inl h2,h3⟩
   |false=>
    rcases R2 h with ⟨h1,h2⟩ |⟨h1,h2,h3⟩
    ·exact .inr ⟨rfl,h1,h2⟩
    ·exact .inl ⟨h1,h2.imp id fun h=>⟨rfl,h⟩,h3⟩
  rcases key with ⟨h1,h2,h3⟩ |⟨rfl,rfl,h3⟩
  ·simp only[spell,af h1] at hf ⊢;have e:cH b (c::spell s)=1+cH false (spell s):=by
    simp only[cH];rw[ah (by rcases h2 with h2 |⟨rfl,h2⟩<;>simp [h2])]
   have ih:=Kg s false f h3 (by simp only[aL] at hf;omega);rw[e,show 1+cH false (spell s)=cH false (spell s)+1 by omega,List.drop_succ_cons,aL];omega
  ·have nO:spell (47::s)=58::58::spell s:=rfl;rw[nO] at hf ⊢;rw[Oj,List.drop_zero];cases f with
   |zero=>exact absurd hf (Nat.not_lt_zero _)
   |succ f=>
    simp only[aL] at hf ⊢;have ih:=Kg s true f h3 (by omega);have e2:(58::58::spell s).drop 2=spell s:=rfl;have e3:(58::58::spell s).drop (2+cH true (spell s))=(spell s).drop (cH true (spell s)):=by rw[<- List.drop_drop,e2]
    simp only[jZ,e2,e3];rw[ah ⟨by rw[tb,tb,BD];rfl,N0 h3⟩];omega
theorem JR:∀(s:List UInt8) (b:Bool) (f:Nat),eD b s=true->(spell s).length<f->(spell s).take (cH b (spell s))++tS f ((spell s).drop (cH b (spell s)))=s
 |[],true,f,h,_=>by cases h
 |[],false,f,_,hf=>by
  cases f with
  |zero=>exact absurd hf (Nat.not_lt_zero _)
  |succ f=>rfl
 |c::s,b,f,h,hf=>by
  have key:(c.toNat≠47/\(dX c.toNat=true\/(b=false/\eI c.toNat=true))/\eD false s=true)\/(b=false/\c=47/\eD true s=true):=by
   cases b with
   |true=>obtain⟨c',s',e,h1,h2,h3⟩:=Ff h;cases e;exact .inl ⟨h1,.inl h2,h3⟩
   |false=>
    rcases R2 h with ⟨h1,h2⟩ |⟨h1,h2,h3⟩
    ·exact .inr ⟨rfl,h1,h2⟩
    ·exact .inl ⟨h1,h2.imp id fun h=>⟨rfl,h⟩,h3⟩
  rcases key with ⟨h1,h2,h3⟩ |⟨rfl,rfl,h3⟩
  ·simp only[spell,af h1] at hf ⊢;have e:cH b (c::spell s)=1+cH false (spell s):=by
    simp only[cH];rw[ah (by rcases h2 with h2 |⟨rfl,h2⟩<;>simp [h2])]
   have ih:=JR s false f h3 (by simp only[aL] at hf;omega);rw[e,show 1+cH false (spell s)=cH false (spell s)+1 by omega,List.drop_succ_cons,List.take_succ_cons,dW,ih]
  ·have nO:spell (47::s)=58::58::spell s:=rfl;rw[nO] at hf ⊢;rw[Oj,List.drop_zero,List.take_zero,List.nil_append];cases f with
   |zero=>exact absurd hf (Nat.not_lt_zero _)
   |succ f=>
    simp only[aL] at hf;have ih:=JR s true f h3 (by omega);have e2:(58::58::spell s).drop 2=spell s:=rfl;have e3:(58::58::spell s).drop (2+cH true (spell s))=(spell s).drop (cH true (spell s)):=by rw[<- List.drop_drop,e2]
    simp only[tS,e2,e3];rw[ah ⟨by rw[tb,tb,BD];rfl,N0 h3⟩,ih]
theorem PI {s:List UInt8} (h:fK s=true):spell s≠[]/\ig (spell s)=some (if gG.contains s=true then 2 else 1,s,0,(spell s).length):=by
 have h1:eD true s=true:=by unfold fK at h;exact(Bool.and_eq_true_iff.1 h).2
 obtain⟨c,r,e,vP,hc,_⟩:=Ff h1;have nO:spell s=c::spell r:=by rw[e];simp only[spell,af vP]
 have e1:jQ (spell s)=(spell s).length:=by
  have hlen:=Kg s true ((spell s).length+1) h1 (Nat.lt_succ_self _);exact hlen
 have e2:gA (spell s)=s:=by
  rw[TD];exact JR s true _ h1 (Nat.lt_succ_self _)
 refine⟨by rw[nO];exact List.cons_ne_nil _ _,?_⟩;have e3:ig (spell s)=if fK (gA (spell s))=true then some (if gG.contains (gA (spell s))=true then 2 else 1,gA (spell s),0,jQ (spell s)) else none:=by
  rw[nO];show(if dX c.toNat=true then _ else _)=_;rw[ah hc]
 rw[e3,e2,ah h,e1]
theorem aa9:∀s∈gG,spell s=s:=by decide
/-! Numbers. -/
theorem NV:∀(a b:List UInt8) (n:Nat),pG n (a++b)=(pG n a).bind fun m=>pG m b
 |[],b,n=>rfl
 |c::a,b,n=>by
  simp only[dW,pG];split
  ·exact NV a b _
  ·rfl
theorem Eh (k:Nat) (h:k<10):(UInt8.ofNat (48+k)).toNat=48+k:=by
 rw[UInt8.toNat_ofNat'];omega
theorem I1:∀(u:Nat),∀c∈Lib.decDigits u,eI c.toNat=true:=by
 intro u;induction u using Nat.strongRecOn with
 |_ u ih=>
  intro c hc;rw[Lib.decDigits] at hc;split at hc
  ·rename_i h;rw[List.mem_singleton.1 hc,Eh u h];simp only[eI,aG,bu];omega
  ·rename_i h;rcases List.mem_append.1 hc with hc |hc
   ·exact ih (u / 10) (by omega) c hc
   ·rw[List.mem_singleton.1 hc,Eh _ (Nat.mod_lt _ (by omega))];simp only[eI,aG,bu];omega
theorem ad9:∀(u:Nat),u<=9223372036854775807->pG 0 (Lib.decDigits u)=some u:=by
 intro u;induction u using Nat.strongRecOn with
 |_ u ih=>
  intro hu;rw[Lib.decDigits];split
  ·rename_i h;simp only[pG,Eh u h];rw[ah (by omega)];congr 1;omega
  ·rename_i h;rw[NV,ih (u / 10) (by omega) (by omega)];simp only[Option.bind,pG,Eh _ (Nat.mod_lt u (by omega:10>0))];rw[ah (by omega)];congr 1;omega
theorem CQ (u:Nat):Lib.decDigits u≠[]:=by
 rw[Lib.decDigits];split<;>simp
theorem abM:∀(u:Nat),1<=u->(Lib.decDigits u).head?.map UInt8.toNat≠some 48:=by
 intro u;induction u using Nat.strongRecOn with
 |_ u ih=>
  intro hu;rw[Lib.decDigits];split
  ·rename_i h;simp only[List.head?_cons,Option.map_some,Eh u h];intro e;injection e with e;omega
  ·rename_i h;have:=ih (u / 10) (by omega) (by omega);cases hd:Lib.decDigits (u / 10) with
   |nil=>exact absurd hd (CQ _)
   |cons a b=>rw[hd] at this;exact this
theorem SC:∀(l r:List UInt8),(∀c∈l,eI c.toNat=true)->dP (l++r)=l.length+dP r
 |[],r,_=>by simp
 |c::l,r,h=>by
  simp only[dW,dP,aL];rw[ah (h c (b6 ..)),SC l r fun d hd=>h d (bR _ hd)];omega
theorem acX {u:Nat} (hu:u<=9223372036854775807) (aq:Bool) (hb:aq=false->u<=2147483647):
  gV (Lib.decDigits u++if aq=true then[76] else[])=(aq,(u:Int),(Lib.decDigits u++if aq=true then[76] else[]).length,true):=by
 have hd:dP (Lib.decDigits u++if aq=true then[76] else[])=(Lib.decDigits u).length:=by
  rw[SC _ _ (I1 u)];cases aq<;>rfl
 have hp:=N1 (CQ u) (I1 u);rw[ad9 u hu] at hp;obtain⟨hp,_⟩:=hp;have ht:(Lib.decDigits u++if aq=true then[76] else[]).take (Lib.decDigits u).length=Lib.decDigits u:=List.take_left;have hdr:(Lib.decDigits u++if aq=true then[76] else[]).drop (Lib.decDigits u).length=if aq=true then[76] else[]:=List.drop_left
 have hh:(Lib.decDigits u++if aq=true then[76] else[]).head? =(Lib.decDigits u).head? :=by
  cases he:Lib.decDigits u with
  |nil=>exact absurd he (CQ u)
  |cons=>rfl
 have hz:(decide ((Lib.decDigits u).head?.map UInt8.toNat≠some 48)||decide ((Lib.decDigits u).length=1))=true:=by
  rcases Nat.eq_zero_or_pos u with rfl |h
  ·rw[Lib.decDigits_one (by omega)];rfl
  ·rw[eH (abM u h)];rfl
 have vx:decide (((if aq=true then[76] else[]:List UInt8)).head?.map UInt8.toNat=some 76)=aq:=by cases aq<;>rfl
 simp only[gV,hd,ht,hdr,hh,hp,hz,vx];cases aq with
 |true=>simp;omega
 |false=>have:=hb rfl;simp;omega
theorem ZC {c:UInt8} (h:eI c.toNat=true):dX c.toNat=false:=by
 cases hs:dX c.toNat with
 |false=>rfl
 |true=>rw[W0 hs] at h;cases h
theorem Rj {u:Nat} (hu:u<=9223372036854775807) (aq:Bool) (hb:aq=false->u<=2147483647):
  ig (Lib.decDigits u++if aq=true then[76] else[])=some (if aq=true then 4 else 3,[],(u:Int),(Lib.decDigits u++if aq=true then[76] else[]).length):=by
 have hn:=acX hu aq hb;have hd:=I1 u;cases he:Lib.decDigits u with
 |nil=>exact absurd he (CQ u)
 |cons c r=>
  rw[he] at hn hd;have hc:=hd c (b6 ..);rw[dW] at hn ⊢;simp only[ig];rw[af (by rw[ZC hc];exact Bool.false_ne_true),ah hc,hn];simp
/-! Strings. -/
theorem adi:∀n:Nat,n<256->qa (mU.getD (n / 16) 0)=(n / 16:Nat)/\qa (mU.getD (n % 16) 0)=(n % 16:Nat):=by decide
theorem acp:∀n:Nat,n<256->IntKind.u8.wrap (16 * ((n / 16:Nat):Int)+((n % 16:Nat):Int))=(n:Int):=by
 intro n h;have e:(16 * ((n / 16:Nat):Int)+((n % 16:Nat):Int))=(n:Int):=by omega
 rw[e];exact(by decide:∀n:Nat,n<256->IntKind.u8.wrap (n:Int)=(n:Int)) n h
theorem RZ (c:UInt8):UInt8.ofNat ((c.toNat:Int)).toNat=c:=by
 rw[Int.toNat_natCast];exact UInt8.ofNat_toNat
theorem aaq (c:UInt8) (X s:List UInt8) (f:Nat) (hX:X.length<f->jG f X=some (s,X.length)) (hf:(ko c++X).length<f+1):
  jG (f+1) (ko c++X)=some (c::s,(ko c++X).length):=by
 have n34:¬(92:UInt8).toNat=34:=by decide
 have nrg:¬((92:UInt8).toNat<32\/126<(92:UInt8).toNat):=by decide
 have y92:(92:UInt8).toNat=92:=rfl;have gen:∀(Y:List UInt8) (k:Nat) (v:Int),fr (Y++X)=(k,v,true)->k=Y.length->UInt8.ofNat v.toNat=c->(92::(Y++X)).length<f+1->jG (f+1) (92::(Y++X))=some (c::s,(92::(Y++X)).length):=by
  intro Y k v he hk hv hl;simp only[jG];rw[af n34,af nrg,ah y92,he];simp only[if_true];rw[hk,List.drop_left,hX (by simp only[aL,aI] at hl;omega)];simp only[Option.map_some,hv,aL,aI,dY,Prod.mk.injEq,true_and];omega
 unfold ko at hf ⊢;split
 ·rename_i h;rw[ah h] at hf;exact gen [c] 1 c.toNat (by show fr (c::X)=_;simp only[fr];rw[ah h]) rfl (RZ c) hf
 ·rename_i h;rw[af h] at hf;split
  ·rename_i h1;rw[ah h1] at hf;exact gen [110] 1 10 rfl rfl (UInt8.toNat_inj.1 (by rw[h1];rfl)) hf
  ·rename_i h1;rw[af h1] at hf;split
   ·rename_i h2;rw[ah h2] at hf;obtain⟨e1,e2⟩:=adi c.toNat c.toNat_lt;refine gen [120,mU.getD (c.toNat / 16) 0,mU.getD (c.toNat % 16) 0] 3 c.toNat ?_ rfl (RZ c) hf;show fr (120::mU.getD (c.toNat / 16) 0::mU.getD (c.toNat % 16) 0::X)=_;simp only[fr];rw[af (by decide),af (by decide),ah (by decide),e1,e2,acp c.toNat c.toNat_lt];simp;omega
   ·rename_i h2;rw[af h2] at hf;simp only[dW,List.nil_append,aL] at hf ⊢;simp only[jG];rw[af (fun e=>h (.inl e)),af h2,af (fun e=>h (.inr e)),hX (by omega)];simp only[Option.map_some,dY,Prod.mk.injEq,true_and];omega
theorem PU:∀(s:List UInt8) (f:Nat),((s.map ko).flatten++[34]).length<f->jG f ((s.map ko).flatten++[34])=some (s,((s.map ko).flatten++[34]).length)
 |[],f,hf=>by
  cases f with
  |zero=>exact absurd hf (Nat.not_lt_zero _)
  |succ f=>rfl
 |c::s,f,hf=>by
  cases f with
  |zero=>exact absurd hf (Nat.not_lt_zero _)
  |succ f=>
   have e0:(((c::s).map ko).flatten++[34])=ko c++((s.map ko).flatten++[34]):=by simp
   rw[e0] at hf ⊢;exact aaq c _ s f (PU s f) hf
theorem acq {s:List UInt8} (h:s.length<=1024):ig (uM s)=some (5,s,0,(uM s).length):=by
 have e:uM s=34::((s.map ko).flatten++[34]):=rfl;rw[e];simp only[ig];rw[af (by decide),af (by decide),ah (by decide)];unfold kZ;rw[PU s _ (Nat.lt_succ_self _)];simp only[ah h,aL];rw[Nat.add_comm]
theorem aeA:∀o∈ji,o≠[]/\ig o=some (6,o,0,o.length):=by decide
theorem Sp {t:Tk} {x:List UInt8} (hI:aF t.n) (h:fg t=some x):x≠[]/\ig x=some (t.k,t.s,t.n,x.length):=by
 obtain⟨k,s,n,q⟩:=t;simp only[fg] at h ⊢;have hI:n<=9223372036854775807:=hI.2;split at h
 ·rename_i hk;split at h
  ·rename_i hc;obtain⟨rfl,h2,h3⟩:=hc;cases h;rw[RA];have:=PI h2;rw[af (by rw[h3];exact Bool.false_ne_true)] at this;rw[hk];exact this
  ·cases h
 ·split at h
  ·rename_i hk;split at h
   ·rename_i hc;obtain⟨rfl,h2⟩:=hc;cases h;have:=PI (ade h2);rw[ah h2,aa9 _ (List.contains_iff_mem.1 h2)] at this;rw[hk];exact this
   ·cases h
  ·split at h
   ·rename_i hk;split at h
    ·rename_i hc;obtain⟨⟨rfl,h2⟩,h3⟩:=hc;obtain⟨u,rfl⟩:∃u:Nat,n=u:=⟨n.toNat,by omega⟩;cases h;have:=Rj (u:=u) (by omega) false (fun _=>by omega);rw[Lib.itoa_nonneg,hk];simp only[Bool.false_eq_true,if_false,List.append_nil] at this;exact⟨CQ u,this⟩
    ·cases h
   ·split at h
    ·rename_i hk;split at h
     ·rename_i hc;obtain⟨rfl,h2⟩:=hc;obtain⟨u,rfl⟩:∃u:Nat,n=u:=⟨n.toNat,by omega⟩;cases h;have:=Rj (u:=u) (by omega) true (fun e=>by cases e);rw[Lib.itoa_nonneg,hk];simp only[if_true] at this;exact⟨by simp,this⟩
     ·cases h
    ·split at h
     ·rename_i hk;split at h
      ·rename_i hc;obtain⟨rfl,h2⟩:=hc;cases h;rw[hk];exact⟨by simp [uM],acq h2⟩
      ·cases h
     ·split at h
      ·rename_i hk;split at h
       ·rename_i hc;obtain⟨rfl,h2⟩:=hc;cases h;rw[hk];exact aeA _ (List.contains_iff_mem.1 h2)
       ·cases h
      ·cases h
theorem XK:∀o∈ji,∃c r,o=c::r/\c.toNat≠9/\c.toNat≠10/\c.toNat≠13/\c.toNat≠32/\(c.toNat=47->r=[]):=by
 intro o ho;have h:∀o∈ji,(match o with |[]=>false |c::r=>decide (c.toNat≠9)&&decide (c.toNat≠10)&&decide (c.toNat≠13)&&decide (c.toNat≠32)&&(decide (c.toNat≠47)||decide (r=[])))=true:=by decide
 have:=h o ho;cases o with
 |nil=>cases this
 |cons c r=>
  simp only[aG,bu,Bool.or_eq_true] at this;exact⟨c,r,rfl,this.1.1.1.1,this.1.1.1.2,this.1.1.2,this.1.2,fun e=>this.2.resolve_left fun h=>h e⟩
theorem YR {c:UInt8} {r o:List UInt8} (h:tz (c::r)=some o):∃o',o=c::o' /\c.toNat≠9/\c.toNat≠10/\c.toNat≠13/\c.toNat≠32/\(c.toNat=47->o' =[]):=by
 have h1:=List.find?_some h;obtain⟨d,o',rfl,h2⟩:=XK o (List.mem_of_find?_eq_some h);rw[tb] at h1;have:c=d:=by simpa using(Bool.and_eq_true_iff.1 h1).1
 subst this;exact⟨o',rfl,h2⟩
theorem aar {x rest:List UInt8} {k:Int} {s:List UInt8} {n:Int} (hx:x≠[]) (ht:ig x=some (k,s,n,x.length)) (h:Stop rest):eJ false (x++rest)=0:=by
 cases x with
 |nil=>exact absurd rfl hx
 |cons c r=>
  simp only[ig] at ht;have key:¬(c.toNat=9\/c.toNat=10\/c.toNat=13\/c.toNat=32)/\¬(c.toNat=47/\(r++rest).head?.map UInt8.toNat=some 47):=by
   by_cases h1:dX c.toNat=true
   ·simp only[dX,Bool.or_eq_true,aG,bu] at h1;exact⟨by omega,by omega⟩
   ·rw[af h1] at ht;by_cases h2:eI c.toNat=true
    ·simp only[eI,aG,bu] at h2;exact⟨by omega,by omega⟩
    ·rw[af h2] at ht;by_cases h3:c.toNat=34
     ·exact⟨by omega,by omega⟩
     ·rw[af h3] at ht;obtain⟨o,ho,e⟩:=Option.map_eq_some_iff.1 ht;obtain⟨o',rfl,a1,a2,a3,a4,a5⟩:=YR ho;refine⟨by omega,fun hh=> ?_⟩;have h5:=a5 hh.1;subst h5;simp only[Prod.mk.injEq,aL,bg] at e;have:r=[]:=List.eq_nil_of_length_eq_zero (by omega);subst this;rw[List.nil_append] at hh;rcases h with rfl |⟨d,r',rfl,rfl |rfl⟩
      ·have:=hh.2;simp at this
      ·have:=hh.2;simp at this
      ·have:=hh.2;simp at this
  rw[dW,eJ,af key.1,af key.2]
theorem OZ:∀(ts:List Tk) (xs:List (List UInt8)) (f mr pos:Nat) (sep:List UInt8),(sep=[]\/sep=[32])->jX ts=some xs->(∀t∈ts,aF t.n)->mr+ts.length<=5000->ts.length<f->
  (oh f mr pos (sep++Lib.join xs [32])).2.2=0/\yl (oh f mr pos (sep++Lib.join xs [32])).1 ts=true
 |_,_,0,_,_,_,_,_,_,_,hf=>absurd hf (Nat.not_lt_zero _)
 |[],xs,f+1,mr,pos,sep,hs,hx,_,_,_=>by
  cases hx;rcases hs with rfl |rfl
  ·exact⟨rfl,rfl⟩
  ·exact⟨rfl,rfl⟩
 |t::r,xs,f+1,mr,pos,sep,hs,hx,hI,hc,hf=>by
  simp only[jX] at hx;cases hxt:fg t with
  |none=>rw[hxt] at hx;cases hx
  |some x=>
   rw[hxt] at hx;cases hys:jX r with
   |none=>rw[hys] at hx;cases hx
   |some ys=>
    rw[hys] at hx;cases hx;obtain⟨db,htok⟩:=Sp (hI t (b6 ..)) hxt;obtain⟨tL,hs',hj,jf⟩:∃tL,(tL=[]\/tL=[32])/\Lib.join (x::ys) [32]=x++(tL++Lib.join ys [32])/\Stop (tL++Lib.join ys [32]):=by
     cases ys with
     |nil=>exact⟨[],.inl rfl,by simp [Lib.join],.inl rfl⟩
     |cons y ys=>exact⟨[32],.inr rfl,by simp [Lib.join],.inr ⟨32,_,rfl,.inr rfl⟩⟩
    rw[hj];have ih:=fun p=>OZ r ys f (mr+1) p tL hs' hys (fun t ht=>hI t (bR _ ht)) (by simp only[aL] at hc;omega) (by simp only[aL] at hf;omega)
    have hk:=aar db htok jf;have vK:eJ false (sep++(x++(tL++Lib.join ys [32])))=sep.length:=by
     rcases hs with rfl |rfl
     ·exact hk
     ·show eJ false (32::(x++(tL++Lib.join ys [32])))=1;rw[eJ,ah (by decide),hk]
    have hd:∀X:List UInt8,(sep++X).drop sep.length=X:=fun X=>List.drop_left
    have qY:(sep++(x++(tL++Lib.join ys [32]))).drop (sep.length+x.length)=tL++Lib.join ys [32]:=by
     rw[<- List.drop_drop,hd,List.drop_left]
    simp only[oh,vK,hd,qY];rw[af (by intro e;exact db (List.append_eq_nil_iff.1 e).1),af (by simp only[aL] at hc;omega),aaj db jf (.inl (by rw[htok];intro e;cases e)),htok];simp only;rw[qY];obtain⟨i1,i2⟩:=ih (pos+sep.length+x.length);unfold tI;rw[ah i1];exact⟨rfl,by simp [yl,i2]⟩
theorem Yj {xs:List (List UInt8)} (h:∀x∈xs,x≠[]):xs.length<=(Lib.join xs [32]).length:=by
 induction xs with
 |nil=>simp
 |cons x xs ih=>
  have hx:1<=x.length:=by
   have:=h x (b6 ..);cases x with
   |nil=>exact absurd rfl this
   |cons=>simp
  have ih:=ih fun y hy=>h y (bR _ hy)
  cases xs with
  |nil=>simp [Lib.join];omega
  |cons y ys=>
   rw[FJ];simp only[aI,aL,bg] at ih ⊢;omega
theorem So:∀{ts:List Tk} {xs:List (List UInt8)},(∀t∈ts,aF t.n)->jX ts=some xs->xs.length=ts.length/\∀x∈xs,x≠[]
 |[],xs,_,h=>by cases h;exact⟨rfl,fun x hx=>by cases hx⟩
 |t::r,xs,hI,h=>by
  simp only[jX] at h;cases hxt:fg t with
  |none=>rw[hxt] at h;cases h
  |some x=>
   rw[hxt] at h;cases hys:jX r with
   |none=>rw[hys] at h;cases h
   |some ys=>
    rw[hys] at h;cases h;obtain⟨i1,i2⟩:=So (fun t ht=>hI t (bR _ ht)) hys;refine⟨by simp [i1],fun y hy=> ?_⟩;rcases List.mem_cons.1 hy with rfl |hy
    ·exact(Sp (hI t (b6 ..)) hxt).1
    ·exact i2 y hy
theorem abb {ts:List Tk} (hI:∀t∈ts,aF t.n) (h:(ld ts).2=0):∃A8,bk (ld ts).1=(A8,0,0)/\yl A8 ts=true:=by
 unfold ld at h ⊢;split at h
 ·cases h
 ·rename_i hl;split at h
  ·cases h
  ·rename_i xs hx;split at h
   ·cases h
   ·rename_i hj;rw[af hl];rw[af hj];show ∃A8,bk (Lib.join xs [32])=(A8,0,0)/\yl A8 ts=true;rw[HV (by omega)];obtain⟨e1,e2⟩:=So hI hx;have e3:=Yj e2;have:=OZ ts xs ((Lib.join xs [32]).length+1) 0 0 [] (.inl rfl) hx hI (by omega) (by omega);rw[List.nil_append] at this;have hn:=(IS ((Lib.join xs [32]).length+1) 0 0 (Lib.join xs [32])).1 this.1;exact⟨_,Prod.ext rfl (Prod.ext hn this.1),this.2⟩
/-! A comment behind the text. -/
end Go.Proofs.YtimddhkipjedcaaGreatDoor.E
namespace Go.Proofs
open Go.Shelf
def Tryz.laysC174_ren:Go.Shelf.Ren:=⟨fun |174=>225 |247=>246 |245=>247 |287=>259 |279=>260 |280=>261 |281=>262 |282=>263 |321=>272 |322=>273 |316=>274 |171=>276 |205=>275 |243=>282 |246=>284 |283=>285 |284=>286 |285=>287 |286=>288 |129=>290 |317=>289 |318=>291 |319=>292 |320=>293 |337=>294 |338=>295 |n=>n,fun |9=>9 |3=>3 |2=>2 |75=>195 |85=>196 |4=>4 |167=>216 |5=>5 |53=>217 |175=>218 |46=>220 |168=>221 |37=>83 |0=>0 |210=>228 |21=>21 |127=>225 |145=>239 |143=>237 |171=>244 |173=>247 |212=>250 |51=>240 |20=>20 |213=>251 |232=>254 |233=>255 |80=>85 |n=>n,fun |15=>2 |16=>3 |17=>6 |18=>7 |19=>8 |n=>n⟩
theorem Tryz.laysC174:Go.Proofs.LaysC.n174 Tryz.prog Tryz.laysC174_ren:={
 mixed:=by kernel_rfl
 f129:=Tryz.func290.trans (congrArg some (by kernel_rfl))
 f171:=Tryz.func276.trans (congrArg some (by kernel_rfl))
 f174:=Tryz.func225.trans (congrArg some (by kernel_rfl))
 f205:=Tryz.func275.trans (congrArg some (by kernel_rfl))
 f243:=Tryz.func282.trans (congrArg some (by kernel_rfl))
 f245:=Tryz.func247.trans (congrArg some (by kernel_rfl))
 f246:=Tryz.func284.trans (congrArg some (by kernel_rfl))
 f247:=Tryz.func246.trans (congrArg some (by kernel_rfl))
 f279:=Tryz.func260.trans (congrArg some (by kernel_rfl))
 f280:=Tryz.func261.trans (congrArg some (by kernel_rfl))
 f281:=Tryz.func262.trans (congrArg some (by kernel_rfl))
 f282:=Tryz.func263.trans (congrArg some (by kernel_rfl))
 f283:=Tryz.func285.trans (congrArg some (by kernel_rfl))
 f284:=Tryz.func286.trans (congrArg some (by kernel_rfl))
 f285:=Tryz.func287.trans (congrArg some (by kernel_rfl))
 f286:=Tryz.func288.trans (congrArg some (by kernel_rfl))
 f287:=Tryz.func259.trans (congrArg some (by kernel_rfl))
 f316:=Tryz.func274.trans (congrArg some (by kernel_rfl))
 f317:=Tryz.func289.trans (congrArg some (by kernel_rfl))
 f318:=Tryz.func291.trans (congrArg some (by kernel_rfl))
 f319:=Tryz.func292.trans (congrArg some (by kernel_rfl))
 f320:=Tryz.func293.trans (congrArg some (by kernel_rfl))
 f321:=Tryz.func272.trans (congrArg some (by kernel_rfl))
 f322:=Tryz.func273.trans (congrArg some (by kernel_rfl))
 f337:=Tryz.func294.trans (congrArg some (by kernel_rfl))
 f338:=Tryz.func295.trans (congrArg some (by kernel_rfl))
 t0:=Tryz.underlying0
 a0:=Tryz.isAgg0
 z0:=Tryz.sizeOf0
 v0:=Tryz.zeroValue0
 t2:=Tryz.underlying2
 a2:=Tryz.isAgg2
 z2:=Tryz.sizeOf2
 v2:=Tryz.zeroValue2
 t3:=Tryz.underlying3
 a3:=Tryz.isAgg3
 z3:=Tryz.sizeOf3
 v3:=Tryz.zeroValue3
 t4:=Tryz.underlying4
 a4:=Tryz.isAgg4
 z4:=Tryz.sizeOf4
 v4:=Tryz.zeroValue4
 t5:=Tryz.underlying5
 a5:=Tryz.isAgg5
 z5:=Tryz.sizeOf5
 v5:=Tryz.zeroValue5
 t9:=Tryz.underlying9
 a9:=Tryz.isAgg9
 z9:=Tryz.sizeOf9
 v9:=Tryz.zeroValue9
 t20:=Tryz.underlying20
 a20:=Tryz.isAgg20
 z20:=Tryz.sizeOf20
 v20:=Tryz.zeroValue20
 t21:=Tryz.underlying21
 a21:=Tryz.isAgg21
 z21:=Tryz.sizeOf21
 v21:=Tryz.zeroValue21
 t37:=Tryz.underlying83
 a37:=Tryz.isAgg83
 z37:=Tryz.sizeOf83
 v37:=Tryz.zeroValue83
 t46:=Tryz.underlying220
 a46:=Tryz.isAgg220
 z46:=Tryz.sizeOf220
 v46:=Tryz.zeroValue220
 t51:=Tryz.underlying240
 a51:=Tryz.isAgg240
 z51:=Tryz.sizeOf240
 v51:=Tryz.zeroValue240
 t53:=Tryz.underlying217
 a53:=Tryz.isAgg217
 z53:=Tryz.sizeOf217
 v53:=Tryz.zeroValue217
 t75:=Tryz.underlying195
 a75:=Tryz.isAgg195
 z75:=Tryz.sizeOf195
 v75:=Tryz.zeroValue195
 t85:=Tryz.underlying196
 a85:=Tryz.isAgg196
 z85:=Tryz.sizeOf196
 v85:=Tryz.zeroValue196
 t127:=Tryz.underlying225
 a127:=Tryz.isAgg225
 z127:=Tryz.sizeOf225
 v127:=Tryz.zeroValue225
 t143:=Tryz.underlying237
 a143:=Tryz.isAgg237
 z143:=Tryz.sizeOf237
 v143:=Tryz.zeroValue237
 t145:=Tryz.underlying239
 a145:=Tryz.isAgg239
 z145:=Tryz.sizeOf239
 v145:=Tryz.zeroValue239
 t167:=Tryz.underlying216
 a167:=Tryz.isAgg216
 z167:=Tryz.sizeOf216
 v167:=Tryz.zeroValue216
 t168:=Tryz.underlying221
 a168:=Tryz.isAgg221
 z168:=Tryz.sizeOf221
 v168:=Tryz.zeroValue221
 t171:=Tryz.underlying244
 a171:=Tryz.isAgg244
 z171:=Tryz.sizeOf244
 v171:=Tryz.zeroValue244
 t173:=Tryz.underlying247
 a173:=Tryz.isAgg247
 z173:=Tryz.sizeOf247
 v173:=Tryz.zeroValue247
 t175:=Tryz.underlying218
 a175:=Tryz.isAgg218
 z175:=Tryz.sizeOf218
 v175:=Tryz.zeroValue218
 t210:=Tryz.underlying228
 a210:=Tryz.isAgg228
 z210:=Tryz.sizeOf228
 v210:=Tryz.zeroValue228
 t212:=Tryz.underlying250
 a212:=Tryz.isAgg250
 z212:=Tryz.sizeOf250
 v212:=Tryz.zeroValue250
 t213:=Tryz.underlying251
 a213:=Tryz.isAgg251
 z213:=Tryz.sizeOf251
 t232:=Tryz.underlying254
 a232:=Tryz.isAgg254
 z232:=Tryz.sizeOf254
 v232:=Tryz.zeroValue254
 t233:=Tryz.underlying255
 a233:=Tryz.isAgg255
 z233:=Tryz.sizeOf255
 v233:=Tryz.zeroValue255
 g15:=by kernel_rfl
 g16:=by kernel_rfl
 g17:=by kernel_rfl
 g18:=by kernel_rfl
 g19:=by kernel_rfl
 t80:=Tryz.underlying85
 a80:=Tryz.isAgg85
 z80:=Tryz.sizeOf85
 v80:=Tryz.zeroValue85
 i0:=by kernel_rfl
 i2:=by kernel_rfl
 i3:=by kernel_rfl
 i4:=by kernel_rfl
 i5:=by kernel_rfl
 i9:=by kernel_rfl
 i20:=by kernel_rfl
 i21:=by kernel_rfl
 i37:=by kernel_rfl
 i46:=by kernel_rfl
 i51:=by kernel_rfl
 i53:=by kernel_rfl
 i75:=by kernel_rfl
 i80:=by kernel_rfl
 i85:=by kernel_rfl
 i127:=by kernel_rfl
 i143:=by kernel_rfl
 i145:=by kernel_rfl
 i167:=by kernel_rfl
 i168:=by kernel_rfl
 i171:=by kernel_rfl
 i173:=by kernel_rfl
 i175:=by kernel_rfl
 i210:=by kernel_rfl
 i212:=by kernel_rfl
 i232:=by kernel_rfl
 i233:=by kernel_rfl
 m15:=by kernel_rfl
 m16:=by kernel_rfl
 m17:=by kernel_rfl
 m18:=by kernel_rfl
 m19:=by kernel_rfl
 c0:=by kernel_rfl
 c2:=by kernel_rfl
 c3:=by kernel_rfl
 c4:=by kernel_rfl
 c5:=by kernel_rfl
 c9:=by kernel_rfl
 c20:=by kernel_rfl
 c21:=by kernel_rfl
 c37:=by kernel_rfl
 c46:=by kernel_rfl
 c51:=by kernel_rfl
 c53:=by kernel_rfl
 c75:=by kernel_rfl
 c80:=by kernel_rfl
 c85:=by kernel_rfl
 c127:=by kernel_rfl
 c143:=by kernel_rfl
 c145:=by kernel_rfl
 c167:=by kernel_rfl
 c168:=by kernel_rfl
 c171:=by kernel_rfl
 c173:=by kernel_rfl
 c175:=by kernel_rfl
 c210:=by kernel_rfl
 c212:=by kernel_rfl
 c213:=by kernel_rfl
 c232:=by kernel_rfl
 c233:=by kernel_rfl}
open Go.RowKit in
theorem Tryz.strconv_ParseInt_10_at64_ok (s:ByteArray) (akO:s.size<=9223372036854775806) (v:Int) (h:Lib.parseIntB 64 s.data.toList= .ok v) (w:World):
  Calls Tryz.prog 225 #[.string s,.int .i64 10,.int .i64 64] w fun e w' =>e= .returned (.tuple #[.int .i64 v,.nilIface])/\(w' =w\/∃t,w' =Lib.bytesWorld w 5 t):=Any.strconv_ParseInt_10_at64_ok Tryz.laysC174 s akO v h w
open Go.RowKit in
theorem Tryz.strconv_ParseInt_10_at64_bad (s:ByteArray) (Lq:s.size<=281474976710656) (h1:∀v,Lib.parseIntB 64 s.data.toList≠ .ok v) (h2:Lib.parseIntB 64 s.data.toList≠ .range) (ev:Value) (w:World) (hv:w.cell? ⟨2,0,none⟩=some ev) (qX:ev= .nilIface\/∃te pe,ev= .iface te pe):
  Calls Tryz.prog 225 #[.string s,.int .i64 10,.int .i64 64] w fun e w' =>∃N,e= .returned (.tuple #[.int .i64 (0),.iface 221 (.pointer (some ⟨N,0,none⟩))])/\w.heap.size<=N/\w'.heap[N]? =some (.cells #[.string ⟨#[80,97,114,115,101,73,110,116]⟩,.string s,ev] 228 (0,0))/\Below w.heap.size w w' :=by
 cases hp:Lib.parseIntB 64 s.data.toList with
 |ok v=>exact absurd hp (h1 v)
 |range=>exact absurd hp h2
 |_=>exact Any.strconv_ParseInt_10_at64_syntax Tryz.laysC174 s Lq hp ev w hv qX
open Go.RowKit in
theorem Tryz.strconv_ParseInt_10_at64_range (s:ByteArray) (Lq:s.size<=281474976710656) (h:Lib.parseIntB 64 s.data.toList= .range) (ev:Value) (w:World) (hv:w.cell? ⟨3,0,none⟩=some ev) (qX:ev= .nilIface\/∃te pe,ev= .iface te pe):
  Calls Tryz.prog 225 #[.string s,.int .i64 10,.int .i64 64] w fun e w' =>∃N,e= .returned (.tuple #[.int .i64 (Lib.intSat 64 s.data.toList),.iface 221 (.pointer (some ⟨N,0,none⟩))])/\w.heap.size<=N/\w'.heap[N]? =some (.cells #[.string ⟨#[80,97,114,115,101,73,110,116]⟩,.string s,ev] 228 (0,0))/\Below w.heap.size w w' :=Any.strconv_ParseInt_10_at64_range Tryz.laysC174 s Lq h ev w hv qX
end Go.Proofs
namespace Go.Proofs.YtimddhkipjedcaaGreatDoor.E
open Go Go.RowKit
theorem ahN:dc Tryz.prog 138 0=some (0,none,1):=by kernel_rfl
theorem afF:dc Tryz.prog 138 1=some (1,none,1):=by kernel_rfl
theorem air:oc Tryz.prog 138=true:=by kernel_rfl
theorem aeq:fC Tryz.prog 138=some [.v (.string (bs [])),.v (.int .i64 0)]:=by kernel_rfl
theorem akB:Gn Tryz.prog 195=true:=by kernel_rfl
attribute [go_sem] ahN afF air aeq akB
def GlobX (m:Mem):Prop:=Glob m/\∀w D,m.le ⟨w,D⟩->(∃k,w.cell? ⟨1,0,none⟩=some (.int .i64 k))/\(∃t p,w.cell? ⟨2,0,none⟩=some (.iface t p))/\(∃t p,w.cell? ⟨3,0,none⟩=some (.iface t p))/\
 Lib.TabIs Tryz.prog w "internal/strconv.uint64pow10" .u64 Lib.pow10Tab
theorem GlobX.up {m m' :Mem} (h:GlobX m) (hm:m.le m'):GlobX m' :=⟨Glob.up h.1 hm,fun w D hw=>h.2 w D (Mem.le_trans hm hw)⟩
theorem Ni (c:Int) (m:Mem):FnH Tryz.prog 184 [.v (.int .u8 c)] ⟨[],[]⟩ m fun r H' _=>r= .v (.bool (dX c))/\H' =⟨[],[]⟩:=by
 refine aR qR Tryz.func184 ?_
 ·simp only[go_sem];rfl
theorem Nj (c:Int) (m:Mem):FnH Tryz.prog 186 [.v (.int .u8 c)] ⟨[],[]⟩ m fun r H' _=>r= .v (.bool (eI c))/\H' =⟨[],[]⟩:=by
 refine aR qR Tryz.func186 ?_
 ·simp only[go_sem];rfl
abbrev cf1:Cfg:=gL (fun _=>false) [(184,vF dX),(186,vF eI)]
theorem Vi:dO cf1 Tryz.prog:=by
 refine pure_cons (by kernel_rfl) (fun fy y hy _ m=> ?_) (pure_cons (by kernel_rfl) (fun fy y hy _ m=> ?_) pure_nil)
 ·obtain⟨c,rfl,rfl⟩:=Ji hy;exact Ni c m
 ·obtain⟨c,rfl,rfl⟩:=Ji hy;exact Nj c m
theorem OL (s:List UInt8) (p at_:Int) (m:Mem) (h0:0<=at_) (h1:at_<=s.length) (hs:s.length<=4611686018427387904):FnH Tryz.prog 223 [.box 0 0,.v (.int .i64 at_)] ⟨[⟨0,138,[.v (.string (bs s)),.v (.int .i64 p)]⟩],[]⟩ m
  fun r H' m' =>r= .v (.int .i64 (cH true (s.drop at_.toNat)))/\H' =⟨[⟨0,138,[.v (.string (bs s)),.v (.int .i64 p)]⟩],[]⟩/\m' =m:=by
 refine aR Vi Tryz.func223 ?_
 ·simp only[go_sem];refine dA Vi (fun k:Nat=>⟨[⟨0,[],.box 0 0⟩,⟨1,[],.v (.int .i64 at_)⟩,⟨5,[],.v (.int .i64 k)⟩],[],[⟨0,138,[.v (.string (bs s)),.v (.int .i64 p)]⟩],[],1,m⟩)
   (fun k=>at_+k<=s.length/\cH true (s.drop at_.toNat)=k+cH (k==0) (s.drop (at_.toNat+k))) (fun k=>s.length - k) 0 (fun _ _=>av _) (fun _ _=> .inl rfl) ?_ ?_ ?_
  ·simp only[go_sem];rfl
  ·simp;omega
  ·rintro k ⟨hk,hp⟩;simp only[go_sem];have hi:aF (at_+k):=by unfold aF;omega
   have hd:∀h:at_+k<s.length,s.drop (at_.toNat+k)=s.getD (at_+k).toNat 0::s.drop (at_.toNat+(k+1)):=fun h=>by
    have e:(at_+(k:Int)).toNat=at_.toNat+k:=by omega
    have hl:at_.toNat+k<s.length:=by omega
    rw[e,List.drop_eq_getElem_cons hl,List.getD_eq_getElem?_getD,List.getElem?_eq_getElem hl];rfl
   refine⟨hi,fun _=>hi,fun h=>⟨by omega,h⟩,fun _=>hi,fun h=>⟨by omega,h.2.2⟩,fun h=>⟨by unfold aF;omega,k+1,by omega,⟨by omega,?_⟩,by omega⟩,fun h=> ?_⟩
   ·rw[hp,hd h.1];have:(dX ((s.getD (at_+k).toNat 0).toNat:Int)||(!(k==0)&&eI ((s.getD (at_+k).toNat 0).toNat:Int)))=true:=by
     rcases h.2 with h2 |⟨h2,h3⟩
     ·rw[h2];rfl
     ·rw[h3];have:(k==0)=false:=by simp;omega
      rw[this];simp
    simp only[cH];rw[ah this];have e0:((k+1)==0)=false:=rfl;rw[e0];omega
   ·rw[hp];have:cH (k==0) (s.drop (at_.toNat+k))=0:=by
     by_cases aw:at_+k<s.length
     ·rw[hd aw];rcases h with h |⟨h2,h3⟩
      ·exact absurd aw h
      ·simp only[cH];rw[af];rw[h2];rcases h3 with h3 |h3
       ·have:(k==0)=true:=by simp;omega
        rw[this];simp
       ·rw[h3];simp
     ·rw[List.drop_of_length_le (by omega)];rfl
    rw[this];rfl
def Ba (B:List UInt8->List UInt8->Prop) (F:List UInt8->List UInt8->Value):List Value->Option (Prop×Value)
 |[.string a,.string b]=>some (B (tl a) (tl b),F (tl a) (tl b))
 |_=>none
theorem Qd {B:List UInt8->List UInt8->Prop} {F:List UInt8->List UInt8->Value} {l:List Value} {y:Prop×Value} (h:Ba B F l=some y):∃a b,l=[.string (bs a),.string (bs b)]/\y=(B a b,F a b):=by
 unfold Ba at h;split at h
 ·rename_i a b;cases h;exact⟨tl a,tl b,by rw[kG,kG],rfl⟩
 ·cases h
attribute [go_sem] Ba.eq_1
theorem Wv (a b:List UInt8) (m:Mem):FnH Tryz.prog 221 [.v (.string (bs a)),.v (.string (bs b))] ⟨[],[]⟩ m fun r H' _=>r= .v (.bool (jH a b))/\H' =⟨[],[]⟩:=by
 refine aR qR Tryz.func221 ?_
 ·simp only[go_sem];refine⟨fun h=>⟨by omega,by omega,h⟩,?_⟩;rfl
abbrev cf2:Cfg:=gL (fun _=>false) [(221,Ba (fun _ _=>True) fun a b=> .bool (jH a b))]
theorem pu2:dO cf2 Tryz.prog:=by
 refine pure_cons (by kernel_rfl) (fun fy y hy _ m=> ?_) pure_nil;obtain⟨a,b,rfl,rfl⟩:=Qd hy;exact Wv a b m
theorem WA (a b:List UInt8) (m:Mem):FnH Tryz.prog 182 [.v (.string (bs a)),.v (.string (bs b))] ⟨[],[]⟩ m fun r H' _=>r= .v (.bool (jH a b))/\H' =⟨[],[]⟩:=by
 refine aR pu2 Tryz.func182 ?_
 ·simp only[go_sem]
def G5 (B:List UInt8->Int->Prop) (F:List UInt8->Int->Value):List Value->Option (Prop×Value)
 |[.string a,.int .u8 c]=>some (B (tl a) c,F (tl a) c)
 |_=>none
attribute [go_sem] G5.eq_1
theorem aeN {P:Program} {f:FuncId} {B:List UInt8->List UInt8->Prop} {F:List UInt8->List UInt8->Value} (h:∀a b m,B a b->FnH P f [.v (.string (bs a)),.v (.string (bs b))] ⟨[],[]⟩ m fun r H' _=>r= .v (F a b)/\H' =⟨[],[]⟩):qH P f (Ba B F):=fun fy y hy hB m=>by
 obtain⟨a,b,rfl,rfl⟩:=Qd hy;exact h a b m hB
theorem aeO {P:Program} {f:FuncId} {B:List UInt8->Int->Prop} {F:List UInt8->Int->Value} (h:∀a c m,B a c->FnH P f [.v (.string (bs a)),.v (.int .u8 c)] ⟨[],[]⟩ m fun r H' _=>r= .v (F a c)/\H' =⟨[],[]⟩):qH P f (G5 B F):=fun fy y hy hB m=>by
 unfold G5 at hy;split at hy
 ·rename_i a c;cases hy;have:=h (tl a) c m hB;rwa [kG] at this
 ·cases hy
theorem WH (s:List UInt8) (m:Mem) (hg:GlobX m) (hs:s.length<=2147483648):
  FnH Tryz.prog 225 [.v (.string (bs s)),.v (.int .i64 10),.v (.int .i64 64)] ⟨[],[]⟩ m fun r H' m' =>(∃e,r= .v (.tuple ⟨[.int .i64 (jl s).1,e]⟩)/\Hf e/\rO e=(jl s).2)/\H' =⟨[],[]⟩/\m' =m:=by
 refine(Gb (args:=[.string (bs s),.int .i64 10,.int .i64 64]) (R:=fun y=>∃e,y= .tuple ⟨[.int .i64 (jl s).1,e]⟩/\Hf e/\rO e=(jl s).2) fun w D kP hle=> ?_).mono ?_
 ·have dp:=qv s;obtain⟨_,⟨t4,p4,h4⟩,⟨t5,p5,h5⟩,_⟩:=hg.2 w D hle;cases hp:Lib.parseIntB 64 s with
  |ok v=>
   refine(Tryz.strconv_ParseInt_10_at64_ok (bs s) (by omega) v hp w).mono ?_;rintro e w' ⟨rfl,hw⟩;refine⟨_,rfl,⟨.nilIface,by simp [jl,hp],.inl rfl,by simp [jl,hp,rO]⟩,?_⟩;rcases hw with rfl |⟨t,rfl⟩
   ·exact Below.refl _ _
   ·exact Lib.bytesWorld_below _ _ _
  |range=>
   have Ml:(bs s).data.toList=s:=Ay s;refine(Tryz.strconv_ParseInt_10_at64_range (bs s) (by omega) hp _ w h5 (.inr ⟨_,_,rfl⟩)).mono ?_;rintro e w' ⟨N,rfl,_,_,hb⟩;exact⟨_,rfl,⟨.iface 221 (.pointer (some ⟨N,0,none⟩)),by simp [jl,hp,Ml],.inr ⟨_,_,rfl⟩,by simp [jl,hp,rO]⟩,hb⟩
  |_=>
   refine(Tryz.strconv_ParseInt_10_at64_bad (bs s) (by omega) (by rw[show(bs s).data.toList=s from Ay s,hp];intro v e;cases e) (by rw[show(bs s).data.toList=s from Ay s,hp];intro e;cases e) _ w h4 (.inr ⟨_,_,rfl⟩)).mono ?_;rintro e w' ⟨N,rfl,_,_,hb⟩;exact⟨_,rfl,⟨.iface 221 (.pointer (some ⟨N,0,none⟩)),by simp [jl,hp],.inr ⟨_,_,rfl⟩,by simp [jl,hp,rO]⟩,hb⟩
 ·rintro r H' m' hm ⟨⟨y,rfl,e,rfl,h3⟩,h1,h2⟩;exact⟨⟨e,rfl,h3⟩,h1,h2⟩
theorem Oy:∀(l:List UInt8),eJ true l=(if Lib.indexByte l 10<0 then l.length else(Lib.indexByte l 10).toNat+eJ false (l.drop (Lib.indexByte l 10).toNat))
 |[]=>rfl
 |c::r=>by
  have ih:=Oy r;have cg:=Lib.indexByte_ge r 10;simp only[eJ,Lib.indexByte,beq_iff_eq];by_cases h:c.toNat=10
  ·have:c=10:=Kp h;subst this;simp [eJ]
  ·have h' :¬c=10:=fun e=>h (by rw[e];rfl)
   rw[af h,af h',ih];by_cases hn:Lib.indexByte r 10= -1
   ·rw[ah hn,ah (by omega),ah (by omega),aL];omega
   ·rw[af hn,af (by omega),af (by omega)];have e:(Lib.indexByte r 10+1).toNat=(Lib.indexByte r 10).toNat+1:=by omega
    rw[e,List.drop_succ_cons];omega
def Hb (s:List UInt8) (c:Int):Int:=Lib.indexByte s c.toNat.toUInt8
theorem ae5 (s:List UInt8) (c:UInt8):Hb s c.toNat=Lib.indexByte s c:=by unfold Hb;rw[Int.toNat_natCast];simp
abbrev pIB:List Value->Option (Prop×Value):=G5 (fun _ _=>True) fun s c=> .int .i64 (Hb s c)
abbrev cf7:Cfg:=gL (fun f=>f==223||f==226||f==185||f==187||f==188||f==189||f==124||f==125) [(184,vF dX),(186,vF eI),(182,Ba (fun _ _=>True) fun a b=> .bool (jH a b)),(183,pIB),(192,ft BL fun s=> .bool (fK s))]
theorem eM:dO cf7 Tryz.prog:=by
 refine pure_cons (by kernel_rfl) (Kv Ni) (pure_cons (by kernel_rfl) (Kv Nj) (pure_cons (by kernel_rfl) (aeN fun a b m _=>WA a b m) (pure_cons (by kernel_rfl) (aeO fun a c m _=>M4 a c m) (pure_cons (by kernel_rfl) (fL Ia) pure_nil))))
theorem YA (s:List UInt8) (p:Nat) (m:Mem) (hp:p<=s.length) (hs:s.length<=1000000):
  FnH Tryz.prog 124 [.box 0 0] ⟨[⟨0,138,[.v (.string (bs s)),.v (.int .i64 p)]⟩],[]⟩ m fun r H' m' =>r= .tup []/\H' =⟨[⟨0,138,[.v (.string (bs s)),.v (.int .i64 (p+eJ false (s.drop p):Nat))]⟩],[]⟩/\m' =m:=by
 refine aR eM Tryz.func124 ?_
 ·simp only[go_sem];refine ZQ eM (fun k:Nat=>⟨[⟨0,[],.box 0 0⟩],[],[⟨0,138,[.v (.string (bs s)),.v (.int .i64 k)]⟩],[],1,m⟩)
   (fun k=>k<=s.length/\p+eJ false (s.drop p)=k+eJ false (s.drop k)) (fun k=>s.length - k) p (by kernel_rfl) (fun _ _=>av _) (fun _ _=> .inl rfl) (fun _=> ?_) ?_ ?_ ?_
  ·simp only[go_sem]
  ·simp only[go_sem]
  ·exact⟨hp,rfl⟩
  ·rintro k0 ⟨lv,uj⟩;simp only[go_sem];refine dA eM (fun k:Nat=>⟨[⟨0,[],.box 0 0⟩],[],[⟨0,138,[.v (.string (bs s)),.v (.int .i64 k)]⟩],[],1,m⟩)
    (fun k=>k0<=k/\k<=s.length/\p+eJ false (s.drop p)=k+eJ false (s.drop k)) (fun k=>s.length - k) k0 (fun _ _=>av _) (fun _ _=> .inl rfl) ?_ ?_ ?_
   ·simp only[go_sem]
   ·exact⟨av _,lv,uj⟩
   ·rintro k ⟨iR,hk,qU⟩;simp only[go_sem];refine lP eM (by kernel_rfl) (by kernel_rfl) (by kernel_rfl) ?_;simp only[go_sem];refine⟨fun aw=> ?_,fun cg=> ?_⟩
    ·refine lP eM (by kernel_rfl) (by kernel_rfl) (by kernel_rfl) ?_;simp only[go_sem];refine⟨⟨by omega,aw⟩,?_⟩;have cF:k<s.length:=by omega
     have hI:aF (k+1):=by unfold aF;omega
     rw[drop_at cF] at qU;simp only[eJ] at qU;have ws:((s.getD k 0).toNat=9\/(s.getD k 0).toNat=10\/(s.getD k 0).toNat=13\/(s.getD k 0).toNat=32)->
       ∃x' :Nat,(k:Int)+1=x' /\(k0<=x' /\x' <=s.length/\p+eJ false (s.drop p)=x' +eJ false (s.drop x'))/\s.length - x' <s.length - k:=fun hc=>by
      rw[ah hc] at qU;exact⟨k+1,rfl,⟨by omega,cF,by omega⟩,by omega⟩
     refine⟨fun h=>⟨fun _=>⟨hI,ws (by omega)⟩,fun h' =>absurd h h'⟩,fun h9=>⟨fun h=>⟨fun _=>⟨hI,ws (by omega)⟩,fun h' =>absurd h h'⟩,fun HG=>⟨fun h=>⟨fun _=>⟨hI,ws (by omega)⟩,fun h' =>absurd h h'⟩,
      fun Wb=>⟨fun h=>⟨hI,ws (by omega)⟩,fun h32=> ?_⟩⟩⟩⟩
     rw[af (by omega)] at qU;refine lP eM (by kernel_rfl) (by kernel_rfl) (by kernel_rfl) ?_;simp only[go_sem];refine⟨⟨by omega,by omega,by omega⟩,fun hc=> ?_,fun hc=> ?_⟩
     ·have jg:Hb (s.drop k) 10=Lib.indexByte (s.drop k) 10:=rfl;have hh:(s.getD k 0).toNat=47/\(s.drop (k+1)).head?.map UInt8.toNat=some 47:=Oa.1 (by rw[<- drop_at cF];exact hc);rw[ah hh] at qU;have jf:p+eJ false (s.drop p)=k+eJ true (s.drop k):=by
       rw[qU,drop_at cF];simp only[eJ];rw[af (by omega)]
      have hi:Lib.indexByte (s.drop k) 10≠0:=by
       rw[drop_at cF];have cg:=Lib.indexByte_ge (s.drop (k+1)) 10;simp only[Lib.indexByte,beq_iff_eq];rw[af (fun e=>by rw[e] at hh;exact absurd hh.1 (by decide))];split<;>omega
      have cg:=Lib.indexByte_ge (s.drop k) 10;have vv:=Kf 10 (s.drop k);rw[dG] at vv;have fG:=Oy (s.drop k);refine lP eM (by kernel_rfl) (by kernel_rfl) (by kernel_rfl) ?_;simp only[go_sem,jg];refine⟨⟨by omega,by omega,by omega⟩,fun hn=> ?_,fun hn=>⟨by unfold aF;omega,k+(Lib.indexByte (s.drop k) 10).toNat,by omega,⟨by omega,?_⟩,by omega⟩⟩
      ·refine lP eM (by kernel_rfl) (by kernel_rfl) (by kernel_rfl) ?_;simp only[go_sem];refine⟨by unfold aF;omega,by unfold aF;omega,s.length,by omega,⟨av _,?_⟩,by omega⟩;rw[ah hn,dG] at fG;rw[List.drop_length];simp only[eJ];omega
      ·rw[af hn,List.drop_drop] at fG;omega
     ·have:p+eJ false (s.drop p)=k:=by
       rw[qU,af,Nat.add_zero];rintro⟨e1,e2⟩;rw[drop_at cF,Oa.2 ⟨e1,e2⟩] at hc;cases hc
      rw[this]
    ·have e:s.drop k=[]:=List.drop_of_length_le (by omega);rw[e] at qU;rw[qU];rfl
abbrev ik (s:List UInt8) (p:Int):Bx:=⟨0,138,[.v (.string (bs s)),.v (.int .i64 p)]⟩
theorem Ww (s:List UInt8) (p:Nat) (m:Mem) (hp:p<=s.length) (hs:s.length<=1000000):
  FnH Tryz.prog 189 [.box 0 0] ⟨[ik s p],[]⟩ m fun r H' m' =>m' =m/\match tz (s.drop p) with
   |some o=>r= .tup [Tk.sv ⟨6,o,0,p⟩,.v (.bool true)]/\H' =⟨[ik s (p+o.length)],[]⟩
   |none=>r= .tup [Tk.sv vT,.v (.bool false)]/\H' =⟨[ik s p],[]⟩:=by
 refine aR eM Tryz.func189 ?_
 ·simp only[go_sem];refine ab ((Wy m).mono ?_);rintro r H' m' hm ⟨rfl,rfl,rfl⟩;simp only[go_sem];refine dA eM (fun k:Nat=>⟨[⟨0,[],.box 0 0⟩,⟨2,[],.box 1 0⟩,⟨7,[],.vec 2 0⟩,⟨8,[],.v (.int .i64 30)⟩,⟨9,[],.v (.int .i64 k)⟩],[],[⟨1,50,vT.cells⟩,ik s p],[⟨2,0,9,1,30,strs ji⟩],3,m'⟩)
   (fun k=>k<=30/\tz (s.drop p)=(ji.drop k).find? fun o=>jH (s.drop p) o) (fun k=>30 - k) 0 (fun _ _=>av _) (fun _ _=> .inl rfl) ?_ ?_ ?_
  ·simp only[go_sem];exact⟨rfl,rfl⟩
  ·exact⟨by omega,rfl⟩
  ·rintro k ⟨hk,hf⟩;simp only[go_sem];have fG:ji.length=30:=rfl;have jf:(strs ji).length=30:=rfl;refine⟨fun aw=>⟨⟨by omega,aw⟩,by omega,?_⟩,fun cg=> ?_⟩
   ·have Lr:k<ji.length:=by omega
    have e:(strs ji).getD k undef= .string (bs ji[k]):=by
     rw[List.getD_eq_getElem?_getD,strs,List.getElem?_map,List.getElem?_eq_getElem Lr];rfl
    rw[e];have za:ji[k].length<=3:=(by decide:∀o∈ji,o.length<=3) _ (List.getElem_mem Lr);rw[List.drop_eq_getElem_cons Lr,List.find?_cons] at hf;generalize ji[k]=o at za hf
    refine lP eM (by kernel_rfl) (by kernel_rfl) (by kernel_rfl) ?_;simp only[go_sem];refine⟨⟨by omega,by omega,by omega⟩,fun h=> ?_,fun h=>⟨by unfold aF;omega,k+1,by omega,⟨by omega,?_⟩,by omega⟩⟩
    ·simp only[h] at hf;rw[hf];exact⟨by unfold aF;omega,rfl,rfl⟩
    ·simp only[h] at hf;exact hf
   ·obtain rfl:k=30:=by omega
    have e:ji.drop 30=[]:=rfl;rw[e] at hf;simp only[List.find?_nil] at hf;rw[hf];trivial
theorem Xv (s:List UInt8) (p:Nat) (m:Mem) (hp:p<=s.length) (hs:s.length<=1000000):
  FnH Tryz.prog 226 [.box 0 0] ⟨[ik s p],[]⟩ m fun r H' m' =>m' =m/\r= .tup [.v (.int .u8 (fr (s.drop p)).2.1),.v (.bool (fr (s.drop p)).2.2)]/\H' =⟨[ik s (p+(fr (s.drop p)).1:Nat)],[]⟩:=by
 refine aR eM Tryz.func226 ?_
 ·simp only[go_sem];cases hr:s.drop p with
  |nil=>
   refine lP eM (by kernel_rfl) (by kernel_rfl) (by kernel_rfl) ?_;simp only[go_sem,hr];exact⟨⟨by omega,by omega,by omega⟩,⟨rfl,rfl⟩,fun h=>absurd trivial h⟩
  |cons c r=>
   have hlen:(s.drop p).length=r.length+1:=by rw[hr];rfl
   rw[dG] at hlen;refine lP eM (by kernel_rfl) (by kernel_rfl) (by kernel_rfl) ?_;simp only[go_sem,hr];have h0:(0:Int)<=0/\(0:Int)<((r.length+1:Nat):Int):=by omega
   refine⟨⟨by omega,by omega,by omega⟩,h0,fun _=>h0,fun h=> ?_,fun h=>⟨h0,fun h1=> ?_,fun h1=>⟨h0,fun h2=> ?_,fun h2=> ?_⟩⟩⟩
   ·have e:fr (c::r)=(1,(c.toNat:Int),true):=by
     simp only[fr];rw[ah (by omega)]
    rw[e];exact⟨by unfold aF;omega,h0,rfl,rfl⟩
   ·have e:fr (c::r)=(1,10,true):=by
     simp only[fr];rw[af (by omega),ah (by omega)]
    rw[e];exact⟨by unfold aF;omega,rfl,rfl⟩
   ·match r,hlen,h2,h0 with
    |[],_,h2,_=>exact absurd h2.2 (by simp)
    |[_],_,h2,_=>exact absurd h2.2 (by simp)
    |x::y::r,hlen,h2,h0=>
     have e:fr (c::x::y::r)=(3,IntKind.u8.wrap (16 * qa x+qa y),decide (0<=qa x)&&decide (0<=qa y)):=by
      simp only[fr];rw[af (by omega),af (by omega),ah (by omega)]
     rw[e];simp only[List.getD_cons_zero,List.getD_cons_succ,ae5];have hb:∀z:UInt8,-1<=Lib.indexByte mU z/\Lib.indexByte mU z<16:=fun z=>⟨Lib.indexByte_ge _ _,Kf z mU⟩
     have h3:=hb x;have h4:=hb y;simp only[qa];simp only[mU] at h3 h4 ⊢;simp only[aL] at hlen ⊢;exact⟨by omega,by omega,by unfold aF;omega,by unfold aF;omega,by unfold aF;omega,rfl,rfl⟩
   ·have e:fr (c::r)=(0,0,false):=by
     simp only[fr];rw[af (by omega),af (by omega)];split
     ·match r,h2 with
      |[],_=>rfl
      |[_],_=>rfl
      |x::y::r,h2=>simp only[aL] at h2;omega
     ·rfl
    rw[e];exact⟨rfl,rfl⟩
def U6 (s:List UInt8) (p:Nat) (o:Option (List UInt8×Nat)) (r:SV) (H' :Hp):Prop:=
 match o with
 |some (b,n)=>r= .tup [Tk.sv ⟨5,b,0,p⟩,.v (.bool (decide (b.length<=1024)))]/\H' =⟨[ik s (p+1+n:Nat)],[]⟩
 |none=>∃t q,r= .tup [Tk.sv t,.v (.bool false)]/\H' =⟨[ik s q],[]⟩
theorem Xi (s:List UInt8) (p:Nat) (m:Mem) (hp:p<s.length) (hs:s.length<=1000000):
  FnH Tryz.prog 188 [.box 0 0] ⟨[ik s p],[]⟩ m fun r H' m' =>m' =m/\U6 s p (kZ (s.drop (p+1))) r H' :=by
 refine aR eM Tryz.func188 ?_
 ·simp only[go_sem];refine ZR eM (by kernel_rfl) ?_;simp only[go_sem];refine⟨by unfold aF;omega,?_⟩;refine z7 5 5 1 (by decide) rfl ?_;refine dA eM (fun x:Nat×List UInt8×Nat=>⟨[⟨0,[],.box 0 0⟩,⟨2,[],.box 1 0⟩,⟨4,[],.box 2 0⟩,⟨5,[],.vec 3 x.2.2⟩],[],[⟨2,50,Tk.cells ⟨5,[],0,p⟩⟩,⟨1,50,vT.cells⟩,ik s x.1],[⟨3,x.2.2,5,1,x.2.1.length,j0 x.2.1⟩],4,m⟩)
   (fun x=>p+1<=x.1/\x.1<=s.length/\x.2.1.length<=x.1/\∃f,s.length - x.1<f/\kZ (s.drop (p+1))=(jG f (s.drop x.1)).map fun y=>(x.2.1++y.1,x.1 - (p+1)+y.2)) (fun x=>s.length - x.1) (p+1,[],0) (fun _ _=>by first |omega |(simp only;omega)) (fun _ _=> .inl rfl) ?_ ?_ ?_
  ·simp only[go_sem];exact⟨rfl,rfl⟩
  ·refine⟨av _,hp,aD _,(s.drop (p+1)).length+1,by rw[dG];omega,?_⟩;show kZ _=(kZ _).map _;cases kZ (s.drop (p+1)) with
   |none=>rfl
   |some x=>simp
  ·rintro⟨q,b,v⟩ ⟨h1,h2,h3,f,hf,hq⟩;simp only at h1 h2 h3 hf hq;obtain⟨f,rfl⟩:∃g,f=g+1:=⟨f - 1,by omega⟩;simp only[go_sem];refine lP eM (by kernel_rfl) (by kernel_rfl) (by kernel_rfl) ?_;simp only[go_sem];refine⟨fun cg=> ?_,fun aw=> ?_⟩
   ·have e:s.drop q=[]:=List.drop_of_length_le (by omega);rw[e] at hq;have DW:kZ (s.drop (p+1))=none:=hq;rw[DW];exact⟨⟨5,[],0,p⟩,_,rfl,rfl⟩
   ·have hql:q<s.length:=by omega
    rw[drop_at hql] at hq;simp only[jG] at hq;refine lP eM (by kernel_rfl) (by kernel_rfl) (by kernel_rfl) ?_;simp only[go_sem];refine⟨⟨by omega,by omega⟩,by unfold aF;omega,fun h34=> ?_,fun h34=> ?_⟩
    ·rw[ah (by omega)] at hq;refine⟨b,rfl,?_⟩;rw[hq];refine⟨?_,?_⟩
     ·have:decide ((b.length:Int)<=1024)=decide ((b++[]).length<=1024):=by rw[List.append_nil,decide_eq_decide];omega
      rw[this,List.append_nil]
     ·have:((p+1+(q - (p+1)+1):Nat):Int)=q+1:=by omega
      simp only[this]
    ·rw[af (by omega)] at hq;refine⟨fun akV=> ?_,fun akV=>⟨fun h92=>⟨by kernel_rfl,?_⟩,fun h92=> ?_⟩⟩
     ·rw[ah (by omega)] at hq;have DW:kZ (s.drop (p+1))=none:=hq;rw[DW];exact⟨⟨5,[],0,p⟩,_,rfl,rfl⟩
     ·rw[af (by omega),ah (by omega)] at hq;have nO:=Xv s (q+1) m (by omega) hs;refine bo (nO.mono ?_);rintro r H' m' hm ⟨rfl,rfl,rfl⟩;simp only[go_sem];obtain⟨po,ct⟩:=Fm (s.drop (q+1));obtain⟨x,hx⟩:=Zz (s.drop (q+1));rw[hx] at hq ⊢;rw[dG] at po;rw[List.drop_drop] at hq;generalize (fr (s.drop (q+1))).1=a at hq po ct ⊢
      generalize (fr (s.drop (q+1))).2.2=k at hq ct ⊢
      have ex:UInt8.ofNat ((x.toNat:Int)).toNat=x:=by rw[Int.toNat_natCast];simp
      rw[ex] at hq;refine⟨fun hk=> ?_,fun hk=> ?_⟩
      ·subst hk;have DW:kZ (s.drop (p+1))=none:=hq;rw[DW];exact⟨⟨5,[],0,p⟩,_,rfl,rfl⟩
      ·subst hk;have ha:=ct rfl;have KH:j0 b++[Value.int .u8 (x.toNat:Int)]=j0 (b++[x]):=by rw[Cg];rfl
       refine⟨⟨by omega,by simp only[maxLen];omega⟩,(q+1+a,b++[x],v+1),⟨rfl,rfl,rfl,by simp,KH⟩,⟨by first |omega |(simp only;omega),by first |omega |(simp only;omega),by simp only[aI,iq];omega,f,by first |omega |(simp only;omega),?_⟩,by first |omega |(simp only;omega)⟩;rw[hq,ah rfl];cases jG f (s.drop (q+1+a)) with
       |none=>rfl
       |some x=>
        have:q - (p+1)+(1+a+x.2)=q+1+a - (p+1)+x.2:=by omega
        simp [this]
     ·rw[af (by omega),af (by omega)] at hq;have KH:j0 b++[Value.int .u8 ((s.getD q 0).toNat:Int)]=j0 (b++[s.getD q 0]):=by rw[Cg];rfl
      refine⟨⟨by omega,by simp only[maxLen];omega⟩,(q+1,b++[s.getD q 0],v+1),⟨rfl,rfl,rfl,by simp,KH⟩,⟨by first |omega |(simp only;omega),by first |omega |(simp only;omega),by simp only[aI,iq];omega,f,by first |omega |(simp only;omega),?_⟩,by first |omega |(simp only;omega)⟩;rw[hq];cases jG f (s.drop (q+1)) with
      |none=>rfl
      |some x=>
       have:q - (p+1)+(1+x.2)=q+1 - (p+1)+x.2:=by omega
       simp [this]
theorem R1 {t:List UInt8}:(!decide (((t.getD 0 0).toNat:Int)=48)||decide ((t.length:Int)=1))=(decide ((t.getD 0 0).toNat≠48)||decide (t.length=1)):=by
 have e1:decide (((t.getD 0 0).toNat:Int)=48)=decide ((t.getD 0 0).toNat=48):=by rw[decide_eq_decide];omega
 have e2:decide ((t.length:Int)=1)=decide (t.length=1):=by rw[decide_eq_decide];omega
 rw[e1,e2];simp
theorem Xo (s:List UInt8) (p:Nat) (m:Mem) (hg:GlobX m) (hp:p<s.length) (hs:s.length<=1000000) (hd:eI (s.getD p 0).toNat=true):
  FnH Tryz.prog 187 [.box 0 0] ⟨[ik s p],[]⟩ m fun r H' m' =>m' =m/\
   r= .tup [Tk.sv ⟨if(gV (s.drop p)).1=true then 4 else 3,[],(gV (s.drop p)).2.1,p⟩,.v (.bool (gV (s.drop p)).2.2.2)]/\H' =⟨[ik s (p+(gV (s.drop p)).2.2.1:Nat)],[]⟩:=by
 refine aR eM Tryz.func187 ?_
 ·simp only[go_sem];refine dA eM (fun k:Nat=>⟨[⟨0,[],.box 0 0⟩,⟨2,[],.box 1 0⟩,⟨4,[],.v (.int .i64 p)⟩],[],[⟨1,50,vT.cells⟩,ik s k],[],2,m⟩)
   (fun k=>p<=k/\k<=s.length/\p+dP (s.drop p)=k+dP (s.drop k)) (fun k=>s.length - k) p (fun _ _=>av _) (fun _ _=> .inl rfl) ?_ ?_ ?_
  ·simp only[go_sem]
  ·exact⟨av _,by omega,rfl⟩
  ·rintro k ⟨qU,hk,hdk⟩;simp only[go_sem];refine lP eM (by kernel_rfl) (by kernel_rfl) (by kernel_rfl) ?_;simp only[go_sem];refine⟨fun h=>⟨by omega,h⟩,fun h=>⟨by unfold aF;omega,k+1,rfl,⟨by omega,by omega,?_⟩,by omega⟩,fun h=> ?_⟩
   ·have e:dP (s.drop k)=1+dP (s.drop (k+1)):=by
     rw[drop_at (by omega)];simp only[dP];rw[ah h.2]
    omega
   ·have akR:dP (s.drop k)=0:=by
     rcases h with h |h
     ·rw[List.drop_of_length_le (by omega)];rfl
     ·rcases Nat.lt_or_ge k s.length with h' |h'
      ·rw[drop_at h'];simp only[dP];rw[h];rfl
      ·rw[List.drop_of_length_le h'];rfl
    have lv:k=p+dP (s.drop p):=by omega
    have UJ:p<k:=by
     rw[lv,drop_at hp];simp only[dP];rw[ah hd];omega
    clear hdk h akR;have Bd:=ae0 hp hk lv UJ;have lx:=Bd.1;have xw:=Bd.2.1;have GM:=Bd.2.2;have qe:=WH (p9 s p) m hg (by rw[xw];omega);refine lP eM (by kernel_rfl) (by kernel_rfl) (by kernel_rfl) ?_;simp only[go_sem,lx];refine⟨⟨by omega,by omega,by omega⟩,?_⟩;refine lP eM (by kernel_rfl) (by kernel_rfl) (by kernel_rfl) ?_;simp only[go_sem,lx];refine⟨fun h=>⟨by omega,h⟩,fun h=>⟨by unfold aF;omega,by kernel_rfl,bo (qe.mono ?_)⟩,fun h=>ab (qe.mono ?_)⟩
    ·rintro r H' m' hm ⟨⟨e,rfl,he1,he2⟩,rfl,rfl⟩;clear qe;rcases he1 with rfl |⟨te,ve,rfl⟩
     ·simp only[go_sem];refine bO (.hoist 0 (.hoist 1 (.hoist 2 (.hoist 3 (.hoist 4 (.hoist 5 (.hoist 6 (.hoist 7 (.hoist 8 (.hoist 9 (.hoist 10 (.hoist 11 (.hoist 12 (.hoist 13 (.hoist 14 (.hoist 15 (.hoist 16 (.hoist 17 (.hoist 18 (.alt 19 [18,17,16,15,14] (.hoist 20 .done) .stop)))))))))))))))))))) eM (by kernel_rfl) (by kernel_rfl) ?_;simp only[go_sem,GM];have pn:(jl (p9 s p)).2=true:=he2.symm;refine⟨.inl rfl,fun _=>by rw[xw];omega,?_,?_⟩
      ·rw[ah h,ah h,pn,Bool.true_and,R1]
      ·rw[ah h];have:((p+(k - p+1):Nat):Int)=k+1:=by omega
       rw[this]
     ·simp only[go_sem];refine bO (.hoist 0 (.hoist 1 (.hoist 2 (.hoist 3 (.hoist 4 (.hoist 5 (.hoist 6 (.hoist 7 (.hoist 8 (.hoist 9 (.hoist 10 (.hoist 11 (.hoist 12 (.hoist 13 (.hoist 14 (.hoist 15 (.hoist 16 (.hoist 17 (.hoist 18 (.alt 19 [18,17,16,15,14] (.hoist 20 .done) .stop)))))))))))))))))))) eM (by kernel_rfl) (by kernel_rfl) ?_;simp only[go_sem,GM];have pn:(jl (p9 s p)).2=false:=he2.symm;refine⟨.inr ⟨_,_,rfl⟩,?_,?_⟩
      ·rw[ah h,ah h,pn];rfl
      ·rw[ah h];have:((p+(k - p+1):Nat):Int)=k+1:=by omega
       rw[this]
    ·rintro r H' m' hm ⟨⟨e,rfl,he1,he2⟩,rfl,rfl⟩;clear qe;rcases he1 with rfl |⟨te,ve,rfl⟩
     ·simp only[go_sem];refine bO (.hoist 0 (.hoist 1 (.hoist 2 (.hoist 3 (.hoist 4 (.hoist 5 (.hoist 6 (.hoist 7 (.hoist 8 (.hoist 9 (.hoist 10 (.hoist 11 (.hoist 12 (.hoist 13 (.hoist 14 (.hoist 15 (.hoist 16 (.hoist 17 (.hoist 18 (.alt 19 [18,17,16,15,14] (.hoist 20 .done) .stop)))))))))))))))))))) eM (by kernel_rfl) (by kernel_rfl) ?_;simp only[go_sem,GM];have h:¬((k:Int)<s.length/\(((s.getD k 0).toNat:Nat):Int)=76):=fun x=>h.elim (fun y=>y x.1) (fun y=>y x.2)
      have pn:(jl (p9 s p)).2=true:=he2.symm;refine⟨.inl rfl,fun _=>by rw[xw];omega,?_,?_⟩
      ·rw[af h,af h,pn,Bool.true_and,R1]
      ·rw[af h];have:((p+(k - p):Nat):Int)=k:=by omega
       rw[this]
     ·simp only[go_sem];refine bO (.hoist 0 (.hoist 1 (.hoist 2 (.hoist 3 (.hoist 4 (.hoist 5 (.hoist 6 (.hoist 7 (.hoist 8 (.hoist 9 (.hoist 10 (.hoist 11 (.hoist 12 (.hoist 13 (.hoist 14 (.hoist 15 (.hoist 16 (.hoist 17 (.hoist 18 (.alt 19 [18,17,16,15,14] (.hoist 20 .done) .stop)))))))))))))))))))) eM (by kernel_rfl) (by kernel_rfl) ?_;simp only[go_sem,GM];have h:¬((k:Int)<s.length/\(((s.getD k 0).toNat:Nat):Int)=76):=fun x=>h.elim (fun y=>y x.1) (fun y=>y x.2)
      have pn:(jl (p9 s p)).2=false:=he2.symm;refine⟨.inr ⟨_,_,rfl⟩,?_,?_⟩
      ·rw[af h,af h,pn];rfl
      ·rw[af h];have:((p+(k - p):Nat):Int)=k:=by omega
       rw[this]
theorem adh (l:List UInt8) (hl:l.length<=1000000):BL (gA l):=by
 have h:=RB (l.take (jQ l)) [58,58] [47] (by simp) (by rw[List.length_take];omega);rw[List.length_take] at h;simp only[aL,bg] at h;unfold BL gA;omega
theorem Wu (s:List UInt8) (p:Nat) (m:Mem) (hg:GlobX m) (hp:p<s.length) (hs:s.length<=1000000):
  FnH Tryz.prog 185 [.box 0 0] ⟨[ik s p],[]⟩ m fun r H' m' =>m.le m' /\
   r= .tup [Tk.sv ⟨if gG.contains (gA (s.drop p))=true then 2 else 1,gA (s.drop p),0,p⟩,.v (.bool (fK (gA (s.drop p))))]/\H' =⟨[ik s (p+jQ (s.drop p):Nat)],[]⟩:=by
 refine aR eM Tryz.func185 ?_
 ·simp only[go_sem];refine bO (.hoist 0 (.hoist 1 (.hoist 2 (.hoist 3 (.hoist 4 (.hoist 5 (.hoist 6 (.hoist 7 (.hoist 8 (.alt 9 [3,2,1,0] (.hoist 10 (.hoist 11 (.hoist 12 (.alt 13 [] .done .stop)))) .stop)))))))))) eM (by kernel_rfl) (by kernel_rfl) ?_;simp only[go_sem];have j6:=xU true (s.drop p);rw[dG] at j6;refine ab ((OL s p p m (by omega) (by omega) (by omega)).mono ?_);rintro r H' m' hm ⟨rfl,rfl,rfl⟩;simp only[go_sem];refine⟨by unfold aF;omega,?_⟩;refine ab7 eM (fun x:Nat×Nat=>⟨[⟨0,[],.box 0 0⟩,⟨2,[],.box 1 0⟩,⟨3,[],.v (.bool false)⟩,⟨4,[],.v (.int .i64 p)⟩],[],[⟨1,50,vT.cells⟩,ik s x.1],[],3,m'⟩)
   (fun x=>p<=x.1/\x.1<=s.length/\s.length - x.1<x.2/\p+jQ (s.drop p)=x.1+jZ x.2 (s.drop x.1)) (fun x=>s.length - x.1) (p+cH true (s.drop p),(s.drop p).length+1)
   (fun _:Unit=>⟨[⟨0,[],.box 0 0⟩,⟨2,[],.box 1 0⟩,⟨3,[],.v (.bool false)⟩,⟨4,[],.v (.int .i64 p)⟩],[],[⟨1,50,vT.cells⟩,ik s (p+jQ (s.drop p):Nat)],[],3,m'⟩) (fun _=>p+jQ (s.drop p)<=s.length)
   (by kernel_rfl) (fun _ _=>av _) (fun _ _=> .inl rfl) (fun _=> ?_) ?_ ?_ (fun _ _=>av _) (fun _ _=> .inl rfl) (fun _=> ?_) (fun _ hJ=> ?_) ?_
  ·simp only[go_sem]
  ·simp only[go_sem];rfl
  ·refine⟨Nat.le_add_right _ _,by omega,by rw[dG];simp only;omega,?_⟩;simp only[jQ,List.drop_drop];omega
  ·simp only[go_sem]
  ·simp only[go_sem];have et:(s.take (p+jQ (s.drop p))).drop p=(s.drop p).take (jQ (s.drop p)):=by
    rw[List.drop_take];congr 1;omega
   have aT:=WT ((s.drop p).take (jQ (s.drop p))) [58,58] [47] m' hg.1 (by rw[List.length_take,dG];omega) (by simp) (by simp);have eS:Lib.replaceAll ((s.drop p).take (jQ (s.drop p))) [58,58] [47]=gA (s.drop p):=rfl;have Hl:BL (gA (s.drop p)):=adh _ (by rw[dG];omega);refine bO (.hoist 0 (.hoist 1 (.hoist 2 (.hoist 3 (.hoist 4 (.hoist 5 (.hoist 6 (.hoist 7 (.hoist 8 (.hoist 9 (.hoist 11 (.alt 10 [11] (.hoist 12 (.alt 13 [12,11] (.alt 14 [] .done .stop) .stop)) (.alt 13 [11,9,8,7,6,5,4,3,2,1,0] (.alt 10 [11] (.hoist 12 (.alt 14 [] .done .stop)) .stop) .stop))))))))))))) eM (by kernel_rfl) (by kernel_rfl) ?_;simp only[go_sem,et];refine⟨⟨by omega,by omega,by omega⟩,ab (aT.mono ?_),ab (aT.mono ?_)⟩
   ·clear aT;rintro r H' ku aH ⟨rfl,rfl,rfl⟩;simp only[go_sem,eS];refine bO (.hoist 1 (.hoist 2 (.alt 0 [2,1] (.alt 3 [] .done .stop) .stop))) eM (by kernel_rfl) (by kernel_rfl) ?_;simp only[go_sem];refine ab ((HQ ku).mono ?_);rintro r H' m3 bI ⟨rfl,rfl,rfl⟩;simp only[go_sem];refine⟨by kernel_rfl,fun ad cp m1 aN ba bW=>bo ((zy gG (gA (s.drop p)) ad 28 cp m1 bW (by decide)).mono ?_)⟩;rintro r H' m4 cQ ⟨rfl,rfl⟩;simp only[go_sem];refine⟨fun hk=> ?_,fun hk=> ?_⟩
    ·refine bO (.hoist 0 (.hoist 1 (.hoist 2 (.alt 3 [0] (.alt 4 [] (.hoist 5 .done) .stop) .stop)))) eM (by kernel_rfl) (by kernel_rfl) ?_;simp only[go_sem];refine⟨Hl,Mem.le_trans aN cQ,?_⟩;rw[ah hk]
    ·refine bO (.hoist 0 (.hoist 1 (.hoist 2 (.alt 3 [0] (.alt 4 [] (.hoist 5 .done) .stop) .stop)))) eM (by kernel_rfl) (by kernel_rfl) ?_;simp only[go_sem];refine⟨Hl,Mem.le_trans aN cQ,?_⟩;rw[af (by rw[hk];exact Bool.false_ne_true)]
   ·clear aT;rintro r H' ku aH ⟨rfl,rfl,rfl⟩;simp only[go_sem,eS];refine bO (.hoist 1 (.hoist 2 (.alt 0 [2,1] (.alt 3 [] .done .stop) .stop))) eM (by kernel_rfl) (by kernel_rfl) ?_;simp only[go_sem];refine ab ((HQ ku).mono ?_);rintro r H' m3 bI ⟨rfl,rfl,rfl⟩;simp only[go_sem];refine⟨by kernel_rfl,fun ad cp m1 aN ba bW=>bo ((zy gG (gA (s.drop p)) ad 28 cp m1 bW (by decide)).mono ?_)⟩;rintro r H' m4 cQ ⟨rfl,rfl⟩;simp only[go_sem];refine⟨fun hk=> ?_,fun hk=> ?_⟩
    ·refine bO (.hoist 0 (.hoist 1 (.hoist 2 (.alt 3 [0] (.alt 4 [] (.hoist 5 .done) .stop) .stop)))) eM (by kernel_rfl) (by kernel_rfl) ?_;simp only[go_sem];refine⟨Hl,Mem.le_trans aN cQ,?_⟩;rw[ah hk]
    ·refine bO (.hoist 0 (.hoist 1 (.hoist 2 (.alt 3 [0] (.alt 4 [] (.hoist 5 .done) .stop) .stop)))) eM (by kernel_rfl) (by kernel_rfl) ?_;simp only[go_sem];refine⟨Hl,Mem.le_trans aN cQ,?_⟩;rw[af (by rw[hk];exact Bool.false_ne_true)]
  ·rintro⟨k,f⟩ ⟨h1,h2,h3,h4⟩;simp only at h1 h2 h3 h4;obtain⟨f,rfl⟩:∃g,f=g+1:=⟨f - 1,by omega⟩;simp only[jZ] at h4;simp only[go_sem];refine lP eM (by kernel_rfl) (by kernel_rfl) (by kernel_rfl) ?_;simp only[go_sem];refine⟨⟨by omega,by omega,by omega⟩,fun h=> ?_,fun h=> ?_⟩
   ·have vK:k+2<=s.length:=by
     have:=FF h;rw[dG] at this;simp only[aL,bg] at this;omega
    have akH:=xU true (s.drop (k+2));rw[dG] at akH;rw[List.drop_drop,List.drop_drop] at h4;have e2:((k:Int)+2).toNat=k+2:=by omega
    refine⟨by unfold aF;omega,by kernel_rfl,bo ((OL s k (k+2) m' (by omega) (by omega) (by omega)).mono ?_)⟩;rintro r H' ku aH ⟨rfl,rfl,rfl⟩;simp only[go_sem,e2];refine⟨fun h0=>⟨(),?_,?_⟩,fun h0=>⟨by unfold aF;omega,by unfold aF;omega,(k+(2+cH true (s.drop (k+2))),f),by simp only;omega,⟨by simp only;omega,by simp only;omega,by simp only;omega,?_⟩,by simp only;omega⟩⟩
    ·rw[af (by rintro⟨_,x⟩;exact x (by omega))] at h4;rw[h4];rfl
    ·rw[af (by rintro⟨_,x⟩;exact x (by omega))] at h4;omega
    ·rw[ah ⟨h,by omega⟩] at h4;simp only;omega
   ·rw[af (by rw[h];rintro⟨x,_⟩;cases x)] at h4;exact⟨(),by rw[h4];rfl,by omega⟩
def LG (s:List UInt8) (p:Nat) (o:Option (Int×List UInt8×Int×Nat)) (r:SV) (H' :Hp):Prop:=
 match o with
 |some (k,t,n,len)=>r= .tup [Tk.sv ⟨k,t,n,p⟩,.v (.bool true)]/\H' =⟨[ik s (p+len:Nat)],[]⟩
 |none=>∃t q,r= .tup [Tk.sv t,.v (.bool false)]/\H' =⟨[ik s q],[]⟩
def yJ (s:List UInt8) (p:Nat) (m:Mem) (r:SV) (H' :Hp) (m' :Mem):Prop:=
 m.le m' /\∃(t:Tk) (b:Bool) (q:Int),r= .tup [Tk.sv t,.v (.bool b)]/\H' =⟨[ik s q],[]⟩/\LG s p (ig (s.drop p)) (.tup [Tk.sv t,.v (.bool b)]) ⟨[ik s q],[]⟩
theorem ac1 {s:List UInt8} {p:Nat} {m m' :Mem} {r:SV} {H' :Hp} (hp:p<s.length) (h1:dX (s.getD p 0).toNat=true)
  (h:m.le m' /\r= .tup [Tk.sv ⟨if gG.contains (gA (s.drop p))=true then 2 else 1,gA (s.drop p),0,p⟩,.v (.bool (fK (gA (s.drop p))))]/\H' =⟨[ik s (p+jQ (s.drop p):Nat)],[]⟩):yJ s p m r H' m' :=by
 obtain⟨hle,rfl,rfl⟩:=h;refine⟨hle,_,_,_,rfl,rfl,?_⟩;have e:ig (s.drop p)=if fK (gA (s.drop p))=true then some (if gG.contains (gA (s.drop p))=true then 2 else 1,gA (s.drop p),0,jQ (s.drop p)) else none:=by
  rw[drop_at hp];show(if dX (s.getD p 0).toNat=true then _ else _)=_;rw[ah h1]
 rw[e];cases hn:fK (gA (s.drop p)) with
 |true=>exact⟨rfl,rfl⟩
 |false=>exact⟨_,_,rfl,rfl⟩
theorem aaX {s:List UInt8} {p:Nat} {m m' :Mem} {r:SV} {H' :Hp} (hm:m.le m') (hp:p<s.length) (h1:dX (s.getD p 0).toNat=false) (h2:eI (s.getD p 0).toNat=true)
  (h:m' =m/\r= .tup [Tk.sv ⟨if(gV (s.drop p)).1=true then 4 else 3,[],(gV (s.drop p)).2.1,p⟩,.v (.bool (gV (s.drop p)).2.2.2)]/\H' =⟨[ik s (p+(gV (s.drop p)).2.2.1:Nat)],[]⟩):yJ s p m r H' m' :=by
 obtain⟨_,rfl,rfl⟩:=h;refine⟨hm,_,_,_,rfl,rfl,?_⟩;have e:ig (s.drop p)=if(gV (s.drop p)).2.2.2=true then some (if(gV (s.drop p)).1=true then 4 else 3,[],(gV (s.drop p)).2.1,(gV (s.drop p)).2.2.1) else none:=by
  rw[drop_at hp];show(if dX (s.getD p 0).toNat=true then _ else if eI (s.getD p 0).toNat=true then _ else _)=_;rw[af (by rw[h1];exact Bool.false_ne_true),ah h2]
 rw[e];cases hn:(gV (s.drop p)).2.2.2 with
 |true=>exact⟨rfl,rfl⟩
 |false=>exact⟨_,_,rfl,rfl⟩
theorem aaW {s:List UInt8} {p:Nat} {m m' :Mem} {r:SV} {H' :Hp} (hm:m.le m') (hp:p<s.length) (h1:dX (s.getD p 0).toNat=false) (h2:eI (s.getD p 0).toNat=false) (h3:(((s.getD p 0).toNat:Nat):Int)=34)
  (h:m' =m/\U6 s p (kZ (s.drop (p+1))) r H'):yJ s p m r H' m' :=by
 obtain⟨_,h⟩:=h;have e:ig (s.drop p)=match kZ (s.drop (p+1)) with
   |some (b,n)=>if b.length<=1024 then some (5,b,0,1+n) else none
   |none=>none:=by
  rw[drop_at hp];show(if dX (s.getD p 0).toNat=true then _ else if eI (s.getD p 0).toNat=true then _ else if(s.getD p 0).toNat=34 then _ else _)=_;rw[af (by rw[h1];exact Bool.false_ne_true),af (by rw[h2];exact Bool.false_ne_true),ah (by omega)];first |done |rfl
 unfold yJ;rw[e];cases hq:kZ (s.drop (p+1)) with
 |none=>
  rw[hq] at h;obtain⟨t,q,rfl,rfl⟩:=h;exact⟨hm,t,false,q,rfl,rfl,t,q,rfl,rfl⟩
 |some x=>
  obtain⟨b,n⟩:=x;rw[hq] at h;obtain⟨rfl,rfl⟩:=h;refine⟨hm,_,_,_,rfl,rfl,?_⟩;by_cases hb:b.length<=1024
  ·simp only[ah hb,eH hb];exact⟨rfl,by rw[Nat.add_assoc]⟩
  ·simp only[af hb,dr hb];exact⟨_,_,rfl,rfl⟩
theorem ac0 {s:List UInt8} {p:Nat} {m m' :Mem} {r:SV} {H' :Hp} (hm:m.le m') (hp:p<s.length) (h1:dX (s.getD p 0).toNat=false) (h2:eI (s.getD p 0).toNat=false) (h3:¬(((s.getD p 0).toNat:Nat):Int)=34)
  (h:m' =m/\match tz (s.drop p) with
   |some o=>r= .tup [Tk.sv ⟨6,o,0,p⟩,.v (.bool true)]/\H' =⟨[ik s (p+o.length)],[]⟩
   |none=>r= .tup [Tk.sv vT,.v (.bool false)]/\H' =⟨[ik s p],[]⟩):yJ s p m r H' m' :=by
 obtain⟨_,h⟩:=h;have e:ig (s.drop p)=(tz (s.drop p)).map fun o=>(6,o,0,o.length):=by
  rw[drop_at hp];show(if dX (s.getD p 0).toNat=true then _ else if eI (s.getD p 0).toNat=true then _ else if(s.getD p 0).toNat=34 then _ else _)=_;rw[af (by rw[h1];exact Bool.false_ne_true),af (by rw[h2];exact Bool.false_ne_true),af (by omega)]
 unfold yJ;rw[e];cases hq:tz (s.drop p) with
 |none=>
  rw[hq] at h;obtain⟨rfl,rfl⟩:=h;exact⟨hm,vT,false,p,rfl,rfl,vT,p,rfl,rfl⟩
 |some o=>
  rw[hq] at h;obtain⟨rfl,rfl⟩:=h;exact⟨hm,_,_,_,rfl,rfl,rfl,rfl⟩
theorem Zk (s:List UInt8) (p:Nat) (m:Mem) (hg:GlobX m) (hp:p<s.length) (hs:s.length<=1000000):
  FnH Tryz.prog 125 [.box 0 0] ⟨[ik s p],[]⟩ m fun r H' m' =>yJ s p m r H' m' :=by
 refine aR eM Tryz.func125 ?_
 ·simp only[go_sem];refine lP eM (by kernel_rfl) (by kernel_rfl) (by kernel_rfl) ?_;simp only[go_sem]
  refine⟨by omega,fun h1=>ab (((Wu s p m hg hp hs).mono fun r H' m' hm h=>ac1 hp h1 h).mono ?_),fun h1=>⟨fun h2=>ab (((Xo s p m hg hp hs h2).mono fun r H' m' hm h=>aaX hm hp h1 h2 h).mono ?_),
   fun h2=>⟨fun h3=>ab (((Xi s p m hp hs).mono fun r H' m' hm h=>aaW hm hp h1 h2 h3 h).mono ?_),fun h3=>ab (((Ww s p m (by omega) hs).mono fun r H' m' hm h=>ac0 hm hp h1 h2 h3 h).mono ?_)⟩⟩⟩
  all_goals
   rintro r H' m' hm ⟨hle,t,b,q,rfl,rfl,hN⟩;simp only[go_sem];exact⟨hle,t,b,q,rfl,rfl,hN⟩
theorem aei {s:List UInt8} {p:Nat} {o:Option (Int×List UInt8×Int×Nat)} {t:Tk} {q:Int} (h:LG s p o (.tup [Tk.sv t,.v (.bool false)]) ⟨[ik s q],[]⟩):o=none:=by
 cases o with
 |none=>rfl
 |some x=>
  obtain⟨k,tt,n,len⟩:=x;have h1:=h.1;simp at h1
theorem acd {s:List UInt8} {p:Nat} {o:Option (Int×List UInt8×Int×Nat)} {t:Tk} {q:Int} (h:LG s p o (.tup [Tk.sv t,.v (.bool true)]) ⟨[ik s q],[]⟩):
  ∃k tt n len,o=some (k,tt,n,len)/\t=⟨k,tt,n,p⟩/\q=(p+len:Nat):=by
 cases o with
 |none=>
  obtain⟨t',q',h1,_⟩:=h;simp at h1
 |some x=>
  obtain⟨k,tt,n,len⟩:=x;obtain⟨h1,h2⟩:=h;obtain⟨tk,ts,tn,ta⟩:=t;simp only[Tk.sv,Tk.cells,SV.tup.injEq,List.cons.injEq,SV.agg.injEq,SV.v.injEq,Value.int.injEq,Value.string.injEq,true_and,and_true] at h1;simp only[Hp.mk.injEq,List.cons.injEq,Bx.mk.injEq,SV.v.injEq,Value.int.injEq,true_and,and_true] at h2;obtain⟨rfl,h12,rfl,rfl⟩:=h1;have:=Au h12;subst this;exact⟨_,_,_,_,rfl,rfl,h2⟩
theorem HO (s:List UInt8) (m:Mem) (hg:GlobX m) (hs:s.length<=4611686018427387904):
  FnH Tryz.prog 48 [.v (.string (bs s))] ⟨[],[]⟩ m fun r H' m' =>ae m m' /\DA (bk s) r H' :=by
 refine aR eM Tryz.func48 ?_
 ·simp only[go_sem];refine⟨fun h=> ?_,fun h=> ?_⟩
  ·have e:bk s=([],0,8):=ah (by omega);rw[e];exact .inr ⟨by decide,rfl,rfl,rfl⟩
  ·refine z7 5 50 4 (by decide) rfl ?_;have Ml:bk s=r0 s (s.length+1) 0 []:=af (by omega);refine dA eM (fun x:Nat×List Tk×Nat×Mem=>⟨[⟨0,[],.v (.string (bs s))⟩,⟨5,[],.vec 1 x.2.2.1⟩,⟨6,[],.box 0 0⟩],[],[ik s x.1],[⟨1,x.2.2.1,50,4,x.2.1.length,cw x.2.1⟩],2,x.2.2.2⟩)
    (fun x=>ae m x.2.2.2/\GlobX x.2.2.2/\x.1<=s.length/\x.2.1.length<=5000/\∃f,s.length - x.1<f/\bk s=r0 s f x.1 x.2.1) (fun x=>s.length - x.1) (0,[],0,m) (fun _ _=>av _) (fun x hx=>hx.1) ?_ ?_ ?_
   ·simp only[go_sem];exact⟨rfl,rfl⟩
   ·exact⟨.inl rfl,hg,aD _,aD _,s.length+1,by simp only;omega,Ml⟩
   ·rintro⟨p,acc,u,mm⟩ ⟨h1,h2,h3,h4,f,h5,h6⟩;simp only at h1 h2 h3 h4 h5 h6;obtain⟨f,rfl⟩:∃g,f=g+1:=⟨f - 1,by omega⟩;simp only[r0] at h6;have hsk:=Ch false (s.drop p);rw[dG] at hsk;have iT:=YA s p mm h3 (by omega);obtain⟨q,hq⟩:∃q,p+eJ false (s.drop p)=q:=⟨_,rfl⟩;rw[hq] at h6 iT;have hqs:q<=s.length:=by omega
    simp only[go_sem];refine ab (iT.mono ?_);rintro r H' m' hm ⟨rfl,rfl,rfl⟩;clear iT;simp only[go_sem];refine⟨fun cg=>⟨h1,?_⟩,fun aw=>⟨fun aoY=>⟨h1,?_⟩,fun apo=>ab ((Zk s q m' h2 (by omega) (by omega)).mono ?_)⟩⟩
    ·rw[h6,ah (by omega)];exact .inl ⟨rfl,_,_,rfl,rfl⟩
    ·rw[h6,af (by omega),ah (by omega)];exact .inr ⟨by decide,rfl,rfl,rfl⟩
    ·rintro r H' ku aH ⟨hle,t,b,qq,rfl,rfl,hN⟩;simp only[go_sem,Tk.sv,Tk.cells];have Bf:ae m ku:=O1 h1 hle;refine⟨fun hb=>⟨Bf,?_⟩,fun hb=>⟨⟨by omega,by simp only[maxLen];omega⟩,?_⟩⟩
     ·have ht:=aei (hb▸hN);rw[h6,af (by omega),af (by omega),ht];exact .inr ⟨by simp,rfl,rfl,rfl⟩
     ·obtain⟨k,tt,n,len,ht,e1,e2⟩:=acd (hb▸hN);rw[ht] at h6;rw[af (by omega),af (by omega)] at h6;have hlen:=PJ ht;rw[dG] at hlen;refine⟨(q+len,acc++[t],u+1,ku),⟨rfl,e2,⟨rfl,by simp,WL acc t⟩,.inl rfl⟩,⟨Bf,h2.up hle,by simp only;omega,by simp only[aI,iq];omega,f,by simp only;omega,?_⟩,by simp only;omega⟩;rw[h6,e1]
end Go.Proofs.YtimddhkipjedcaaGreatDoor.E
namespace Go.Proofs.YtimddhkipjedcaaGreatDoor.E
open Go Go.ChangeShapes Go.WideShapes Go.ChangeAt Go.RowKit
theorem T7: "*" ++ "errors.errorString" = "*errors.errorString" :=by decide
theorem tV (u:TypeId) (h:Tryz.prog.typeName? 3 u=some "*errors.errorString"):u=237:=
 typeName_ptr_named (nm:= "errors.errorString") (by rw[T7];kernel_rfl) (by kernel_rfl) (by decide) u (by rw[T7];exact h)
theorem abj {W:World} (VU:laidMetH Tryz.prog C4 W) (hs:W.ShapedOpen Tryz.prog):GlobX ⟨W,fR W⟩:=by
 have hg:=adn VU hs;have hL:=VU;rw[MakeChecks.laidMetH_plain _ _ _ (by kernel_rfl)] at hL;have h3:=hL.tail.tail;have ht:=Lib.tabIs_of_head (P:=Tryz.prog) (zs:=Lib.pow10Tab) (g:=6) (t:=250) (e:=217) (n:=20) (by kernel_rfl) (by kernel_rfl) (by kernel_rfl) (by kernel_rfl) (by kernel_rfl) (by kernel_rfl) h3;obtain⟨a5,_,v5,_⟩:=laid_sentinel (P:=Tryz.prog) (g:=3) (ti:=195) (tp:=237) (te:=239) (ts:=9) h3.tail.tail (by kernel_rfl) (by kernel_rfl) Tryz.underlying195 tV Tryz.underlying237 Tryz.underlying239 rfl rfl (by kernel_rfl) (by kernel_rfl) (by kernel_rfl);obtain⟨a4,_,v4,_⟩:=laid_sentinel (P:=Tryz.prog) (g:=2) (ti:=195) (tp:=237) (te:=239) (ts:=9) h3.tail.tail.tail (by kernel_rfl) (by kernel_rfl) Tryz.underlying195 tV Tryz.underlying237 Tryz.underlying239 rfl rfl (by kernel_rfl) (by kernel_rfl) (by kernel_rfl);obtain⟨k,hk⟩:=g1 W hs;refine⟨hg,fun w D hle=> ?_⟩;exact⟨⟨k,FB hle hk⟩,⟨_,_,FB hle (by rw[World.var?_cell (by kernel_rfl) v4 0];rfl)⟩,⟨_,_,FB hle (by rw[World.var?_cell (by kernel_rfl) v5 0];rfl)⟩,SO hle ht⟩
theorem aem:fC Tryz.prog 62=some [.v (.slice none 0 0),.v (.int .i64 0),.v (.int .i64 0),.v (.bool false),.v (.int .i64 0)]:=by kernel_rfl
theorem aix:eU Tryz.prog 62=some (some 5):=by kernel_rfl
theorem ai5:bZ Tryz.prog 62=5:=by kernel_rfl
theorem adD:dc Tryz.prog 62 0=some (0,none,1):=by kernel_rfl
theorem adC:dc Tryz.prog 62 1=some (1,none,1):=by kernel_rfl
theorem adB:dc Tryz.prog 62 2=some (2,none,1):=by kernel_rfl
theorem adA:dc Tryz.prog 62 3=some (3,none,1):=by kernel_rfl
theorem adz:dc Tryz.prog 62 4=some (4,none,1):=by kernel_rfl
theorem aim:oc Tryz.prog 62=true:=by kernel_rfl
theorem ait:eU Tryz.prog 45=some none:=by kernel_rfl
theorem aiF:eU Tryz.prog 4=some none:=by kernel_rfl
theorem ajd:bZ Tryz.prog 4=1:=by kernel_rfl
attribute [go_sem] aiF ajd ait aem aix ai5 adD adC adB adA adz aim kq
structure PSt where
 i:Nat
 fl:Bool
 off:Int
abbrev pH (ts:List Tk) (en:Int) (s:PSt):Hp:=⟨[⟨0,62,[.vec 1 0,.v (.int .i64 s.i),.v (.int .i64 en),.v (.bool s.fl),.v (.int .i64 s.off)]⟩],[⟨1,0,50,4,ts.length,cw ts⟩]⟩
abbrev tkS (t:Tk):SV:= .agg [.v (.int .i64 t.k),.v (.string (bs t.s)),.v (.int .i64 t.n),.v (.int .i64 t.at_)]
def zT:Tk:=⟨0,[],0,0⟩
def fE (ts:List Tk) (i:Nat):Tk:=ts.getD i zT
theorem I2 {ts:List Tk} {i:Nat} (h:i<ts.length):((cw ts).drop (i * 4)).take 4=kq (fE ts i):=by
 induction ts generalizing i with
 |nil=>cases h
 |cons t r ih=>
  cases i with
  |zero=>simp [cw,kq,fE]
  |succ i=>
   have:=ih (i:=i) (by simpa using h);have e:cw (t::r)=kq t++cw r:=by simp [cw,kq]
   have e2:fE (t::r) (i+1)=fE r i:=rfl;rw[e2,e,show(i+1) * 4=4+i * 4 by omega,<- List.drop_drop];exact this
theorem zN (ts:List Tk) (en:Int) (s:PSt) (m:Mem) (hn:ts.length<=100000000):FnH Tryz.prog 151 [.box 0 0] (pH ts en s) m fun r H' _=>r=tkS (fE ts s.i)/\H' =pH ts en s:=by
 refine aR aB Tryz.func151 ?_
 ·simp only[go_sem];refine bO (.hoist 0 (.hoist 1 (.hoist 2 (.hoist 3 (.hoist 4 (.hoist 5 (.hoist 6 (.hoist 7 (.hoist 8 (.hoist 9 .done)))))))))) aB (by kernel_rfl) (by kernel_rfl) ?_;simp only[go_sem];refine⟨fun h=> ?_,fun h=> ?_⟩
  ·have hi:s.i<ts.length:=by omega
   have hc:=I2 hi;refine bO (.hoist 0 (.hoist 1 (.hoist 2 (.hoist 3 (.hoist 4 (.hoist 5 (.hoist 6 (.hoist 7 (.hoist 8 (.hoist 9 (.alt 10 [] .done .stop))))))))))) aB (by kernel_rfl) (by kernel_rfl) ?_;simp only[go_sem,hc];exact⟨⟨by omega,h⟩,by have:(cw ts).length=ts.length * 4:=CA ts;omega⟩
  ·have:fE ts s.i=zT:=by rw[fE,List.getD_eq_getElem?_getD,List.getElem?_eq_none (by omega)];rfl
   rw[this];rfl
def bC (ts:List Tk) (i:Nat) (w:List UInt8):Bool:=(decide ((fE ts i).k=2)||decide ((fE ts i).k=6))&&decide ((fE ts i).s=w)
theorem Fe (ts:List Tk) (en:Int) (s:PSt) (w:List UInt8) (m:Mem) (hn:ts.length<=100000000):FnH Tryz.prog 74 [.box 0 0,.v (.string (bs w))] (pH ts en s) m fun r H' m' =>ae m m' /\r= .v (.bool (bC ts s.i w))/\H' =pH ts en s:=by
 have hp:=zN ts en s m hn;refine aR aB Tryz.func74 ?_
 ·simp only[go_sem];refine ab (hp.mono ?_);clear hp;rintro r H' m1 aN ⟨rfl,rfl⟩;simp only[go_sem];exact⟨.inr aN,rfl⟩
def kF (ts:List Tk) (en:Int) (s:PSt):PSt:=if s.fl=true then s else⟨ts.length,true,if s.i<ts.length then(fE ts s.i).at_ else en⟩
theorem afN {ts:List Tk} {i:Nat} (h:i<ts.length):(cw ts).getD (i * 4+3) undef= .int .i64 (fE ts i).at_:=by
 have:=congrArg (fun l=>l[3]?) (I2 h);simp only[List.getElem?_take,List.getElem?_drop] at this;rw[ah (by decide)] at this;rw[List.getD_eq_getElem?_getD,this];rfl
theorem BN (ts:List Tk) (en:Int) (s:PSt) (m:Mem) (hn:ts.length<=100000000):FnH Tryz.prog 32 [.box 0 0] (pH ts en s) m fun r H' m' =>r= .tup []/\m' =m/\H' =pH ts en (kF ts en s):=by
 refine aR aB Tryz.func32 ?_
 ·simp only[go_sem];refine⟨fun h=>by rw[kF,ah h],fun h=> ?_⟩;have h' :¬s.fl=true:=by rw[h];decide
  refine bO (.hoist 0 (.hoist 1 (.hoist 2 (.hoist 3 (.hoist 4 (.hoist 5 (.hoist 6 (.hoist 7 (.hoist 8 (.hoist 9 .done)))))))))) aB (by kernel_rfl) (by kernel_rfl) ?_;simp only[go_sem];refine⟨fun hi=> ?_,fun hi=> ?_⟩
  ·have qg:s.i<ts.length:=by omega
   have hc:=afN qg;refine bO (.hoist 0 (.hoist 1 (.hoist 2 (.hoist 3 (.hoist 4 (.hoist 5 (.hoist 6 (.hoist 7 (.hoist 8 (.hoist 9 (.hoist 10 (.hoist 11 (.hoist 12 (.hoist 13 (.alt 14 [] .done .stop))))))))))))))) aB (by kernel_rfl) (by kernel_rfl) ?_;simp only[go_sem,hc];have hl:=CA ts;rw[kF,af h',ah qg];exact⟨⟨by omega,hi⟩,by omega,by omega,rfl⟩
  ·have qg:¬s.i<ts.length:=by omega
   rw[kF,af h',af qg]
def PSt.next (s:PSt):PSt:=⟨s.i+1,s.fl,s.off⟩
theorem bF {ts:List Tk} {i:Nat} {w:List UInt8} (h:bC ts i w=true):i<ts.length:=by
 by_cases hi:i<ts.length
 ·exact hi
 ·have e:fE ts i=zT:=by rw[fE,List.getD_eq_getElem?_getD,List.getElem?_eq_none (by omega)];rfl
  rw[bC,e] at h;simp [zT] at h
theorem uD (ts:List Tk) (en:Int) (s:PSt) (w:List UInt8) (m:Mem) (hn:ts.length<=100000000):FnH Tryz.prog 49 [.box 0 0,.v (.string (bs w))] (pH ts en s) m fun r H' m' =>ae m m' /\r= .v (.bool (bC ts s.i w))/\H' =pH ts en (if bC ts s.i w=true then s.next else s):=by
 have hp:=Fe ts en s w m hn;have aw:=bF (ts:=ts) (i:=s.i) (w:=w);refine aR aB Tryz.func49 ?_
 ·simp only[go_sem];refine ab (hp.mono ?_);clear hp;rintro r H' m1 aN ⟨l1,rfl,rfl⟩;simp only[go_sem];refine⟨fun h=>⟨l1,?_⟩,fun h=> ?_⟩
  ·rw[h];exact⟨rfl,rfl⟩
  ·have hi:=aw h;rw[h];exact⟨by unfold aF;omega,l1,rfl,rfl⟩
theorem Xu (ts:List Tk) (en:Int) (s:PSt) (w:List UInt8) (m:Mem) (hn:ts.length<=100000000):FnH Tryz.prog 52 [.box 0 0,.v (.string (bs w))] (pH ts en s) m fun r H' m' =>ae m m' /\r= .tup []/\H' =pH ts en (if bC ts s.i w=true then s.next else kF ts en s):=by
 have hp:=uD ts en s w m hn;have hf:=fun m' =>BN ts en s m' hn
 refine aR aB Tryz.func52 ?_
 ·simp only[go_sem];refine ab (hp.mono ?_);clear hp;rintro r H' m1 aN ⟨l1,rfl,rfl⟩;cases h:bC ts s.i w with
  |true=>
   clear hf;simp only[go_sem];exact l1
  |false=>
   simp only[go_sem];refine ab ((hf m1).mono ?_);clear hf;rintro r H' m2 aH ⟨rfl,rfl,rfl⟩;simp only[go_sem];exact l1
theorem NL:∀(l:List St),be l=(l.map cT).flatten
 |[]=>by simp [be]
 |s::r=>by simp [be,NL r]
theorem rv:∀{sup:Bool} {l:List St},b9 sup l=true->∀e∈l,fv e=true
 |_,[],_,e,he=>by cases he
 |sup,x::r,h,e,he=>by
  simp only[b9,aG] at h;rcases List.mem_cons.1 he with rfl |he
  ·exact h.1.2
  ·exact rv h.2 e he
theorem BB {k:Int} {nm:List UInt8} {ty:Ty} {tg ex:Ex} {B:Bool} (h:iB k nm ty tg ex B=true):k=1\/k=2\/k=3\/k=4\/k=5\/k=6\/k=7\/k=8\/k=9\/k=10\/k=11:=by
 by_cases hk:k=1\/k=2\/k=3\/k=4\/k=5\/k=6\/k=7\/k=8\/k=9\/k=10\/k=11
 ·exact hk
 ·simp only[not_or] at hk;simp only[iB,hk,or_self,if_false] at h;cases h
theorem uI {d b:Int} {nm:List UInt8} (h:dD d b nm=true):d<=8:=by
 simp only[dD,aG] at h;have:=h.1.1;unfold pA at this;split at this
 ·cases this
 ·omega
theorem zz {e:Ex} (h:nj e=true):bD e=true:=by
 simp only[nj,aG] at h;exact h.2
theorem zK {e:Ex} (h:nC e=true):bD e=true:=by
 simp only[nC,aG] at h;exact h.2
theorem Rh {e:Ex} (h:bD e=true):e.k≠0:=by
 cases e with
 |mk k n s c ty args=>
  simp only[bD,aG] at h;obtain⟨hk,_,_⟩:=zO h.1;intro h0;simp only[Ex.k] at h0;subst h0;cases hk
theorem JV {e:Ex} (h:jn e=true):e.k=0:=by
 cases e with
 |mk k n s c ty args=>
  simp only[jn,jm,aG,bu] at h;exact h.1.1.1.1.2
theorem EE {e:Ex} (h:np e=true):gl e.args=true:=by
 cases e with
 |mk k n s c ty args=>
  simp only[np,aG] at h;exact h.2
theorem Yv {m:Mem} {e:Ex} {x:Nd} (h:bw m e x.cs):x.k=e.k/\x.l=e.args.length/\x.l<=x.cp/\x.l<=aq/\∃xs,aX m x.a x.l 8 xs/\dz m e.args xs:=by
 cases e with
 |mk k n s c ty args=>
  obtain⟨y,hy,h1,h2,h3,h4,h5,h6,h7,h8,h9⟩:=rD h;rw[Ar hy];exact⟨h1,h6,h7,h8,h9⟩
def alQ (l:List Cd):Prop:=∀d∈l,cY d.init<=aq/\∀e∈d.methods,cY e.body<=aq
end Go.Proofs.YtimddhkipjedcaaGreatDoor.E
namespace Go.Proofs.YtimddhkipjedcaaGreatDoor.E
open Go Go.ChangeShapes Go.WideShapes Go.ChangeAt Go.RowKit
def kD (d:Md):Nat:=1+d.params.length+cY d.body
def ea (d:Cd):Nat:=1+d.fields.length+d.ifs.length+cY d.init+(d.methods.map kD).sum
section
variable {H:Type} {enc:TypeId×Value->H} {W:World}
set_option maxRecDepth 100000 in
theorem acQ {fuel:Nat} {cs:List Value} {d:DataW H} {p:List MemPlace} (h:DataW.trod enc Tryz.prog W 0 (fun _=>true) true fuel 160 cs=some (d,p)) (hb:Rows.uptoBulk d<=1048576):∃f:Pc,cs=f.cs/\PcOk f:=by
 obtain⟨ys,n',_,hy,hlen,hyl,hf⟩:=DataW.trod_struct Tryz.underlying160 h;rw[show Tryz.prog.cellsOf 160=4 by kernel_rfl] at hlen;match cs,hlen with
 |[c0,c1,c2,c3],_=>
 match ys,hyl with
 |[y0,y1],_=>
  have f0:DataW.trod enc Tryz.prog W 0 (fun _=>true) true n' 30 [c0,c1,c2]=some y0:=by have this:DataW.trod enc Tryz.prog W 0 (fun _=>true) true n' 30 (([c0,c1,c2,c3].drop 0).take (Tryz.prog.cellsOf 30))=some y0:=hf 0 _ rfl;rw[show Tryz.prog.cellsOf 30=3 by kernel_rfl] at this;exact this
  have f1:DataW.trod enc Tryz.prog W 0 (fun _=>true) true n' 9 [c3]=some y1:=by have this:DataW.trod enc Tryz.prog W 0 (fun _=>true) true n' 9 (([c0,c1,c2,c3].drop 3).take (Tryz.prog.cellsOf 9))=some y1:=hf 1 _ rfl;rw[show Tryz.prog.cellsOf 9=1 by kernel_rfl] at this;exact this
  have hD:d= .agg [y0.1,y1.1]:=(Prod.mk.inj hy).1;have nf:Rows.uptoBulk d=Rows.uptoBulk y0.1+(Rows.uptoBulk y1.1+0)+1:=by rw[hD];rfl
  obtain⟨ty0,e0,t0a,t0b,t0c⟩:=Ck (d:=y0.1) (p:=y0.2) f0;simp only[yL,List.cons.injEq,and_true] at e0;obtain⟨rfl,rfl,rfl⟩:=e0;obtain⟨s1,e1,x1,_⟩:=DataW.trod_string Tryz.underlying9 f1;cases e1;have b1:Rows.uptoBulk y1.1=s1.data.toList.length+1:=by rw[x1];rfl
  have l1:(tl s1).length=s1.data.toList.length:=rfl;exact⟨⟨ty0,tl s1⟩,by simp only[Pc.cs,kG],⟨⟨t0a,t0b,by simp only[aq];omega⟩,by simp only[aq];omega⟩⟩
set_option maxRecDepth 100000 in
theorem acS {fuel:Nat} {cs:List Value} {d:DataW H} {p:List MemPlace} (h:DataW.trod enc Tryz.prog W 0 (fun _=>true) true fuel 94 cs=some (d,p)) (hb:Rows.uptoBulk d<=1048576):∃f:Fc,cs=f.cs/\FcOk f:=by
 obtain⟨ys,n',_,hy,hlen,hyl,hf⟩:=DataW.trod_struct Tryz.underlying94 h;rw[show Tryz.prog.cellsOf 94=5 by kernel_rfl] at hlen;match cs,hlen with
 |[c0,c1,c2,c3,c4],_=>
 match ys,hyl with
 |[y0,y1,y2],_=>
  have f0:DataW.trod enc Tryz.prog W 0 (fun _=>true) true n' 3 [c0]=some y0:=by have this:DataW.trod enc Tryz.prog W 0 (fun _=>true) true n' 3 (([c0,c1,c2,c3,c4].drop 0).take (Tryz.prog.cellsOf 3))=some y0:=hf 0 _ rfl;rw[show Tryz.prog.cellsOf 3=1 by kernel_rfl] at this;exact this
  have f1:DataW.trod enc Tryz.prog W 0 (fun _=>true) true n' 30 [c1,c2,c3]=some y1:=by have this:DataW.trod enc Tryz.prog W 0 (fun _=>true) true n' 30 (([c0,c1,c2,c3,c4].drop 1).take (Tryz.prog.cellsOf 30))=some y1:=hf 1 _ rfl;rw[show Tryz.prog.cellsOf 30=3 by kernel_rfl] at this;exact this
  have f2:DataW.trod enc Tryz.prog W 0 (fun _=>true) true n' 9 [c4]=some y2:=by have this:DataW.trod enc Tryz.prog W 0 (fun _=>true) true n' 9 (([c0,c1,c2,c3,c4].drop 4).take (Tryz.prog.cellsOf 9))=some y2:=hf 2 _ rfl;rw[show Tryz.prog.cellsOf 9=1 by kernel_rfl] at this;exact this
  have hD:d= .agg [y0.1,y1.1,y2.1]:=(Prod.mk.inj hy).1;have nf:Rows.uptoBulk d=Rows.uptoBulk y0.1+(Rows.uptoBulk y1.1+(Rows.uptoBulk y2.1+0))+1:=by rw[hD];rfl
  obtain⟨z0,e0,_,w0⟩:=DataW.trod_int Tryz.underlying3 f0;cases e0;obtain⟨DE,e1,t1a,t1b,t1c⟩:=Ck (d:=y1.1) (p:=y1.2) f1;simp only[yL,List.cons.injEq,and_true] at e1;obtain⟨rfl,rfl,rfl⟩:=e1;obtain⟨s2,e2,x2,_⟩:=DataW.trod_string Tryz.underlying9 f2;cases e2;have b2:Rows.uptoBulk y2.1=s2.data.toList.length+1:=by rw[x2];rfl
  have l2:(tl s2).length=s2.data.toList.length:=rfl;exact⟨⟨z0,DE,tl s2⟩,by simp only[Fc.cs,kG],⟨yf w0,⟨t1a,t1b,by simp only[aq];omega⟩,by simp only[aq];omega⟩⟩
set_option maxHeartbeats 2000000 in
set_option maxRecDepth 100000 in
theorem acR {fuel:Nat} {cs:List Value} {d:DataW H} {p:List MemPlace} (h:DataW.trod enc Tryz.prog W 0 (fun _=>true) true fuel 98 cs=some (d,p)) (hb:Rows.uptoBulk d<=1048576):∃f:Md,gJ ⟨W,fR W⟩ f cs/\kD f<=Rows.uptoBulk d:=by
 obtain⟨ys,n',_,hy,hlen,hyl,hf⟩:=DataW.trod_struct Tryz.underlying98 h;rw[show Tryz.prog.cellsOf 98=8 by kernel_rfl] at hlen;match cs,hlen with
 |[c0,c1,c2,c3,c4,c5,c6,c7],_=>
 match ys,hyl with
 |[y0,y1,y2,y3,y4,y5],_=>
  have f0:DataW.trod enc Tryz.prog W 0 (fun _=>true) true n' 3 [c0]=some y0:=by have this:DataW.trod enc Tryz.prog W 0 (fun _=>true) true n' 3 (([c0,c1,c2,c3,c4,c5,c6,c7].drop 0).take (Tryz.prog.cellsOf 3))=some y0:=hf 0 _ rfl;rw[show Tryz.prog.cellsOf 3=1 by kernel_rfl] at this;exact this
  have f1:DataW.trod enc Tryz.prog W 0 (fun _=>true) true n' 30 [c1,c2,c3]=some y1:=by have this:DataW.trod enc Tryz.prog W 0 (fun _=>true) true n' 30 (([c0,c1,c2,c3,c4,c5,c6,c7].drop 1).take (Tryz.prog.cellsOf 30))=some y1:=hf 1 _ rfl;rw[show Tryz.prog.cellsOf 30=3 by kernel_rfl] at this;exact this
  have f2:DataW.trod enc Tryz.prog W 0 (fun _=>true) true n' 9 [c4]=some y2:=by have this:DataW.trod enc Tryz.prog W 0 (fun _=>true) true n' 9 (([c0,c1,c2,c3,c4,c5,c6,c7].drop 4).take (Tryz.prog.cellsOf 9))=some y2:=hf 2 _ rfl;rw[show Tryz.prog.cellsOf 9=1 by kernel_rfl] at this;exact this
  have f3:DataW.trod enc Tryz.prog W 0 (fun _=>true) true n' 96 [c5]=some y3:=by have this:DataW.trod enc Tryz.prog W 0 (fun _=>true) true n' 96 (([c0,c1,c2,c3,c4,c5,c6,c7].drop 5).take (Tryz.prog.cellsOf 96))=some y3:=hf 3 _ rfl;rw[show Tryz.prog.cellsOf 96=1 by kernel_rfl] at this;exact this
  have f4:DataW.trod enc Tryz.prog W 0 (fun _=>true) true n' 4 [c6]=some y4:=by have this:DataW.trod enc Tryz.prog W 0 (fun _=>true) true n' 4 (([c0,c1,c2,c3,c4,c5,c6,c7].drop 6).take (Tryz.prog.cellsOf 4))=some y4:=hf 4 _ rfl;rw[show Tryz.prog.cellsOf 4=1 by kernel_rfl] at this;exact this
  have f5:DataW.trod enc Tryz.prog W 0 (fun _=>true) true n' 36 [c7]=some y5:=by have this:DataW.trod enc Tryz.prog W 0 (fun _=>true) true n' 36 (([c0,c1,c2,c3,c4,c5,c6,c7].drop 7).take (Tryz.prog.cellsOf 36))=some y5:=hf 5 _ rfl;rw[show Tryz.prog.cellsOf 36=1 by kernel_rfl] at this;exact this
  have hD:d= .agg [y0.1,y1.1,y2.1,y3.1,y4.1,y5.1]:=(Prod.mk.inj hy).1;have nf:Rows.uptoBulk d=Rows.uptoBulk y0.1+(Rows.uptoBulk y1.1+(Rows.uptoBulk y2.1+(Rows.uptoBulk y3.1+(Rows.uptoBulk y4.1+(Rows.uptoBulk y5.1+0)))))+1:=by rw[hD];rfl
  obtain⟨z0,e0,_,w0⟩:=DataW.trod_int Tryz.underlying3 f0;cases e0;obtain⟨DE,e1,t1a,t1b,t1c⟩:=Ck (d:=y1.1) (p:=y1.2) f1;simp only[yL,List.cons.injEq,and_true] at e1;obtain⟨rfl,rfl,rfl⟩:=e1;obtain⟨s2,e2,x2,_⟩:=DataW.trod_string Tryz.underlying9 f2;cases e2;have b2:Rows.uptoBulk y2.1=s2.data.toList.length+1:=by rw[x2];rfl
  have l2:(tl s2).length=s2.data.toList.length:=rfl;obtain⟨z4,e4,_⟩:=DataW.trod_bool Tryz.underlying4 f4;cases e4;obtain⟨ps,a3,n3,k3,tZ,e3,g3a,g3b,g3c,g3d,g3e,g3f⟩:=uJ (Tryz.underlying96) (show Tryz.prog.cellsOf 160=4 by kernel_rfl) (by decide) (fun(f:Pc) cs=>cs=f.cs/\PcOk f) (fun _=>0) (d:=y3.1) (p:=y3.2) f3 fun n ck D Pl ht aw=>by
   obtain⟨f,h1,h2⟩:=acQ ht (by omega);exact⟨f,⟨h1,h2⟩,aD _⟩
  obtain⟨body,a5,n5,k5,xs5,e5,g5a,g5b,g5c,g5d,g5e,g5f⟩:=uJ (Tryz.underlying36) (show Tryz.prog.cellsOf 73=23 by kernel_rfl) (by decide) (eX ⟨W,fR W⟩) fS (d:=y5.1) (p:=y5.2) f5 fun n ck D Pl ht aw=>RQ (Rows.uptoBulk D) n ck D Pl ht (av _) (by omega)
  subst e3 e5;rw[EF] at g5e;have Mh:tZ=flat Pc.cs ps:=FL (f:=Pc.cs) (sz:=4) (fun _=>rfl) ps tZ (by rw[g3c.1,g3a]) fun i hi=>(g3d i hi).1
  refine⟨⟨z0,DE,tl s2,ps,z4,body⟩,⟨⟨z0,DE,tl s2,a3,n3,k3,z4,a5,n5,k5⟩,⟨by simp only[Mc.cs,kG],rfl,rfl,rfl,rfl⟩,⟨g3a,g3b,g5a,g5b⟩,⟨yf w0,⟨t1a,t1b,by simp only[aq];omega⟩,by simp only[aq];omega,by simp only[aq];omega,fun q hq=> ?_,by simp only[aq];omega⟩,by rw[<- Mh];exact g3c,xs5,g5c,BH body xs5 g5d⟩,by simp only[kD];omega⟩;obtain⟨i,hi,rfl⟩:=List.getElem_of_mem hq;exact(g3d i hi).2
set_option maxHeartbeats 2000000 in
set_option maxRecDepth 100000 in
theorem acT {fuel:Nat} {cs:List Value} {d:DataW H} {p:List MemPlace} (h:DataW.trod enc Tryz.prog W 0 (fun _=>true) true fuel 59 cs=some (d,p)) (hb:Rows.uptoBulk d<=1048576):∃f:Cd,(jL ⟨W,fR W⟩ f cs/\cY f.init<=aq/\∀e∈f.methods,cY e.body<=aq)/\ea f<=Rows.uptoBulk d:=by
 obtain⟨ys,n',_,hy,hlen,hyl,hf⟩:=DataW.trod_struct Tryz.underlying59 h;rw[show Tryz.prog.cellsOf 59=7 by kernel_rfl] at hlen;match cs,hlen with
 |[c0,c1,c2,c3,c4,c5,c6],_=>
 match ys,hyl with
 |[y0,y1,y2,y3,y4,y5,y6],_=>
  have f0:DataW.trod enc Tryz.prog W 0 (fun _=>true) true n' 3 [c0]=some y0:=by have this:DataW.trod enc Tryz.prog W 0 (fun _=>true) true n' 3 (([c0,c1,c2,c3,c4,c5,c6].drop 0).take (Tryz.prog.cellsOf 3))=some y0:=hf 0 _ rfl;rw[show Tryz.prog.cellsOf 3=1 by kernel_rfl] at this;exact this
  have f1:DataW.trod enc Tryz.prog W 0 (fun _=>true) true n' 9 [c1]=some y1:=by have this:DataW.trod enc Tryz.prog W 0 (fun _=>true) true n' 9 (([c0,c1,c2,c3,c4,c5,c6].drop 1).take (Tryz.prog.cellsOf 9))=some y1:=hf 1 _ rfl;rw[show Tryz.prog.cellsOf 9=1 by kernel_rfl] at this;exact this
  have f2:DataW.trod enc Tryz.prog W 0 (fun _=>true) true n' 9 [c2]=some y2:=by have this:DataW.trod enc Tryz.prog W 0 (fun _=>true) true n' 9 (([c0,c1,c2,c3,c4,c5,c6].drop 2).take (Tryz.prog.cellsOf 9))=some y2:=hf 2 _ rfl;rw[show Tryz.prog.cellsOf 9=1 by kernel_rfl] at this;exact this
  have f3:DataW.trod enc Tryz.prog W 0 (fun _=>true) true n' 55 [c3]=some y3:=by have this:DataW.trod enc Tryz.prog W 0 (fun _=>true) true n' 55 (([c0,c1,c2,c3,c4,c5,c6].drop 3).take (Tryz.prog.cellsOf 55))=some y3:=hf 3 _ rfl;rw[show Tryz.prog.cellsOf 55=1 by kernel_rfl] at this;exact this
  have f4:DataW.trod enc Tryz.prog W 0 (fun _=>true) true n' 56 [c4]=some y4:=by have this:DataW.trod enc Tryz.prog W 0 (fun _=>true) true n' 56 (([c0,c1,c2,c3,c4,c5,c6].drop 4).take (Tryz.prog.cellsOf 56))=some y4:=hf 4 _ rfl;rw[show Tryz.prog.cellsOf 56=1 by kernel_rfl] at this;exact this
  have f5:DataW.trod enc Tryz.prog W 0 (fun _=>true) true n' 57 [c5]=some y5:=by have this:DataW.trod enc Tryz.prog W 0 (fun _=>true) true n' 57 (([c0,c1,c2,c3,c4,c5,c6].drop 5).take (Tryz.prog.cellsOf 57))=some y5:=hf 5 _ rfl;rw[show Tryz.prog.cellsOf 57=1 by kernel_rfl] at this;exact this
  have f6:DataW.trod enc Tryz.prog W 0 (fun _=>true) true n' 36 [c6]=some y6:=by have this:DataW.trod enc Tryz.prog W 0 (fun _=>true) true n' 36 (([c0,c1,c2,c3,c4,c5,c6].drop 6).take (Tryz.prog.cellsOf 36))=some y6:=hf 6 _ rfl;rw[show Tryz.prog.cellsOf 36=1 by kernel_rfl] at this;exact this
  have hD:d= .agg [y0.1,y1.1,y2.1,y3.1,y4.1,y5.1,y6.1]:=(Prod.mk.inj hy).1;have nf:Rows.uptoBulk d=Rows.uptoBulk y0.1+(Rows.uptoBulk y1.1+(Rows.uptoBulk y2.1+(Rows.uptoBulk y3.1+(Rows.uptoBulk y4.1+(Rows.uptoBulk y5.1+(Rows.uptoBulk y6.1+0))))))+1:=by rw[hD];rfl
  obtain⟨z0,e0,_,w0⟩:=DataW.trod_int Tryz.underlying3 f0;cases e0;obtain⟨s1,e1,x1,_⟩:=DataW.trod_string Tryz.underlying9 f1;cases e1;have b1:Rows.uptoBulk y1.1=s1.data.toList.length+1:=by rw[x1];rfl
  have l1:(tl s1).length=s1.data.toList.length:=rfl;obtain⟨s2,e2,x2,_⟩:=DataW.trod_string Tryz.underlying9 f2;cases e2;have b2:Rows.uptoBulk y2.1=s2.data.toList.length+1:=by rw[x2];rfl
  have l2:(tl s2).length=s2.data.toList.length:=rfl;obtain⟨ifs,a3,n3,k3,tZ,e3,g3a,g3b,g3c,g3d,g3e,g3f⟩:=uJ (Tryz.underlying55) (show Tryz.prog.cellsOf 9=1 by kernel_rfl) (by decide) (fun(s:List UInt8) cs=>cs=[.string (bs s)]/\s.length<=aq) (fun _=>0) (d:=y3.1) (p:=y3.2) f3 fun n ck D Pl ht aw=>by
   obtain⟨s,h1,h2,_⟩:=DataW.trod_string Tryz.underlying9 ht;have h3:Rows.uptoBulk D=s.data.toList.length+1:=by rw[(Prod.mk.inj h2).1];rfl
   have h4:(tl s).length=s.data.toList.length:=rfl;exact⟨tl s,⟨by rw[h1,kG],by simp only[aq];omega⟩,aD _⟩
  obtain⟨fds,a4,n4,k4,Va,e4,g4a,g4b,g4c,g4d,g4e,g4f⟩:=uJ (Tryz.underlying56) (show Tryz.prog.cellsOf 94=5 by kernel_rfl) (by decide) (fun(f:Fc) cs=>cs=f.cs/\FcOk f) (fun _=>0) (d:=y4.1) (p:=y4.2) f4 fun n ck D Pl ht aw=>by
   obtain⟨f,h1,h2⟩:=acS ht (by omega);exact⟨f,⟨h1,h2⟩,aD _⟩
  obtain⟨Vk,a5,n5,k5,xs5,e5,g5a,g5b,g5c,g5d,g5e,g5f⟩:=uJ (Tryz.underlying57) (show Tryz.prog.cellsOf 98=8 by kernel_rfl) (by decide) (fun(f:Md) cs=>gJ ⟨W,fR W⟩ f cs/\cY f.body<=aq) kD (d:=y5.1) (p:=y5.2) f5 fun n ck D Pl ht aw=>by
   obtain⟨f,h1,h2⟩:=acR ht (by omega);have h3:cY f.body<=kD f:=by simp only[kD];omega
   exact⟨f,⟨h1,by simp only[aq];omega⟩,h2⟩
  obtain⟨init,a6,n6,k6,xs6,e6,g6a,g6b,g6c,g6d,g6e,g6f⟩:=uJ (Tryz.underlying36) (show Tryz.prog.cellsOf 73=23 by kernel_rfl) (by decide) (eX ⟨W,fR W⟩) fS (d:=y6.1) (p:=y6.2) f6 fun n ck D Pl ht aw=>RQ (Rows.uptoBulk D) n ck D Pl ht (av _) (by omega)
  subst e3 e4 e5 e6;rw[EF] at g6e;have Mh:tZ=strs ifs:=by
   have h1:tZ=flat (fun s=>[.string (bs s)]) ifs:=FL (f:=fun s=>[.string (bs s)]) (sz:=1) (fun _=>rfl) ifs tZ (by rw[g3c.1,g3a]) fun i hi=>(g3d i hi).1
   rw[h1,Pe]
  have yT:Va=flat Fc.cs fds:=FL (f:=Fc.cs) (sz:=5) (fun _=>rfl) fds Va (by rw[g4c.1,g4a]) fun i hi=>(g4d i hi).1
  refine⟨⟨z0,tl s1,tl s2,ifs,fds,Vk,init⟩,⟨⟨⟨z0,tl s1,tl s2,a3,n3,k3,a4,n4,k4,a5,n5,k5,a6,n6,k6⟩,⟨by simp only[Cc.cs,kG],rfl,rfl,rfl⟩,⟨g3a,g3b,g4a,g4b,g5a,g5b,g6a,g6b⟩,?_,by rw[<- Mh];exact g3c,by rw[<- yT];exact g4c,xs5,xs6,g5c,Jl Vk xs5 fun i hi=>(g5d i hi).1,g6c,BH init xs6 g6d⟩,by simp only[aq];omega,fun e he=> ?_⟩,by simp only[ea];omega⟩
  ·refine⟨yf w0,by simp only[aq];omega,by simp only[aq];omega,by simp only[aq];omega,fun q hq=> ?_,by simp only[aq];omega,fun q hq=> ?_,by simp only[aq];omega,by simp only[aq];omega⟩
   ·obtain⟨i,hi,rfl⟩:=List.getElem_of_mem hq;exact(g3d i hi).2
   ·obtain⟨i,hi,rfl⟩:=List.getElem_of_mem hq;exact(g4d i hi).2
  ·obtain⟨i,hi,rfl⟩:=List.getElem_of_mem he;exact(g5d i hi).2
set_option maxRecDepth 100000 in
theorem Zg {v:Value} {d:DataW H} {p:List MemPlace} {r:Reach} {b0:Nat} (vt:Value.okWide Tryz.prog W r b0 23 v) (h:DataW.Trod enc Tryz.prog W 0 (fun _=>true) true 23 v d p) (hb:Rows.uptoBulk d<=1048576):
  ∃(l:List Cd) (a:Option Addr) (n c:Nat),v= .slice a n c/\oT ⟨W,fR W⟩ l a n c/\alQ l/\(l.map ea).sum<=1048576:=by
 obtain⟨va,vl,vc,di⟩:=okWide_slice Tryz.underlying23 vt;have hcv:v.cells.toList=[v]:=by rw[di];rfl
 obtain⟨fuel,h⟩:=h;rw[hcv] at h;obtain⟨l,a,n,c,xs,e,ga,gb,gc,gd,ge,gf⟩:=uJ (Tryz.underlying23) (show Tryz.prog.cellsOf 59=7 by kernel_rfl) (by decide) (fun(f:Cd) cs=>jL ⟨W,fR W⟩ f cs/\cY f.init<=aq/\∀e∈f.methods,cY e.body<=aq) ea h fun n ck D Pl ht aw=>by
  obtain⟨f,h1,h2⟩:=acT ht (by omega);exact⟨f,h1,h2⟩
 refine⟨l,a,n,c,e,⟨ga,gb,by simp only[aq];omega,xs,gc,Jl l xs fun i hi=>(gd i hi).1⟩,fun q hq=> ?_,by omega⟩;obtain⟨i,hi,rfl⟩:=List.getElem_of_mem hq;exact(gd i hi).2
end
end Go.Proofs.YtimddhkipjedcaaGreatDoor.E

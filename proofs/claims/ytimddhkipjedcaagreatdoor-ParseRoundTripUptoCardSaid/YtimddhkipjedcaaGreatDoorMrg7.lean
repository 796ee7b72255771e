/- Several texts in one. -/
import Derived.Test.YtimddhkipjedcaaGreatDoorMrg6
set_option linter.unusedSimpArgs false
set_option linter.unusedVariables false
set_option maxHeartbeats 4000000
set_option maxRecDepth 20000
namespace Go.Proofs.YtimddhkipjedcaaGreatDoor.E
open Go Go.RowKit
theorem QE (s:List UInt8):∀(f p:Nat) (acc:List Tk),acc.length<=5000->(r0 s f p acc).1.length<=5000
 |0,p,acc,h=>h
 |f+1,p,acc,h=>by
  simp only[r0];split
  ·exact h
  ·split
   ·exact aD _
   ·split
    ·exact aD _
    ·exact QE s f _ _ (by rw[aI,iq];omega)
theorem Aa (s:List UInt8):(bk s).1.length<=5000:=by
 unfold bk;split
 ·exact aD _
 ·exact QE s _ _ _ (aD _)
theorem Jn (s:List UInt8):∀(f mr pos:Nat),∀t∈(oh f mr pos (s.drop pos)).1,∃q:Nat,t.at_=q/\pos<=q/\q<s.length/\∃len,ig (s.drop q)=some (t.k,t.s,t.n,len)
 |0,_,_,t,h=>by cases h
 |f+1,mr,pos,t,h=>by
  simp only[oh] at h;split at h
  ·cases h
  ·rename_i db;split at h
   ·cases h
   ·split at h
    ·cases h
    ·rename_i k tt n len ht;have hl:=PJ ht;rw[List.drop_drop] at ht;rw[dG,dG] at hl;unfold tI at h;split at h
     ·rcases List.mem_cons.1 h with rfl |h
      ·exact⟨pos+eJ false (s.drop pos),rfl,by omega,by omega,len,ht⟩
      ·rw[List.drop_drop,<- Nat.add_assoc] at h;obtain⟨q,e1,e2,e3,e4⟩:=Jn s f _ _ t h;exact⟨q,e1,by omega,e3,e4⟩
     ·cases h
def grow:Int->List Tk->Prop
 |_,[]=>True
 |b,t::r=>b<=t.at_/\grow (t.at_+1) r
theorem aeZ {l:List UInt8} (db:l.take (dP l)≠[]) (h:(gV l).2.2.2=true):∃v:Nat,(gV l).2.1=v/\v<=9223372036854775807/\((gV l).1=false->v<=2147483647):=by
 have hp:=N1 db (SD l);simp only[gV,aG,bu,decide_eq_false_iff_not] at h ⊢;cases hr:pG 0 (l.take (dP l)) with
 |none=>rw[hr] at hp;rw[hp] at h;exact absurd h.1.1 Bool.false_ne_true
 |some v=>
  rw[hr] at hp;obtain⟨hp,hv⟩:=hp;rw[hp] at h ⊢;refine⟨v,rfl,hv,fun hb=> ?_⟩;have:=h.1.2;rw[af hb] at this;have this:(v:Int)<=2147483647:=this;omega
theorem Ou {l:List UInt8} {k:Int} {s:List UInt8} {n:Int} {len:Nat} (h:ig l=some (k,s,n,len)) (q:Int):fg ⟨k,s,n,q⟩≠none/\s.length<=1024/\aF n:=by
 cases l with
 |nil=>cases h
 |cons c r=>
  simp only[ig] at h;split at h
  ·split at h
   ·rename_i hn;simp only[dY,Prod.mk.injEq] at h;obtain⟨rfl,rfl,rfl,_⟩:=h;have hl:(gA (c::r)).length<=64:=by unfold fK at hn;exact of_decide_eq_true (Bool.and_eq_true_iff.1 hn).1
    refine⟨?_,by omega,by unfold aF;omega⟩;cases hk:gG.contains (gA (c::r)) with
    |true=>have hm:=List.contains_iff_mem.1 hk;simp [fg,hm]
    |false=>
     have hm:¬gA (c::r)∈gG:=fun h=>by rw[List.contains_iff_mem.2 h] at hk;cases hk
     simp [fg,hm,hn]
   ·cases h
  ·split at h
   ·rename_i hd;split at h
    ·rename_i hn;simp only[dY,Prod.mk.injEq] at h;obtain⟨rfl,rfl,rfl,_⟩:=h;have db:(c::r).take (dP (c::r))≠[]:=by
      simp only[dP];rw[ah hd,Nat.add_comm,List.take_succ_cons];exact List.cons_ne_nil _ _
     obtain⟨v,e1,e2,e3⟩:=aeZ db hn;rw[e1];refine⟨?_,aD _,by unfold aF;omega⟩;cases hB:(gV (c::r)).1 with
     |true=>simp [fg]
     |false=>have:=e3 hB;simp [fg];omega
    ·cases h
   ·split at h
    ·split at h
     ·split at h
      ·rename_i hb;simp only[dY,Prod.mk.injEq] at h;obtain⟨rfl,rfl,rfl,_⟩:=h;exact⟨by simp [fg,hb],hb,by unfold aF;omega⟩
      ·cases h
     ·cases h
    ·obtain⟨o,ho,e⟩:=Option.map_eq_some_iff.1 h;simp only[Prod.mk.injEq] at e;obtain⟨rfl,rfl,rfl,_⟩:=e;have hm:=List.mem_of_find?_eq_some ho;have h1:∀o∈ji,o.length<=3:=by decide
     have:=h1 _ hm;exact⟨by simp [fg,hm],by omega,by unfold aF;omega⟩
theorem adb:∀s∈gG,∀c∈s,c≠47:=by decide
theorem aai {l:List UInt8} {k:Int} {s:List UInt8} {n:Int} {len:Nat} (h:ig l=some (k,s,n,len)) (hk:k=6\/k=2):∃r,l=s++r:=by
 cases l with
 |nil=>cases h
 |cons c r=>
  simp only[ig] at h;split at h
  ·split at h
   ·simp only[dY,Prod.mk.injEq] at h;obtain⟨rfl,rfl,rfl,_⟩:=h;cases hkw:gG.contains (gA (c::r)) with
    |false=>rw[hkw] at hk;simp at hk
    |true=>
     have hm:=adb _ (List.contains_iff_mem.1 hkw);have he:=TD (c::r);have ht:tS ((c::r).length+1) ((c::r).drop (cH true (c::r)))=[]:=by
      simp only[tS];split
      ·rename_i hc;exfalso;refine hm 47 ?_ rfl;rw[he];simp only[tS];rw[ah hc];exact List.mem_append_right _ (b6 ..)
      ·rfl
     rw[ht,List.append_nil] at he;exact⟨(c::r).drop (cH true (c::r)),by rw[he,List.take_append_drop]⟩
   ·cases h
  ·split at h
   ·split at h
    ·simp only[dY,Prod.mk.injEq] at h;obtain⟨rfl,_⟩:=h;split at hk<;>omega
    ·cases h
   ·split at h
    ·split at h
     ·split at h
      ·simp only[dY,Prod.mk.injEq] at h;omega
      ·cases h
     ·cases h
    ·obtain⟨o,ho,e⟩:=Option.map_eq_some_iff.1 h;simp only[Prod.mk.injEq] at e;obtain⟨rfl,rfl,rfl,_⟩:=e;exact EK.1 (List.find?_some ho)
structure TkIn (s:List UInt8) (t:Tk):Prop where
 lo:0<=t.at_
 hi:t.at_<s.length
 fmt:fg t≠none
 ok:ox t
 text:t.k=6\/t.k=2->∃r,s.drop t.at_.toNat=t.s++r
theorem aoL {s:List UInt8}:∀t∈(bk s).1,TkIn s t:=by
 intro t ht;by_cases hs:s.length<=20000
 ·rw[HV hs] at ht;obtain⟨q,e,h1,h2,len,h3⟩:=Jn s (s.length+1) 0 0 t ht;obtain⟨v1,v2,v3⟩:=Ou h3 t.at_;refine⟨by omega,by omega,v1,⟨by omega,v3⟩,fun hk=> ?_⟩;rw[e,Int.toNat_natCast];exact aai h3 hk
 ·have e:bk s=([],0,8):=ah (by omega);rw[e] at ht;cases ht
theorem Yk (ts:List Tk):(∃e,e≠0/\ld ts=([],e))\/∃x,x.length<=20000/\ld ts=(x,0):=by
 unfold ld;split
 ·exact .inl ⟨5,by decide,rfl⟩
 ·split
  ·exact .inl ⟨1,by decide,rfl⟩
  ·split
   ·exact .inl ⟨8,by decide,rfl⟩
   ·exact .inr ⟨_,by omega,rfl⟩
theorem N8 {ts:List Tk}:(ld ts).1.length<=20000:=by
 rcases Yk ts with ⟨e,_,h1⟩ |⟨x,h2,h1⟩
 ·rw[h1];exact aD _
 ·rw[h1];exact h2
theorem SS (s:List UInt8):∀t∈(bk s).1,t.s.length<=1024/\aF t.n:=by
 intro t ht;by_cases hs:s.length<=20000
 ·rw[HV hs] at ht;obtain⟨q,e,h1,h2,len,h3⟩:=Jn s (s.length+1) 0 0 t ht;exact(Ou h3 t.at_).2
 ·have e:bk s=([],0,8):=ah (by omega);rw[e] at ht;cases ht
theorem ace {P:Program} {f:FuncId} {args:List SV} {m:Mem} {R R' :SV->Hp->Mem->Prop} (h:FnH P f args ⟨[],[]⟩ m R)
  (hR:∀r H' m',m.le m' ->R r H' m' ->R' r H' m' \/∃(g:SV->SV) (k u:Nat) (el:TypeId) (sz n:Nat) (xs:List Value),H' =⟨[],[⟨k,u,el,sz,n,xs⟩]⟩/\r=g (.vec k u)/\
   (∀V V2:Vl,V.γ k u=V2.γ 0 0->den V (g (.vec k u))=den V2 (g (.vec 0 0)))/\R' (g (.vec 0 0)) ⟨[],[⟨0,0,el,sz,n,xs⟩]⟩ m'):FnH P f args ⟨[],[]⟩ m R' :=by
 intro V w D kP hle hH;refine(h V w D kP hle hH).mono ?_;rintro e w' ⟨r,V',D',H',m',e1,e2,e3,e4,e5,e6,e7,e8,e9,jg,mq⟩;rcases hR r H' m' e9 mq with hr |⟨g,k,u,el,sz,n,xs,rfl,rfl,hg,hr⟩
 ·exact⟨r,V',D',H',m',e1,e2,e3,e4,e5,e6,e7,e8,e9,jg,hr⟩
 ·let V2:Vl:=⟨V'.β,fun a b=>if a=0 then V'.γ k u else V'.γ a b⟩
  have hV:V'.γ k u=V2.γ 0 0:=rfl;have hb:br V2 ⟨[],[⟨0,0,el,sz,n,xs⟩]⟩=br V' ⟨[],[⟨k,u,el,sz,n,xs⟩]⟩:=rfl;refine⟨g (.vec 0 0),V2,D',⟨[],[⟨0,0,el,sz,n,xs⟩]⟩,m',by rw[e1,hg V' V2 hV],e2,⟨fun b hb=>(by cases hb),fun b hb=> ?_,by rw[hb];exact e3.apart,by simp⟩,fun b hb=>(by cases hb),fun b hb=>(by cases hb),e6,by rw[hb];exact e7,e8,e9,jg,hr⟩;rw[List.mem_singleton.1 hb];exact e3.vc _ (List.mem_singleton.2 rfl)
theorem ai1 {f:FuncId} {s:List UInt8} {m:Mem} {x:List Tk×Int×Int} (h:FnH Tryz.prog f [.v (.string (bs s))] ⟨[],[]⟩ m fun r H' m' =>ae m m' /\DA x r H'):
  FnH Tryz.prog f [.v (.string (bs s))] ⟨[],[]⟩ m fun r H' m' =>ae m m' /\((x.2.2=0/\r= .tup [.vec 0 0,.v (.int .i64 x.2.1),.v (.int .i64 x.2.2)]/\H' =⟨[],[⟨0,0,50,4,x.1.length,cw x.1⟩]⟩)\/
   (x.2.2≠0/\x.1=[]/\r= .tup [.v (.slice none 0 0),.v (.int .i64 x.2.1),.v (.int .i64 x.2.2)]/\H' =⟨[],[]⟩)):=by
 refine ace h ?_;rintro r H' m' hm ⟨l1,⟨h0,k,u,rfl,rfl⟩ |⟨h0,h1,rfl,rfl⟩⟩
 ·refine .inr ⟨fun z=> .tup [z,.v (.int .i64 x.2.1),.v (.int .i64 x.2.2)],k,u,_,_,_,_,rfl,rfl,fun V V2 e=> ?_,l1,.inl ⟨h0,rfl,rfl⟩⟩;show Value.tuple ⟨[(V.γ k u).val,_,_]⟩=Value.tuple ⟨[(V2.γ 0 0).val,_,_]⟩;rw[e];rfl
 ·exact .inl ⟨l1,.inr ⟨h0,h1,rfl,rfl⟩⟩
theorem JB (t:List UInt8):TsB (bk t).1:=⟨cX (Aa t) (by decide),fun x hx=>cX (SS t x hx).1 (by decide),fun x hx=>(SS t x hx).2⟩
section
variable {ts:List Tk} {en:Int} {s:PSt}
theorem IP (hT:TsB ts) (m:Mem):FnH Tryz.prog 25 [.box 0 0] (pH ts en s) m fun r H' m' =>m' =m/\r= .v (.bool (decide (s.i<ts.length)))/\H' =pH ts en s:=by
 refine aR aB Tryz.func25 ?_
 ·simp only[go_sem];refine bO (.hoist 0 (.hoist 1 (.hoist 2 (.hoist 3 (.hoist 4 (.hoist 5 (.hoist 6 (.hoist 7 (.hoist 8 (.hoist 9 (.hoist 10 .done))))))))))) aB (by kernel_rfl) (by kernel_rfl) ?_;simp only[go_sem];rw[decide_eq_decide];omega
end
theorem OP (t:List UInt8) (m:Mem) (ht:t.length<=4611686018427387904) (hk:FnH Tryz.prog 48 [.v (.string (bs t))] ⟨[],[]⟩ m fun r H' m' =>ae m m' /\DA (bk t) r H'):
  FnH Tryz.prog 24 [.v (.string (bs t))] ⟨[],[]⟩ m fun r H' m' =>ae m m' /\(((bk t).2.2≠0/\r= .tup [.v (.pointer none),.v (.int .i64 (bk t).2.1),.v (.int .i64 (bk t).2.2)]/\H' =⟨[],[]⟩)\/
   ((bk t).2.2=0/\r= .tup [.box 1 0,.v (.int .i64 0),.v (.int .i64 0)]/\H' =⟨[⟨1,62,[.vec 0 0,.v (.int .i64 0),.v (.int .i64 t.length),.v (.bool false),.v (.int .i64 0)]⟩],[⟨0,0,50,4,(bk t).1.length,cw (bk t).1⟩]⟩)):=by
 have h1:=ai1 hk;by_cases h0:(bk t).2.2=0
 ·have h2:=h1.mono (R' :=fun r H' m' =>ae m m' /\r= .tup [.vec 0 0,.v (.int .i64 (bk t).2.1),.v (.int .i64 0)]/\H' =⟨[],[⟨0,0,50,4,(bk t).1.length,cw (bk t).1⟩]⟩) fun r H' m' _ h=>by
   rcases h with ⟨l1,⟨_,h3,h4⟩ |⟨h3,_⟩⟩
   ·rw[h0] at h3;exact⟨l1,h3,h4⟩
   ·exact absurd h0 h3
  clear h1;refine aR aB Tryz.func24 ?_
  ·simp only[go_sem];refine ab (h2.mono ?_);clear h2;rintro r H' m1 aN ⟨l1,rfl,rfl⟩;simp only[go_sem];exact⟨fun h=>absurd trivial h,l1,.inr h0⟩
 ·have h2:=h1.mono (R' :=fun r H' m' =>ae m m' /\r= .tup [.v (.slice none 0 0),.v (.int .i64 (bk t).2.1),.v (.int .i64 (bk t).2.2)]/\H' =⟨[],[]⟩) fun r H' m' _ h=>by
   rcases h with ⟨l1,⟨h3,_⟩ |⟨_,_,h3,h4⟩⟩
   ·exact absurd h3 h0
   ·exact⟨l1,h3,h4⟩
  clear h1;refine aR aB Tryz.func24 ?_
  ·simp only[go_sem];refine ab (h2.mono ?_);clear h2;rintro r H' m1 aN ⟨l1,rfl,rfl⟩;simp only[go_sem];exact⟨fun _=>⟨l1,.inl h0⟩,fun h=>absurd h h0⟩
theorem JI {t:List UInt8} {m:Mem} (ht:t.length<=4611686018427387904) (hk:FnH Tryz.prog 48 [.v (.string (bs t))] ⟨[],[]⟩ m fun r H' m' =>ae m m' /\DA (bk t) r H') (h0:(bk t).2.2=0):
  FnH Tryz.prog 24 [.v (.string (bs t))] ⟨[],[]⟩ m fun r H' m' =>ae m m' /\r= .tup [.box 1 0,.v (.int .i64 0),.v (.int .i64 0)]/\H' =⟨[⟨1,62,[.vec 0 0,.v (.int .i64 0),.v (.int .i64 t.length),.v (.bool false),.v (.int .i64 0)]⟩],[⟨0,0,50,4,(bk t).1.length,cw (bk t).1⟩]⟩:=
 (OP t m ht hk).mono fun r H' m' _ h=>by
  rcases h with ⟨l1,⟨h1,_⟩ |⟨_,h2,h3⟩⟩
  ·exact absurd h0 h1
  ·exact⟨l1,h2,h3⟩
theorem JK {t:List UInt8} {m:Mem} (ht:t.length<=4611686018427387904) (hk:FnH Tryz.prog 48 [.v (.string (bs t))] ⟨[],[]⟩ m fun r H' m' =>ae m m' /\DA (bk t) r H') (h0:¬(bk t).2.2=0):
  FnH Tryz.prog 24 [.v (.string (bs t))] ⟨[],[]⟩ m fun r H' m' =>ae m m' /\r= .tup [.v (.pointer none),.v (.int .i64 (bk t).2.1),.v (.int .i64 (bk t).2.2)]/\H' =⟨[],[]⟩:=
 (OP t m ht hk).mono fun r H' m' _ h=>by
  rcases h with ⟨l1,⟨_,h2,h3⟩ |⟨h1,_⟩⟩
  ·exact⟨l1,h2,h3⟩
  ·exact absurd h1 h0
def SZ {α:Type} (c b:Nat) (g:α->Nat) (K:PR α):Prop:=∀x r,K= .ok (x,r)->g x+c * r.length<=b
section
variable {α β:Type} {c b b1:Nat} {g:α->Nat} {g2:β->Nat} {l:List Tk}
theorem de {x:α} {r:List Tk} (h:g x+c * r.length<=b):SZ c b g (.ok (x,r)):=fun y q e=>by cases e;exact h
theorem kg {r:List Tk}:SZ c b g (.error r):=fun y q e=>by cases e
theorem cN {c1:Nat} {K:PR α} {k:α->List Tk->PR β} (h:SZ c1 b1 g K) (hk:∀x r,g x+c1 * r.length<=b1->SZ c b g2 (k x r)):SZ c b g2 (an K k):=by
 cases K with
 |error r=>exact kg
 |ok p=>exact hk p.1 p.2 (h p.1 p.2 rfl)
theorem iy {s:List UInt8} {k:List Tk->PR α} (h:l.tail.length+1=l.length->SZ c b g (k l.tail)):SZ c b g (aV s l k):=by
 unfold aV;split
 ·rename_i h1;have:=cd h1;exact h (by cases l with |nil=>exact absurd rfl this |cons a r=>rfl)
 ·exact kg
theorem df {p:Prop} [Decidable p] {a a' :PR α} (h1:p->SZ c b g a) (h2:¬p->SZ c b g a'):SZ c b g (if p then a else a'):=by
 split
 ·rename_i h;exact h1 h
 ·rename_i h;exact h2 h
theorem jI {K:PR α} (h:SZ c b1 g K) (hb:b1<=b):SZ c b g K:=fun x r e=>cX (h x r e) hb
end
theorem ee {l:List Tk} (h:l≠[]):l.tail.length+1=l.length:=by
 cases l with
 |nil=>exact absurd rfl h
 |cons a r=>rfl
theorem yi (l:List Tk):SZ 1 l.length (fun _=>1) (fz l):=by
 unfold fz;refine df (fun h=>de ?_) fun _=>kg
 have:=ee (l:=l) (fun e=>by rw[e] at h;cases h);omega
theorem tE (l:List Tk):SZ 1 l.length (fun _=>1) (da l):=by
 unfold da;refine df (fun h=>de ?_) fun _=>kg
 have:=ee (l:=l) (fun e=>by rw[e] at h;cases h);omega
theorem SK (l:List Tk):SZ 1 l.length (fun _=>1) (jq l):=by
 unfold jq;refine df (fun h=>de ?_) fun _=>df (fun h=>de ?_) fun _=>cN (yi l) fun x r h=>de h
 ·have:=ee (cd h);omega
 ·have:=ee (cd h);omega
theorem Sz:∀(f:Nat) (t:Ty) (l:List Tk),SZ 1 l.length (fun _=>0) (jK f t l)
 |0,t,l=>de (by omega)
 |f+1,t,l=>by
  rw[jK];refine df (fun h=>iy fun h1=>jI (Sz f _ _) ?_) fun _=>de (by omega)
  have:=ee (cd h);have:=cW l.tail;have:=this.length_le;omega
theorem Tc:∀(f:Nat) (t:Ty) (l:List Tk),SZ 1 l.length (fun _=>0) (iK f t l)
 |0,t,l=>de (by omega)
 |f+1,t,l=>by
  rw[iK];refine df (fun h=>iy fun h1=>jI (Tc f _ _) ?_) fun _=>de (by omega)
  have:=ee (cd h);have:=cW l.tail;have:=this.length_le;omega
theorem xY (l:List Tk):SZ 1 l.length (fun _=>1) (eY l):=by
 unfold eY;refine cN (SK l) fun t r h=> ?_
 intro x q e;have:=Sz _ _ _ x q e;dsimp only at this h ⊢;omega
theorem OA:∀(a b:List Ex),eg (a++b)=eg a+eg b
 |[],b=>by simp [eg]
 |e::r,b=>by simp only[dW,eg,OA r b];omega
structure EZ (f:Nat):Prop where
 expr:∀n l,SZ 1 l.length dd (cC f n l)
 loop:∀n e l,SZ 1 (dd e+l.length) dd (fT f n e l)
 unary:∀l,SZ 1 l.length dd (gT f l)
 post:∀e l,SZ 1 (dd e+l.length) dd (fZ f e l)
 args:∀l,SZ 1 l.length (fun es=>eg es+1) (gK f l)
 more:∀acc l,SZ 1 (eg acc+l.length) eg (ki f acc l)
 paren:∀l,SZ 1 l.length (fun e=>dd e+1) (fk f l)
 operand:∀l,SZ 1 l.length dd (iu f l)
 key:∀l,SZ 1 l.length dd (jt f l)
theorem Kn:∀f,EZ f
 |0=>⟨fun n l=>by rw[cC];exact kg,fun n e l=>by rw[fT];exact kg,fun l=>by rw[gT];exact kg,fun e l=>by rw[fZ];exact kg,fun l=>by rw[gK];exact kg,fun a l=>by rw[ki];exact kg,fun l=>by rw[fk];exact kg,fun l=>by rw[iu];exact kg,fun l=>by rw[jt];exact kg⟩
 |f+1=>by
  have ih:=Kn f;refine⟨fun n l=> ?_,fun n e l=> ?_,fun l=> ?_,fun e l=> ?_,fun l=> ?_,fun acc l=> ?_,fun l=> ?_,fun l=> ?_,fun l=> ?_⟩
  ·rw[cC];exact df (fun _=>ih.unary l) fun _=>cN (ih.expr (n+1) l) fun e r h=>jI (ih.loop n e r) (by omega)
  ·rw[fT];refine df (fun h=> ?_) fun _=>df (fun h=> ?_) fun _=>df (fun h=> ?_) fun _=>de (by omega)
   ·have h1:=ee (l:=l) (fun e=>by rw[e,iJ] at h;cases h);refine cN (ih.expr (n+1) l.tail) fun x r h2=>jI (ih.loop n _ r) ?_
    simp only[dd,eg];omega
   ·have h1:=ee (cd h.2);refine cN (xY l.tail) fun t r h2=>jI (ih.loop n _ r) ?_
    simp only[dd,eg];omega
   ·have h1:=ee (cd h.2);refine cN (xY l.tail) fun t r h2=>jI (ih.loop n _ r) ?_
    simp only[dd,eg];omega
  ·rw[gT];refine df (fun h=> ?_) fun _=>df (fun h=> ?_) fun _=>cN (ih.operand l) fun e r h=>jI (ih.post e r) (by omega)
   ·have h1:=ee (cd h);exact cN (ih.unary l.tail) fun x r h2=>de (by simp only[dd,eg];omega)
   ·have h1:=ee (cd h);exact cN (ih.unary l.tail) fun x r h2=>de (by simp only[dd,eg];omega)
  ·rw[fZ];refine df (fun h=> ?_) fun _=>df (fun h=> ?_) fun _=>de (by omega)
   ·have h1:=ee (cd h);refine cN (tE l.tail) fun s r h2=>df (fun _=> ?_) fun _=> ?_
    ·refine cN (ih.args r) fun es r2 h3=>jI (ih.post _ r2) ?_
     simp only[dd,eg];omega
    ·refine jI (ih.post _ r) ?_;simp only[dd,eg];omega
   ·have h1:=ee (cd h);refine cN (ih.expr 0 l.tail) fun i r h2=>iy fun h3=>jI (ih.post _ _) ?_
    simp only[dd,eg];omega
  ·rw[gK];refine iy fun h1=>df (fun h=>de ?_) fun _=>cN (ih.expr 0 l.tail) fun e r h2=> ?_
   ·have h2:=ee (cd h);simp only[eg];omega
   ·intro x q e2;have:=ih.more [e] r x q e2;simp only[eg] at this ⊢;omega
  ·rw[ki];refine df (fun h=> ?_) fun _=>iy fun h1=>de (by omega)
   have h1:=ee (cd h);refine cN (ih.expr 0 l.tail) fun e r h2=>jI (ih.more _ r) ?_
   simp only[OA,eg];omega
  ·rw[fk];exact iy fun h1=>cN (ih.expr 0 l.tail) fun e r h2=>iy fun h3=>de (by omega)
  ·rw[iu];refine df (fun h=> ?_) fun _=>df (fun h=> ?_) fun _=>df (fun h=> ?_) fun _=>df (fun h=> ?_) fun _=>df (fun h=> ?_) fun _=>df (fun h=> ?_) fun _=>ih.key l
   ·have h1:=ee (uZ h (by decide));exact de (by simp only[dd,eg];omega)
   ·have h1:=ee (uZ h (by decide));exact de (by simp only[dd,eg];omega)
   ·have h1:=ee (uZ h (by decide));exact de (by simp only[dd,eg];omega)
   ·exact cN (tE l) fun s r h2=>de (by simp only[dd,eg];omega)
   ·refine cN (yi l) fun c r h2=>iy fun h3=>cN (tE r.tail) fun s r3 h4=>df (fun _=> ?_) fun _=>de (by simp only[dd,eg];omega)
    exact cN (ih.args r3) fun es r4 h5=>de (by simp only[dd];omega)
   ·intro x q e2;have:=ih.paren l x q e2;dsimp only at this;omega
  ·rw[jt];refine df (fun h=> ?_) fun _=>df (fun h=> ?_) fun _=>df (fun h=> ?_) fun _=>df (fun h=> ?_) fun _=>df (fun h=> ?_) fun _=>df (fun h=> ?_) fun _=>df (fun h=> ?_) fun _=>kg
   ·have h1:=ee (cd h);exact de (by simp only[dd,eg];omega)
   ·have h1:=ee (cd h);exact de (by simp only[dd,eg];omega)
   ·have h1:=ee (cd h);exact iy fun h2=>cN (tE _) fun s r2 h3=>cN (ih.args r2) fun es r3 h4=>de (by simp only[dd];omega)
   ·have h1:=ee (cd h);refine cN (SK _) fun t r h2=>df (fun _=>cN (ih.args r) fun es r2 h3=>de (by simp only[dd];omega)) fun _=> ?_
    refine iy fun h3=>cN (Tc _ t _) fun t2 r3 h4=>cN (ih.expr 0 r3) fun e r4 h5=>iy fun h6=>de (by simp only[dd,eg];omega)
   ·have h1:=ee (cd h);exact cN (ih.paren _) fun e r h2=>de (by simp only[dd,eg];omega)
   ·have h1:=ee (cd h);exact cN (ih.paren _) fun e r h2=>de (by simp only[dd,eg];omega)
   ·have h1:=ee (cd h);exact cN (ih.paren _) fun e r h2=>de (by simp only[dd,eg];omega)
theorem J3 {α:Type} {c b:Nat} {g:α->Nat} {h:Nat->PR α} {K:PR α} (hl:bG h K) (hs:∀f,SZ c b g (h f)):SZ c b g K:=by
 obtain⟨F,hF⟩:=hl;rw[<- hF F (av _)];exact hs F
theorem abz (l:List Tk):SZ 1 l.length dd (dQ 0 l):=J3 (rT (by decide) l) fun f=>(Kn f).expr 0 l
theorem EH:∀(a b:List St),cY (a++b)=cY a+cY b
 |[],b=>by simp [cY]
 |e::r,b=>by simp only[dW,cY,EH r b];omega
theorem pB:dd zE=1:=rfl
structure TZ (f:Nat):Prop where
 block:∀l,SZ 3 (3 * l.length) (fun b=>cY b+6) (dN f l)
 stmts:∀acc l,SZ 3 (cY acc+3 * l.length) (fun b=>cY b+3) (ka f acc l)
 stmt:∀l,SZ 3 (3 * l.length) fS (gq f l)
theorem Cv:∀f,TZ f
 |0=>⟨fun l=>by rw[dN];exact kg,fun a l=>by rw[ka];exact kg,fun l=>by rw[gq];exact kg⟩
 |f+1=>by
  have ih:=Cv f;have ez:=Kn f;refine⟨fun l=> ?_,fun acc l=> ?_,fun l=> ?_⟩
  ·rw[dN];refine iy fun h1=> ?_
   intro x q e;have:=ih.stmts [] l.tail x q e;simp only[cY] at this ⊢;omega
  ·rw[ka];refine df (fun h=>de ?_) fun _=>cN (ih.stmt l) fun x r h=>jI (ih.stmts _ r) ?_
   ·have:=ee (cd h);omega
   ·simp only[EH,cY];omega
  ·have pb:∀(l2:List Tk) (b:Nat) (k:Ex->List St->List Tk->PR St),(∀e bd r,dd e+cY bd+7+3 * r.length<=3 * l2.length->SZ 3 b fS (k e bd r))->SZ 3 b fS (an (fk f l2) fun e r=>an (dN f r) fun bd r2=>k e bd r2):=fun l2 b k hk=>
    cN (ez.paren l2) fun e r h=>cN (ih.block r) fun bd r2 h2=>hk e bd r2 (by first |omega |(dsimp only at h2;omega))
   rw[gq];refine df (fun h=> ?_) fun _=>df (fun h=> ?_) fun _=>df (fun h=> ?_) fun _=>df (fun h=> ?_) fun _=>df (fun h=> ?_) fun _=>df (fun h=> ?_) fun _=>
    df (fun h=> ?_) fun _=>df (fun h=> ?_) fun _=>df (fun h=> ?_) fun _=> ?_
   ·have h1:=ee (cd h);refine pb _ _ _ fun e bd r h2=>df (fun h3=>cN (ih.block r.tail) fun a r3 h4=>de ?_) fun _=>de ?_
    ·have h5:=ee (cd h3);simp only[fS,pB] at h4 ⊢;omega
    ·simp only[fS,pB,cY];omega
   ·have h1:=ee (cd h);exact pb _ _ _ fun e bd r h2=>de (by simp only[fS,pB,cY];omega)
   ·have h1:=ee (cd h);refine df (fun h2=>de ?_) fun _=>cN (ez.expr 0 l.tail) fun e r h2=>iy fun h3=>de ?_
    ·have h3:=ee (cd h2);simp only[fS,pB,cY];omega
    ·simp only[fS,pB,cY];omega
   ·have h1:=ee (cd h);exact cN (ez.expr 0 l.tail) fun e r h2=>iy fun h3=>de (by simp only[fS,pB,cY];omega)
   ·have h1:=ee (cd h);refine cN (ih.block l.tail) fun b r h2=>iy fun h3=>iy fun h4=>cN (xY _) fun t r4 h5=>cN (tE r4) fun s r5 h6=>iy fun h7=>cN (ih.block _) fun a r7 h8=>de ?_
    simp only[fS,pB] at h2 h8 ⊢;omega
   ·have h1:=ee (cd h);exact pb _ _ _ fun e bd r h2=>de (by simp only[fS,pB,cY];omega)
   ·exact cN (ih.block l) fun b r h2=>de (by simp only[fS,pB,cY] at h2 ⊢;omega)
   ·have h1:=ee (cd h.1);exact cN (ez.args l.tail) fun es r h2=>iy fun h3=>de (by simp only[fS,pB,cY,dd] at h2 ⊢;omega)
   ·exact cN (xY l) fun t r h2=>cN (tE r) fun s r2 h3=>iy fun h4=>cN (ez.expr 0 _) fun e r4 h5=>iy fun h6=>de (by simp only[fS,pB,cY];omega)
   ·refine cN (ez.expr 0 l) fun e r h2=>df (fun h3=> ?_) fun _=>iy fun h4=>de (by simp only[fS,pB,cY];omega)
    have h4:=ee (cd h3);exact cN (ez.expr 0 r.tail) fun x r2 h5=>iy fun h6=>de (by simp only[fS,pB,cY];omega)
theorem P7:∀(f:Nat) (acc:List Pc) (l:List Tk),SZ 1 (acc.length+l.length) List.length (jk f acc l)
 |0,acc,l=>by rw[jk];exact kg
 |f+1,acc,l=>by
  rw[jk];refine df (fun h=> ?_) fun _=>iy fun h1=>de (by omega)
  have h1:=ee (cd h);refine cN (xY l.tail) fun t r h2=>cN (tE r) fun s r2 h3=>jI (P7 f _ r2) ?_
  rw[aI,iq];omega
theorem OM (f:Nat) (l:List Tk):SZ 1 l.length (fun ps=>List.length ps) (pC f l):=by
 unfold pC;refine iy fun h1=>df (fun h=>de ?_) fun _=>cN (xY _) fun t r h2=>cN (tE r) fun s r3 h3=>jI (P7 f _ r3) ?_
 ·have:=ee (cd h);simp only[bg];omega
 ·simp only[aL,bg];omega
theorem JD (d:Cd) (x:Md):ea (d.addM x)=ea d+kD x:=by simp only[ea,Cd.addM,List.map_append,List.sum_append,bJ,List.map_nil,List.sum_cons,List.sum_nil];omega
theorem acx (d:Cd) (x:Fc):ea (d.addF x)=ea d+1:=by simp only[ea,Cd.addF,aI,iq];omega
theorem acw (d:Cd) (x:List St):ea (d.addI x)=ea d+cY x:=by simp only[ea,Cd.addI,EH];omega
theorem Rx (f:Nat) (d:Cd) (fl:Int) (t:Ty) (s:List UInt8) (l:List Tk):SZ 3 (ea d+3 * l.length) ea (oR f d fl t s l):=by
 unfold oR;refine cN (OM f l) fun ps r h1=>df (fun h=>de ?_) fun _=>cN ((Cv f).block r) fun b r2 h2=>de ?_
 ·have:=ee (cd h);simp only[JD,kD,cY];omega
 ·simp only[JD,kD];omega
theorem Zm (f:Nat) (d:Cd) (fl:Int) (l:List Tk):SZ 3 (ea d+3 * l.length) ea (lR f d fl l):=by
 unfold lR;refine df (fun h=> ?_) fun _=>df (fun h=> ?_) fun _=>df (fun h=> ?_) fun _=> ?_
 ·exact cN ((Cv f).block l) fun b r h1=>de (by simp only[acw];omega)
 ·have h1:=ee (cd h);exact cN (OM f l.tail) fun ps r h2=>cN ((Cv f).block r) fun b r2 h3=>de (by simp only[JD,kD];omega)
 ·have h1:=ee (cd h);exact cN (tE l.tail) fun s r h2=>jI (Rx f d fl eZ s r) (by omega)
 ·refine cN (xY l) fun t r h1=>cN (tE r) fun s r2 h2=>df (fun h=>de ?_) fun _=>jI (Rx f d fl t s r2) (by omega)
  have:=ee (cd h);simp only[acx];omega
theorem R7:∀(f:Nat) (d:Cd) (l:List Tk),SZ 3 (ea d+3 * l.length) ea (gg f d l)
 |0,d,l=>by rw[gg];exact kg
 |f+1,d,l=>by
  rw[gg];refine df (fun h=>de ?_) fun _=>cN (Zm f d _ _) fun e r h=>jI (R7 f e r) ?_
  ·have:=ee (cd h);omega
  ·have:=(uK bK 0 l).length_le;omega
theorem Q2:∀(f:Nat) (acc:List (List UInt8)) (l:List Tk),SZ 1 (acc.length+l.length) List.length (ke f acc l)
 |0,acc,l=>by rw[ke];exact kg
 |f+1,acc,l=>by
  rw[ke];refine df (fun h=> ?_) fun _=>de (by omega)
  have h1:=ee (cd h);refine cN (yi l.tail) fun s r h2=>jI (Q2 f _ r) ?_
  rw[aI,iq];omega
theorem Tw (f:Nat) (w:List UInt8) (l:List Tk):SZ 1 l.length List.length (nI f w l):=by
 unfold nI;refine df (fun h=> ?_) fun _=>de (by simp)
 have h1:=ee (cd h);refine cN (yi l.tail) fun s r h2=>jI (Q2 f _ r) ?_
 simp only[aL,bg];omega
theorem adj (f:Nat) (l:List Tk):SZ 3 (3 * l.length) ea (pT f l):=by
 have Vz:=(uK iN 0 l).length_le;have uh:=(uK j5 (bN iN 0 l).1 (bN iN 0 l).2).length_le;unfold pT;refine df (fun h=> ?_) fun _=> ?_
 ·have h1:=ee (cd h);refine cN (yi _) fun n r h2=>cN (Tw f gh r) fun is r2 h3=>iy fun h4=>de ?_
  simp only[ea,cY,bg,List.map_nil,List.sum_nil];omega
 ·refine iy fun h1=>cN (yi _) fun n r2 h2=>iy fun h3=>cN (yi _) fun sp r4 h4=>cN (Tw f kn r4) fun is r5 h5=>iy fun h6=>de ?_
  simp only[ea,cY,bg,List.map_nil,List.sum_nil];omega
theorem ah7 (f:Nat) (l:List Tk):SZ 3 (3 * l.length) ea (uA f l):=cN (adj f l) fun d r h=>jI (R7 f d r) (by omega)
theorem RI:∀(f:Nat) (acc:List Cd) (l:List Tk),SZ 3 ((acc.map ea).sum+3 * l.length) (fun p=>(List.map ea p).sum) (la f acc l)
 |0,acc,l=>by rw[la];exact kg
 |f+1,acc,l=>by
  rw[la];refine df (fun h=>de ?_) fun _=>cN (ah7 f l) fun d r h=>jI (RI f _ r) ?_
  ·rw[bg];omega
  ·rw[List.map_append,List.sum_append,bJ,List.map_nil,List.sum_cons,List.sum_nil];omega
theorem aaR (l:List Tk):SZ 3 (3 * l.length) (fun p=>(List.map ea p).sum) (mJ [] l):=jI (J3 (Gj [] l) fun f=>RI f [] l) (by simp)
/-! A sequence of statements, to the end of the text. -/
def qI:Nat->List St->List Tk->PR (List St)
 |0,_,l=> .error l
 |f+1,acc,l=>if l=[] then .ok (acc,[]) else an (gq f l) fun s r=>qI f (acc++[s]) r
theorem acy:∀(N:Nat) (acc:List St) (l:List Tk),l.length<=N->Tot false (fun f=>qI f acc l) l:=fun N=>by
 induction N with
 |zero=>
  intro acc l hl;have:l=[]:=List.eq_nil_of_length_eq_zero (by omega);subst this;refine kB (h:=fun _=> .ok (acc,[])) (fun f=>by rw[qI,ah rfl]) j8
 |succ N ih=>
  intro acc l hl;by_cases h:l=[]
  ·subst h;exact kB (h:=fun _=> .ok (acc,[])) (fun f=>by rw[qI,ah rfl]) j8
  ·refine kB (h:=fun f=>an (gq f l) fun s r=>qI f (acc++[s]) r) (fun f=>by rw[qI,af h]) ?_;exact mB false (cM (b:=false) (wc l).stmt fun s r h1 h2=>ih _ r (by have:=h2 rfl;omega)) fun h=>by cases h
noncomputable def p6 (acc:List St) (l:List Tk):PR (List St):=jY fun f=>qI f acc l
theorem UF (acc:List St) (l:List Tk):bG (fun f=>qI f acc l) (p6 acc l):=(acy _ acc l (av _)).lim
theorem Rs (acc:List St) (l:List Tk):p6 acc l=(if l=[] then .ok (acc,[]) else an (Az l) fun s r=>p6 (acc++[s]) r):=
 jF (b8 (fun f=>by rw[qI]) (dI (bb _) (cJ (Ua l) fun s r=>UF _ r)))
theorem S5:∀(f:Nat) (acc:List St) (l:List Tk),SZ 3 (cY acc+3 * l.length) cY (qI f acc l)
 |0,acc,l=>by rw[qI];exact kg
 |f+1,acc,l=>by
  rw[qI];refine df (fun h=>de ?_) fun _=>cN ((Cv f).stmt l) fun d r h=>jI (S5 f _ r) ?_
  ·rw[bg];omega
  ·simp only[EH,cY];omega
theorem acz (l:List Tk):SZ 3 (3 * l.length) cY (p6 [] l):=jI (J3 (UF [] l) fun f=>S5 f [] l) (by simp [cY])
noncomputable def lk (l:List Tk):PR Ex:=an (dQ 0 l) fun e r=>if r=[] then .ok (e,[]) else .error r
/-! Depths against sizes. -/
mutual
theorem Pp:∀(s:St),eT s<=fS s/\pU s<=fS s
 | .mk k nm ty tg ex body alt=>by
  have h1:=BG body;have h2:=BG alt;have h3:=xH tg;have h4:=xH ex;have h5:yp ex<=bU ex:=by cases ex;simp [yp,bU]
  simp only[eT,pU,fS];constructor
  ·omega
  ·split<;>omega
theorem BG:∀(l:List St),dy l<=cY l/\ef l<=cY l
 |[]=>by simp [dy,ef]
 |e::r=>by
  have h1:=Pp e;have h2:=BG r;simp only[dy,ef,cY];omega
end
theorem Qx:∀(l:List Md),kI l<=(l.map kD).sum/\kJ l<=(l.map kD).sum
 |[]=>by simp [kI,kJ]
 |e::r=>by
  have h1:=BG e.body;have h2:=Qx r;simp only[kI,kJ,bJ,List.sum_cons,kD];omega
theorem abU {d:Cd} (h:ea d<=1048576):CdB d:=by
 have h1:=BG d.init;have h2:=Qx d.methods;simp only[ea] at h;exact⟨by simp only[aq];omega,by simp only[aq];omega,by simp only[aq];omega,by simp only[aq];omega⟩
theorem Ab {α:Type} {f:α->Nat}:∀{l:List α},∀x∈l,f x<=(l.map f).sum
 |[],x,hx=>by cases hx
 |y::r,x,hx=>by
  simp only[bJ,List.sum_cons];rcases List.mem_cons.1 hx with rfl |hx
  ·omega
  ·have:=Ab (f:=f) x hx;omega
theorem P4 {l:List Cd} (h:(l.map ea).sum<=1048576):∀d∈l,CdB d:=fun d hd=>abU (cX (Ab (f:=ea) d hd) h)
theorem aly:oD Tryz.prog 59=136:=by kernel_rfl
@[reducible] def Ma (en:Int) (s:PSt):Bx:=⟨1,62,[.vec 0 0,.v (.int .i64 s.i),.v (.int .i64 en),.v (.bool s.fl),.v (.int .i64 s.off)]⟩
@[reducible] def La (ts:List Tk):Vc:=⟨0,0,50,4,ts.length,cw ts⟩
attribute [go_sem] aly Ma La
noncomputable def tq (t:List UInt8):List Cd×Int×Int:=
 if(bk t).2.2=0 then(match mJ [] (bk t).1 with
  | .error r=>([],wO t.length r,71)
  | .ok x=>if(ff [] x.1).2=0 then(x.1,0,0) else([],0,(ff [] x.1).2))
 else([],(bk t).2.1,(bk t).2.2)
abbrev alP (x:List Cd×Int×Int) (m:Mem):SV->Hp->Mem->Prop:=fun r H' m' =>ae m m' /\∃(a:Option Addr) (n c:Nat),r= .tup [.v (.slice a n c),.v (.int .i64 x.2.1),.v (.int .i64 x.2.2)]/\oT m' x.1 a n c/\H' =⟨[],[]⟩
theorem GlobX.upM {m m' :Mem} (h:GlobX m) (hm:ae m m'):GlobX m' :=by
 rcases hm with rfl |hm
 ·exact h
 ·exact h.up hm
theorem RN {R' :SV->Hp->Mem->Prop} {bx:List Bx} {vc:List Vc} {m' :Mem} {k u:Nat} {x y:Value} {b:Vc} (hb:eV vc k u=some b)
  (h:∀(a:Option Addr) (c:Nat) (m1:Mem),m'.le m1->b.n<=c->aX m1 a b.n b.sz b.xs->R' (.tup [.v (.slice a b.n c),.v x,.v y]) ⟨[],[]⟩ m1):G1 R' (.tup [.vec k u,.v x,.v y]) ⟨bx,vc⟩ m' :=
 .inr ⟨fun z=> .tup [z,.v x,.v y],k,u,b,⟨[],[]⟩,hb,rfl,fun V v e=>by subst e;rfl,List.nil_sublist _,List.nil_sublist _,h⟩
theorem IG (m:Mem):oT m [] none 0 0:=⟨rfl,av _,aD _,[],fI m 7,trivial⟩
theorem ah8 (l:List Tk):∀x r,Ei l= .ok (x,r)->r.length<l.length:=fun x r h=>by
 have g:=(TU l).good;rw[jF (Vm l)] at g;exact(g.ok x r h).2 rfl
theorem abT {m:Mem} {x:Cc} {d:Cd} (h:jL m d x.cs):nz (jL m) 7 [d] x.cs:=⟨h,trivial⟩
theorem OH (t:List UInt8) (m:Mem) (hg:GlobX m) (ht:t.length<=4611686018427387904):FnH Tryz.prog 10 [.v (.string (bs t))] ⟨[],[]⟩ m (alP (tq t) m):=by
 have hk:=fun m' (h:ae m m')=>HO t m' (by rcases h with rfl |h;exact hg;exact hg.up h) ht
 have hT:=JB t;by_cases h0:(bk t).2.2=0
 ·have h1:=JI ht (hk m (.inl rfl)) h0
  have e0:tq t=(match mJ [] (bk t).1 with
   | .error r=>([],wO t.length r,71)
   | .ok x=>if(ff [] x.1).2=0 then(x.1,0,0) else([],0,(ff [] x.1).2)):=ah h0
  refine pF (aR aB Tryz.func10 ?_)
  ·simp only[go_sem];refine ab (h1.mono ?_);clear h1;rintro r H' m1 aN ⟨l1,rfl,rfl⟩;simp only[go_sem];refine⟨fun h=>absurd trivial h,?_⟩;refine z7 8 59 7 (by decide) rfl ?_;refine dA aB (fun y:PSt×List Cd×List Value×Nat×Mem=>⟨[⟨5,[],.box 1 0⟩,⟨8,[],.vec 2 y.2.2.2.1⟩],[],[Ma t.length y.1],[⟨2,y.2.2.2.1,59,7,y.2.1.length,y.2.2.1⟩,La (bk t).1],40,y.2.2.2.2⟩)
    (fun y=>ae m1 y.2.2.2.2/\Inv (bk t).1 y.1/\y.2.1.length<=y.1.i+(if y.1.fl=true then 1 else 0)/\y.2.2.1.length=y.2.1.length * 7/\nz (jL y.2.2.2.2) 7 y.2.1 y.2.2.1/\∀a s',Res (bk t).1 t.length y.1 (mJ y.2.1 ((bk t).1.drop y.1.i)) a s' ->Res (bk t).1 t.length ⟨0,false,0⟩ (mJ [] (bk t).1) a s')
    (fun y=>if y.1.fl=true then 0 else(bk t).1.length - y.1.i+1) (⟨0,false,0⟩,[],[],0,m1) (fun _ _=>dC rfl) (fun y hy=>hy.1) ?_ ?_ ?_
   ·simp only[go_sem];exact rfl
   ·exact⟨.inl rfl,⟨aD _,fun h=>(by cases h)⟩,aD _,rfl,trivial,fun a s' h=>h⟩
   ·rintro⟨s4,ds,xs,u,m4⟩ ⟨q1,q2,q3,q4,q5,q6⟩;dsimp only at q1 q2 q3 q4 q5 q6;have hl:=hT.len;have dv:=q2.le;have hm:=IP (en:=t.length) (s:=s4) hT m4;by_cases hi:s4.i<(bk t).1.length
    ·have hf:=q2.nfl hi;rw[eH hi] at hm;have hb:=fun m' =>ZE (en:=t.length) hT q2 m'
     rw[af (by rw[hf];decide)] at q3;simp only[go_sem];refine ab (hm.mono ?_);clear hm;rintro r H' m5 cK ⟨rfl,rfl,rfl⟩;simp only[go_sem];refine ab ((hb m5).mono ?_);clear hb;rintro r H' m6 ej ⟨l6,x6,d6,s6,rfl,hd6,rfl,hR6⟩;have tX:=hR6.mono;have fU:=nk hR6 hf (ah8 _);have zk:=hR6.inv.le;simp only[go_sem];refine⟨j9 (by omega) (by decide),(s6,ds++[d6],xs++x6.cs,u+1,m6),⟨rfl,⟨rfl,rfl,rfl⟩,⟨rfl,by simp,rfl⟩,.inl rfl⟩,⟨aa q1 l6,hR6.inv,?_,by simp only[aI,iq,q4,Cc.cs,aL,bg];omega,Kd (l2:=[d6]) (abT hd6) q4 (wD (fun _ _=>qu l6) q5),fun a s' h=>q6 a s' ?_⟩,?_⟩
     ·dsimp only;rw[aI,iq];rcases fU with h |h
      ·rw[ah h];omega
      ·omega
     ·rw[P6,af (fun h=>by have:=congrArg List.length h;rw[dG] at this;simp at this;omega)];exact aW hR6 h
     ·dsimp only;rw[af (by rw[hf];decide:¬s4.fl=true)];rcases fU with h |h
      ·rw[ah h];omega
      ·split<;>omega
    ·rw[dr hi] at hm;have oo:(bk t).1.drop s4.i=[]:=List.drop_eq_nil_of_le (by omega);have cP:Res (bk t).1 t.length ⟨0,false,0⟩ (mJ [] (bk t).1) ds s4:=by
      refine q6 _ _ ?_;by_cases hf:s4.fl=true
      ·exact CD ds q2 hf
      ·rw[P6,ah oo,<- oo];exact cL _ q2
     simp only[go_sem];refine ab (hm.mono ?_);clear hm;rintro r H' m5 cK ⟨rfl,rfl,rfl⟩;simp only[go_sem];refine⟨fun hf=> ?_,fun hf=> ?_⟩
     ·refine bO (.hoist 0 (.hoist 1 (.hoist 2 (.hoist 3 (.hoist 4 (.hoist 5 (.hoist 6 .done))))))) aB (by kernel_rfl) (by kernel_rfl) ?_;simp only[go_sem];have e:tq t=([],s4.off,71):=by
       cases hK:mJ [] (bk t).1 with
       |ok p=>
        obtain⟨x,r⟩:=p;have:=(cP.ok rfl x r hK).2.1;rw[hf] at this;cases this
       |error r=>
        rw[e0,hK,(cP.er rfl r hK).2]
      rw[e];exact .inl ⟨aa l1 q1,none,0,0,rfl,IG _,rfl⟩
     ·refine⟨by kernel_rfl,fun a c m6 w1 w2 w3=>bo ?_⟩;have hK:mJ [] (bk t).1= .ok (ds,[]):=by
       cases hK:mJ [] (bk t).1 with
       |error r=>
        have:=(cP.er rfl r hK).1;rw[hf] at this;cases this
       |ok p=>
        obtain⟨x,r⟩:=p;obtain⟨k1,k2,k3⟩:=cP.ok rfl x r hK;rw[k1,k3,oo]
      have dp:(ds.map ea).sum<=1048576:=by
       have:=aaR (bk t).1 ds [] hK;have:=Aa t;dsimp only at *;omega
      rw[hK] at e0;have aT:oT m6 ds a ds.length c:=⟨rfl,w2,by unfold aq;have:=Aa t;have hb:(if s4.fl=true then 1 else 0)<=1:=(by split<;>decide);omega,xs,w3,wD (fun _ _=>qu (.inr w1)) q5⟩;have hc:=Ok ds a ds.length c m6 (hg.upM (aa l1 (aa q1 (.inr w1)))).1 (P4 dp) aT;refine hc.mono ?_;clear hc;rintro r H' m7 eW ⟨l7,rfl,rfl⟩;simp only[go_sem];have vx:ds.length<=aq:=aT.2.2.1;refine⟨fun uq=> ?_,fun uq=> ?_⟩
      ·have e:tq t=([],0,(ff [] ds).2):=by rw[e0];exact af uq
       rw[e];exact .inl ⟨aa l1 (aa q1 (aa (.inr w1) l7)),none,0,0,rfl,IG _,rfl⟩
      ·have e:tq t=(ds,0,0):=by rw[e0];exact ah uq
       rw[e];exact RN (b:=⟨2,u,59,7,ds.length,xs⟩) (by simp [eV]) fun a8 c8 m8 x1 x2 x3=>⟨aa l1 (aa q1 (aa (.inr w1) (aa l7 (.inr x1)))),a8,ds.length,c8,rfl,⟨rfl,x2,vx,xs,x3,wD (fun _ _=>qu (aa (.inr w1) (aa l7 (.inr x1)))) q5⟩,rfl⟩
 ·have h1:=JK ht (hk m (.inl rfl)) h0;have e0:tq t=([],(bk t).2.1,(bk t).2.2):=af h0;rw[e0];refine aR aB Tryz.func10 ?_
  ·simp only[go_sem];refine ab (h1.mono ?_);clear h1;rintro r H' m1 aN ⟨l1,rfl,rfl⟩;simp only[go_sem];refine⟨fun _=>⟨l1,none,0,0,rfl,IG m1,rfl⟩,fun h=>absurd h h0⟩
def qM (b:List St):Cd:=⟨0,[65],kH,[],[],[],b⟩
noncomputable def wq (t:List UInt8):List St×Int×Int:=
 if(bk t).2.2=0 then(match p6 [] (bk t).1 with
  | .error r=>([],wO t.length r,71)
  | .ok x=>if(ff [] [qM x.1]).2=0 then(x.1,0,0) else([],0,(ff [] [qM x.1]).2))
 else([],(bk t).2.1,(bk t).2.2)
def U4 (m:Mem) (l:List St) (a:Option Addr) (n c:Nat):Prop:=n=l.length/\n<=c/\n<=aq/\∃xs,aX m a n 23 xs/\bS m l xs
theorem JA (m:Mem):U4 m [] none 0 0:=⟨rfl,av _,aD _,[],fI m 23,iW _ _⟩
abbrev alV (x:List St×Int×Int) (m:Mem):SV->Hp->Mem->Prop:=fun r H' m' =>ae m m' /\∃(a:Option Addr) (n c:Nat),r= .tup [.v (.slice a n c),.v (.int .i64 x.2.1),.v (.int .i64 x.2.2)]/\U4 m' x.1 a n c/\H' =⟨[],[]⟩
theorem abX (t:List UInt8) (m:Mem) (hg:GlobX m) (ht:t.length<=4611686018427387904):FnH Tryz.prog 15 [.v (.string (bs t))] ⟨[],[]⟩ m (alV (wq t) m):=by
 have hk:=fun m' (h:ae m m')=>HO t m' (by rcases h with rfl |h;exact hg;exact hg.up h) ht
 have hT:=JB t;by_cases h0:(bk t).2.2=0
 ·have h1:=JI ht (hk m (.inl rfl)) h0
  have e0:wq t=(match p6 [] (bk t).1 with
   | .error r=>([],wO t.length r,71)
   | .ok x=>if(ff [] [qM x.1]).2=0 then(x.1,0,0) else([],0,(ff [] [qM x.1]).2)):=ah h0
  refine pF (aR aB Tryz.func15 ?_)
  ·simp only[go_sem];refine ab (h1.mono ?_);clear h1;rintro r H' m1 aN ⟨l1,rfl,rfl⟩;simp only[go_sem];refine⟨fun h=>absurd trivial h,?_⟩;refine z7 8 73 23 (by decide) rfl ?_;refine dA aB (fun y:PSt×List St×List Value×Nat×Mem=>⟨[⟨5,[],.box 1 0⟩,⟨8,[],.vec 2 y.2.2.2.1⟩],[],[Ma t.length y.1],[⟨2,y.2.2.2.1,73,23,y.2.1.length,y.2.2.1⟩,La (bk t).1],40,y.2.2.2.2⟩)
    (fun y=>ae m1 y.2.2.2.2/\Inv (bk t).1 y.1/\y.2.1.length<=y.1.i+(if y.1.fl=true then 1 else 0)/\y.2.2.1.length=y.2.1.length * 23/\bS y.2.2.2.2 y.2.1 y.2.2.1/\∀a s',Res (bk t).1 t.length y.1 (p6 y.2.1 ((bk t).1.drop y.1.i)) a s' ->Res (bk t).1 t.length ⟨0,false,0⟩ (p6 [] (bk t).1) a s')
    (fun y=>if y.1.fl=true then 0 else(bk t).1.length - y.1.i+1) (⟨0,false,0⟩,[],[],0,m1) (fun _ _=>dC rfl) (fun y hy=>hy.1) ?_ ?_ ?_
   ·simp only[go_sem];exact rfl
   ·exact⟨.inl rfl,⟨aD _,fun h=>(by cases h)⟩,aD _,rfl,iW _ _,fun a s' h=>h⟩
   ·rintro⟨s4,ds,xs,u,m4⟩ ⟨q1,q2,q3,q4,q5,q6⟩;dsimp only at q1 q2 q3 q4 q5 q6;have hl:=hT.len;have dv:=q2.le;have hm:=IP (en:=t.length) (s:=s4) hT m4;by_cases hi:s4.i<(bk t).1.length
    ·have hf:=q2.nfl hi;rw[eH hi] at hm;have hb:=fun m' =>stw (en:=t.length) hT q2 m'
     rw[af (by rw[hf];decide)] at q3;simp only[go_sem];refine ab (hm.mono ?_);clear hm;rintro r H' m5 cK ⟨rfl,rfl,rfl⟩;simp only[go_sem];refine ab ((hb m5).mono ?_);clear hb;rintro r H' m6 ej ⟨l6,x6,d6,s6,rfl,hd6,rfl,hR6⟩;have tX:=hR6.mono;have fU:=nk hR6 hf (Rm _);have zk:=hR6.inv.le;simp only[go_sem];refine⟨j9 (by omega) (by decide),(s6,ds++[d6],xs++x6.cs,u+1,m6),⟨rfl,⟨rfl,rfl,rfl⟩,⟨rfl,by simp,rfl⟩,.inl rfl⟩,⟨aa q1 l6,hR6.inv,?_,by simp only[aI,iq,q4,Sd.cs,aL,bg];omega,Ja hd6 q4 (tm l6 q5),fun a s' h=>q6 a s' ?_⟩,?_⟩
     ·dsimp only;rw[aI,iq];rcases fU with h |h
      ·rw[ah h];omega
      ·omega
     ·rw[Rs,af (fun h=>by have:=congrArg List.length h;rw[dG] at this;simp at this;omega)];exact aW hR6 h
     ·dsimp only;rw[af (by rw[hf];decide:¬s4.fl=true)];rcases fU with h |h
      ·rw[ah h];omega
      ·split<;>omega
    ·rw[dr hi] at hm;have oo:(bk t).1.drop s4.i=[]:=List.drop_eq_nil_of_le (by omega);have cP:Res (bk t).1 t.length ⟨0,false,0⟩ (p6 [] (bk t).1) ds s4:=by
      refine q6 _ _ ?_;by_cases hf:s4.fl=true
      ·exact CD ds q2 hf
      ·rw[Rs,ah oo,<- oo];exact cL _ q2
     simp only[go_sem];refine ab (hm.mono ?_);clear hm;rintro r H' m5 cK ⟨rfl,rfl,rfl⟩;simp only[go_sem];refine⟨fun hf=> ?_,fun hf=> ?_⟩
     ·refine bO (.hoist 0 (.hoist 1 (.hoist 2 (.hoist 3 (.hoist 4 (.hoist 5 (.hoist 6 .done))))))) aB (by kernel_rfl) (by kernel_rfl) ?_;simp only[go_sem];have e:wq t=([],s4.off,71):=by
       cases hK:p6 [] (bk t).1 with
       |ok p=>
        obtain⟨x,r⟩:=p;have:=(cP.ok rfl x r hK).2.1;rw[hf] at this;cases this
       |error r=>
        rw[e0,hK,(cP.er rfl r hK).2]
      rw[e];exact .inl ⟨aa l1 q1,none,0,0,rfl,(JA _),rfl⟩
     ·intro a c m6 w1 w2 w3;refine⟨by kernel_rfl,fun a9 c9 m7 v1 v2 v3=>bo ?_⟩;have hK:p6 [] (bk t).1= .ok (ds,[]):=by
       cases hK:p6 [] (bk t).1 with
       |error r=>
        have:=(cP.er rfl r hK).1;rw[hf] at this;cases this
       |ok p=>
        obtain⟨x,r⟩:=p;obtain⟨k1,k2,k3⟩:=cP.ok rfl x r hK;rw[k1,k3,oo]
      have dp:([qM ds].map ea).sum<=1048576:=by
       have:=acz (bk t).1 ds [] hK;have:=Aa t;simp only[bJ,List.map_nil,List.sum_cons,List.sum_nil,ea,qM,bg] at *;omega
      rw[hK] at e0;have vx:ds.length<=aq:=by unfold aq;have:=Aa t;have hb:(if s4.fl=true then 1 else 0)<=1:=(by split<;>decide);omega
      have D3:CdOk (qM ds):=⟨(⟨by decide,by decide⟩:aF 0),(by decide:([65]:List UInt8).length<=aq),(by decide:kH.length<=aq),aD _,fun s hs=>(by cases hs),aD _,fun s hs=>(by cases hs),aD _,vx⟩;have hcd:jL m7 (qM ds) (Cc.cs ⟨0,[65],kH,none,0,0,none,0,0,none,0,0,a,ds.length,c⟩):=
       ⟨_,⟨rfl,rfl,rfl,rfl⟩,⟨rfl,av _,rfl,av _,rfl,av _,rfl,w2⟩,D3,fI _ _,fI _ _,[],xs,fI _ _,trivial,ay (.inr v1) w3,tm (aa (.inr w1) (.inr v1)) q5⟩
      have aT:oT m7 [qM ds] a9 1 c9:=⟨rfl,v2,by decide,_,v3,⟨hcd,trivial⟩⟩;have hc:=Ok [qM ds] a9 1 c9 m7 (hg.upM (aa l1 (aa q1 (aa (.inr w1) (.inr v1))))).1 (P4 dp) aT;refine hc.mono ?_;clear hc;rintro r H' m8 iE ⟨l8,rfl,rfl⟩;simp only[go_sem];refine⟨fun uq=> ?_,fun uq=> ?_⟩
      ·have e:wq t=([],0,(ff [] [qM ds]).2):=by rw[e0];exact af uq
       rw[e];exact .inl ⟨aa l1 (aa q1 (aa (.inr w1) (aa (.inr v1) l8))),none,0,0,rfl,JA _,rfl⟩
      ·have e:wq t=(ds,0,0):=by rw[e0];exact ah uq
       rw[e];exact RN (b:=⟨2,u,73,23,ds.length,xs⟩) (by simp [eV]) fun a8 c8 mz x1 x2 x3=>⟨aa l1 (aa q1 (aa (.inr w1) (aa (.inr v1) (aa l8 (.inr x1))))),a8,ds.length,c8,rfl,⟨rfl,x2,vx,xs,x3,tm (aa (.inr w1) (aa (.inr v1) (aa l8 (.inr x1)))) q5⟩,rfl⟩
 ·have h1:=JK ht (hk m (.inl rfl)) h0;have e0:wq t=([],(bk t).2.1,(bk t).2.2):=af h0;rw[e0];refine aR aB Tryz.func15 ?_
  ·simp only[go_sem];refine ab (h1.mono ?_);clear h1;rintro r H' m1 aN ⟨l1,rfl,rfl⟩;simp only[go_sem];refine⟨fun _=>⟨l1,none,0,0,rfl,(JA _),rfl⟩,fun h=>absurd h h0⟩
noncomputable def mF (t:List UInt8):Ex×Int×Int:=
 if(bk t).2.2=0 then(match lk (bk t).1 with
  | .error r=>(zE,wO t.length r,71)
  | .ok x=>if bD x.1=true then(if 24<bU x.1 then(zE,0,9) else(x.1,0,0)) else(zE,0,4))
 else(zE,(bk t).2.1,(bk t).2.2)
abbrev alR (x:Ex×Int×Int) (m:Mem):SV->Hp->Mem->Prop:=fun r H' m' =>ae m m' /\∃(y:Nd),r= .tup [.agg y.svs,.v (.int .i64 x.2.1),.v (.int .i64 x.2.2)]/\bw m' x.1 y.cs/\H' =⟨[],[]⟩
theorem BO (t:List UInt8) (m:Mem) (hg:GlobX m) (ht:t.length<=4611686018427387904):FnH Tryz.prog 13 [.v (.string (bs t))] ⟨[],[]⟩ m (alR (mF t) m):=by
 have hk:=fun m' (h:ae m m')=>HO t m' (hg.upM h) ht
 have hT:=JB t;have hl:=Aa t;have hz:∀m',bw m' zE (Nd.cs ⟨0,0,[],[],ai,none,0,0⟩):=fun m' =>uR ⟨by decide,by decide⟩ ⟨by decide,by decide⟩ (aD _) (aD _) gn
 by_cases h0:(bk t).2.2=0
 ·have h1:=JI ht (hk m (.inl rfl)) h0
  have e0:mF t=(match lk (bk t).1 with
   | .error r=>(zE,wO t.length r,71)
   | .ok x=>if bD x.1=true then(if 24<bU x.1 then(zE,0,9) else(x.1,0,0)) else(zE,0,4)):=ah h0
  have Hz:Inv (bk t).1 ⟨0,false,0⟩:=⟨aD _,fun h=>(by cases h)⟩;have hE:∀m' :Mem,FnH Tryz.prog 31 [.box 0 0,.v (.int .i64 0)] (pH (bk t).1 t.length ⟨0,false,0⟩) m' (gX (bk t).1 t.length ⟨0,false,0⟩ (dQ 0 (bk t).1) m'):=(uz hT Hz).expr 0 (by decide);refine aR aB Tryz.func13 ?_
  ·simp only[go_sem];refine ab (h1.mono ?_);clear h1;rintro r H' m1 aN ⟨l1,rfl,rfl⟩;simp only[go_sem];refine⟨fun h=>absurd trivial h,by kernel_rfl,bo ((hE m1).mono ?_)⟩;clear hE;rintro r H' m2 aH ⟨l2,x,e,s2,rfl,hx,rfl,hR⟩;have uo:=IP (en:=t.length) (s:=s2) hT m2;have Bg:=fun m' =>BN (bk t).1 t.length s2 m' hT.l8
   simp only[go_sem];by_cases hi:s2.i<(bk t).1.length
   ·rw[eH hi] at uo;have cP:Res (bk t).1 t.length ⟨0,false,0⟩ (lk (bk t).1) e (kF (bk t).1 t.length s2):=by
     refine aW hR ?_;rw[af (fun h=>by have:=congrArg List.length h;rw[dG] at this;simp at this;omega)];exact Fb _ hR.inv
    refine ab (uo.mono ?_);clear uo;rintro r H' m3 bI ⟨rfl,rfl,rfl⟩;simp only[go_sem];refine ab ((Bg m3).mono ?_);clear Bg;rintro r H' m4 cQ ⟨rfl,rfl,rfl⟩;simp only[go_sem];refine⟨fun hf=> ?_,fun hf=> ?_⟩
    ·refine bO (.hoist 0 (.hoist 1 (.hoist 2 (.hoist 3 (.hoist 4 (.alt 5 [4,3,2,1] (.hoist 6 (.hoist 7 .done)) .stop)))))) aB (by kernel_rfl) (by kernel_rfl) ?_;simp only[go_sem];have e1:mF t=(zE,(kF (bk t).1 t.length s2).off,71):=by
      cases hK:lk (bk t).1 with
      |ok p=>
       obtain⟨y,r⟩:=p;have:=(cP.ok rfl y r hK).2.1;rw[hf] at this;cases this
      |error r=>rw[e0,hK,(cP.er rfl r hK).2]
     rw[e1];exact⟨(aa l1 l2),⟨0,0,[],[],ai,none,0,0⟩,rfl,hz _,rfl⟩
    ·rw[B9] at hf;cases hf
   ·rw[dr hi] at uo;have oo:(bk t).1.drop s2.i=[]:=List.drop_eq_nil_of_le (by omega);have cP:Res (bk t).1 t.length ⟨0,false,0⟩ (lk (bk t).1) e s2:=by
     refine aW hR ?_;by_cases hf:s2.fl=true
     ·exact CD e hR.inv hf
     ·rw[ah oo,<- oo];exact cL _ hR.inv
    refine ab (uo.mono ?_);clear uo Bg;rintro r H' m3 bI ⟨e3,rfl,rfl⟩;have l3:ae m2 m3:= .inl e3.symm;simp only[go_sem];refine⟨fun hf=> ?_,fun hf=> ?_⟩
    ·refine bO (.hoist 0 (.hoist 1 (.hoist 2 (.hoist 3 (.hoist 4 (.alt 5 [4,3,2,1] (.hoist 6 (.hoist 7 .done)) .stop)))))) aB (by kernel_rfl) (by kernel_rfl) ?_;simp only[go_sem];have e1:mF t=(zE,(s2).off,71):=by
      cases hK:lk (bk t).1 with
      |ok p=>
       obtain⟨y,r⟩:=p;have:=(cP.ok rfl y r hK).2.1;rw[hf] at this;cases this
      |error r=>rw[e0,hK,(cP.er rfl r hK).2]
     rw[e1];exact⟨(aa l1 (aa l2 l3)),⟨0,0,[],[],ai,none,0,0⟩,rfl,hz _,rfl⟩
    ·have hK:lk (bk t).1= .ok (e,[]):=by
      cases hK:lk (bk t).1 with
      |error r=>
       have:=(cP.er rfl r hK).1;rw[hf] at this;cases this
      |ok p=>
       obtain⟨y,r⟩:=p;obtain⟨k1,k2,k3⟩:=cP.ok rfl y r hK;rw[k1,k3,oo]
     have akS:bU e<=aq:=by
      have h1:=abz (bk t).1;cases hE:dQ 0 (bk t).1 with
      |error r=>rw[lk,hE] at hK;cases hK
      |ok p=>
       obtain⟨y,r⟩:=p;obtain⟨k1,_,_⟩:=hR.ok rfl y r hE;have:=h1 y r hE;have:=xH e;rw[<- k1] at *;unfold aq;omega
     rw[hK] at e0;have hv:=aP (jb:=[.agg x.svs]) (qn _ e x.cs m3 (av _) (hg.upM (aa l1 (aa l2 l3))).1 (bq l3 hx)) (fun V=>rfl);refine ab (hv.mono ?_);clear hv;rintro r H' m4 cQ ⟨l4,rfl,rfl⟩;simp only[go_sem];refine⟨fun hv=> ?_,fun hv=> ?_⟩
     ·have e1:mF t=(zE,0,4):=by rw[e0];exact af (by rw[hv];decide)
      rw[e1];exact⟨aa (aa l1 (aa l2 l3)) l4,⟨0,0,[],[],ai,none,0,0⟩,rfl,hz _,rfl⟩
     ·have hd:=aP (jb:=[.agg x.svs]) (BS _ e x.cs m4 (av _) akS (bq (aa l3 l4) hx)) (fun V=>rfl);refine ab (hd.mono ?_);clear hd;rintro r H' m5 cK ⟨l5,rfl,rfl⟩;simp only[go_sem];have e1:mF t=if 24<bU e then(zE,0,9) else(e,0,0):=by rw[e0];exact ah hv
      refine⟨fun hd=> ?_,fun hd=> ?_⟩
      ·rw[e1,ah (by omega)];exact⟨aa (aa l1 (aa l2 l3)) (aa l4 l5),⟨0,0,[],[],ai,none,0,0⟩,rfl,hz _,rfl⟩
      ·rw[e1,af (by omega)];exact⟨aa (aa l1 (aa l2 l3)) (aa l4 l5),x,rfl,bq (aa l3 (aa l4 l5)) hx,rfl⟩
 ·have h1:=JK ht (hk m (.inl rfl)) h0;have e0:mF t=(zE,(bk t).2.1,(bk t).2.2):=af h0;rw[e0];refine aR aB Tryz.func13 ?_
  ·simp only[go_sem];refine ab (h1.mono ?_);clear h1;rintro r H' m1 aN ⟨l1,rfl,rfl⟩;simp only[go_sem];refine⟨fun _=>⟨l1,⟨0,0,[],[],ai,none,0,0⟩,rfl,hz _,rfl⟩,fun h=>absurd h h0⟩
def sT (t:Tk):Tk:=⟨t.k,t.s,t.n,0⟩
def sl (l:List Tk):List Tk:=l.map sT
def ms {α:Type}:PR α->PR α
 | .ok x=> .ok (x.1,sl x.2)
 | .error r=> .error (sl r)
theorem iv (l:List Tk):(sl l).tail=sl l.tail:=by cases l<;>rfl
theorem fJ (s:List UInt8) (l:List Tk):az s (sl l)=az s l:=by cases l<;>rfl
theorem F2 (l:List Tk):gR (sl l)=gR l:=by cases l<;>rfl
theorem yh (l:List Tk):j7 (sl l)=j7 l:=by cases l<;>rfl
theorem afp (l:List Tk):sW (sl l)=sW l:=by cases l<;>rfl
theorem Jp (l:List Tk):gp (sl l)=gp l:=by simp only[gp,F2,yh]
theorem Sj (l:List Tk):kj (sl l)=kj l:=by simp only[kj,F2,yh]
theorem adf (n:Nat) (l:List Tk):iJ n (sl l)=iJ n l:=by simp only[iJ,F2,yh]
theorem ad8 (l:List Tk):lE (sl l)=lE l:=by simp only[lE,fJ,iv,Jp]
theorem S3 (l:List Tk):(sl l).length=l.length:=List.length_map ..
theorem cB {α β:Type} {K:PR α} {k k' :α->List Tk->PR β} (h:∀x r,k x (sl r)=ms (k' x r)):an (ms K) k=ms (an K k'):=by
 cases K with
 |error r=>rfl
 |ok p=>exact h p.1 p.2
theorem iz {α:Type} {s:List UInt8} {l:List Tk} {k k' :List Tk->PR α} (h:k (sl l.tail)=ms (k' l.tail)):aV s (sl l) k=ms (aV s l k'):=by
 unfold aV;rw[fJ,iv];split
 ·exact h
 ·rfl
theorem dm {α:Type} {p:Prop} [Decidable p] {a b a' b' :PR α} (h1:a=ms a') (h2:b=ms b'):(if p then a else b)=ms (if p then a' else b'):=by
 split
 ·exact h1
 ·exact h2
theorem yj (l:List Tk):fz (sl l)=ms (fz l):=by
 unfold fz;rw[Jp,yh,iv];exact dm rfl rfl
theorem tF (l:List Tk):da (sl l)=ms (da l):=by
 unfold da;rw[Sj,yh,iv];exact dm rfl rfl
theorem SL (l:List Tk):jq (sl l)=ms (jq l):=by
 unfold jq;rw[fJ,fJ,iv,yj];exact dm rfl (dm rfl (cB fun x r=>rfl))
theorem SA:∀(f:Nat) (t:Ty) (l:List Tk),jK f t (sl l)=ms (jK f t l)
 |0,t,l=>rfl
 |f+1,t,l=>by
  rw[jK,jK,fJ,iv];exact dm (iz (by exact SA f _ _)) rfl
theorem Td:∀(f:Nat) (t:Ty) (l:List Tk),iK f t (sl l)=ms (iK f t l)
 |0,t,l=>rfl
 |f+1,t,l=>by
  rw[iK,iK,fJ,iv];exact dm (iz (by exact Td f _ _)) rfl
theorem An (l:List Tk):eY (sl l)=ms (eY l):=by
 unfold eY;rw[SL];exact cB fun t r=>by rw[S3];exact SA _ _ _
structure SlE (f:Nat):Prop where
 expr:∀n l,cC f n (sl l)=ms (cC f n l)
 loop:∀n e l,fT f n e (sl l)=ms (fT f n e l)
 unary:∀l,gT f (sl l)=ms (gT f l)
 post:∀e l,fZ f e (sl l)=ms (fZ f e l)
 args:∀l,gK f (sl l)=ms (gK f l)
 more:∀acc l,ki f acc (sl l)=ms (ki f acc l)
 paren:∀l,fk f (sl l)=ms (fk f l)
 operand:∀l,iu f (sl l)=ms (iu f l)
 key:∀l,jt f (sl l)=ms (jt f l)
theorem LQ:∀f,SlE f
 |0=>⟨fun _ _=>rfl,fun _ _ _=>rfl,fun _=>rfl,fun _ _=>rfl,fun _=>rfl,fun _ _=>rfl,fun _=>rfl,fun _=>rfl,fun _=>rfl⟩
 |f+1=>by
  have ih:=LQ f;refine⟨fun n l=> ?_,fun n e l=> ?_,fun l=> ?_,fun e l=> ?_,fun l=> ?_,fun acc l=> ?_,fun l=> ?_,fun l=> ?_,fun l=> ?_⟩
  ·rw[cC,cC,ih.unary,ih.expr];exact dm rfl (cB fun e r=>ih.loop _ _ _)
  ·rw[fT,fT,adf,fJ,fJ,yh,iv,ih.expr,An];exact dm (cB fun x r=>ih.loop _ _ _) (dm (cB fun t r=>ih.loop _ _ _) (dm (cB fun t r=>ih.loop _ _ _) rfl))
  ·rw[gT,gT,fJ,fJ,iv,ih.unary,ih.operand];exact dm (cB fun x r=>rfl) (dm (cB fun x r=>rfl) (cB fun e r=>ih.post _ _))
  ·rw[fZ,fZ,fJ,fJ,iv,tF,ih.expr];refine dm (cB fun s r=> ?_) (dm (cB fun i r=>iz (ih.post _ _)) rfl);rw[fJ,ih.args,ih.post];exact dm (cB fun es r2=>ih.post _ _) rfl
  ·rw[gK,gK];refine iz ?_;rw[fJ,iv,ih.expr];exact dm rfl (cB fun e r=>ih.more _ _)
  ·rw[ki,ki,fJ,iv,ih.expr];exact dm (cB fun e r=>ih.more _ _) (iz rfl)
  ·rw[fk,fk];refine iz ?_;rw[ih.expr];exact cB fun e r=>iz rfl
  ·rw[iu,iu,F2,afp,yh,Sj,Jp,fJ,iv,tF,yj,ih.paren,ih.key];refine dm rfl (dm rfl (dm rfl (dm (cB fun s r=>rfl) (dm (cB fun c r=>iz ?_) (dm rfl rfl)))));rw[tF];refine cB fun s r3=> ?_
   rw[fJ,ih.args];exact dm (cB fun es r4=>rfl) rfl
  ·rw[jt,jt];simp only[fJ,iv,SL,ih.paren];refine dm rfl (dm rfl (dm (iz ?_) (dm (cB fun t r=> ?_) (dm (cB fun e r=>rfl) (dm (cB fun e r=>rfl) (dm (cB fun e r=>rfl) rfl))))))
   ·rw[tF];refine cB fun s r2=> ?_
    rw[ih.args];exact cB fun es r3=>rfl
   ·rw[fJ,ih.args];refine dm (cB fun es r2=>rfl) (iz ?_);rw[S3,Td];refine cB fun t2 r3=> ?_
    rw[ih.expr];exact cB fun e r4=>iz rfl
structure SlS (f:Nat):Prop where
 block:∀l,dN f (sl l)=ms (dN f l)
 stmts:∀acc l,ka f acc (sl l)=ms (ka f acc l)
 stmt:∀l,gq f (sl l)=ms (gq f l)
theorem G4:∀f,SlS f
 |0=>⟨fun _=>rfl,fun _ _=>rfl,fun _=>rfl⟩
 |f+1=>by
  have ih:=G4 f;have ie:=LQ f;refine⟨fun l=> ?_,fun acc l=> ?_,fun l=> ?_⟩
  ·rw[dN,dN];exact iz (ih.stmts _ _)
  ·rw[ka,ka,fJ,iv,ih.stmt];exact dm rfl (cB fun s r=>ih.stmts _ _)
  ·rw[gq,gq];simp only[fJ,iv,ie.paren,ie.expr,ih.block,ie.args,An,ad8]
   refine dm (cB fun e r=> ?_) (dm (cB fun e r=> ?_) (dm (dm rfl (cB fun e r=>iz rfl)) (dm (cB fun e r=>iz rfl) (dm (cB fun b r=>iz (iz ?_)) (dm (cB fun e r=> ?_)
    (dm (cB fun b r=>rfl) (dm (cB fun es r=>iz rfl) (dm (cB fun t r=> ?_) (cB fun e r=> ?_)))))))))
   ·rw[ih.block];refine cB fun b r2=> ?_
    rw[fJ,iv,ih.block];exact dm (cB fun a r3=>rfl) rfl
   ·rw[ih.block];exact cB fun b r2=>rfl
   ·rw[An];refine cB fun t r4=> ?_
    rw[tF];refine cB fun s r5=>iz ?_
    rw[ih.block];exact cB fun a r7=>rfl
   ·rw[ih.block];exact cB fun b r2=>rfl
   ·rw[tF];refine cB fun s r2=>iz ?_
    rw[ie.expr];exact cB fun e r4=>iz rfl
   ·rw[fJ,iv,ie.expr];exact dm (cB fun x r2=>iz rfl) (iz rfl)
theorem FI:∀(q:List (Int×List UInt8)) (fl:Int) (l:List Tk),bN q fl (sl l)=((bN q fl l).1,sl (bN q fl l).2)
 |[],fl,l=>rfl
 |p::q,fl,l=>by
  rw[bN,bN,fJ,iv];split
  ·exact FI q _ _
  ·exact FI q _ _
theorem P8:∀(f:Nat) (acc:List Pc) (l:List Tk),jk f acc (sl l)=ms (jk f acc l)
 |0,_,_=>rfl
 |f+1,acc,l=>by
  rw[jk,jk,fJ,iv,An];refine dm (cB fun t r=> ?_) (iz rfl);rw[tF];exact cB fun s r2=>P8 f _ _
theorem ON (f:Nat) (l:List Tk):pC f (sl l)=ms (pC f l):=by
 unfold pC;refine iz ?_;rw[fJ,iv,An];refine dm rfl (cB fun t r=> ?_);rw[tF];exact cB fun s r3=>P8 f _ _
theorem Ry (f:Nat) (d:Cd) (fl:Int) (t:Ty) (s:List UInt8) (l:List Tk):oR f d fl t s (sl l)=ms (oR f d fl t s l):=by
 unfold oR;rw[ON];refine cB fun ps r=> ?_
 rw[fJ,iv,(G4 f).block];exact dm rfl (cB fun b r2=>rfl)
theorem Zn (f:Nat) (d:Cd) (fl:Int) (l:List Tk):lR f d fl (sl l)=ms (lR f d fl l):=by
 unfold lR;rw[fJ,fJ,fJ,iv,(G4 f).block,ON,tF,An];refine dm (cB fun b r=>rfl) (dm (cB fun ps r=> ?_) (dm (cB fun s r=>Ry _ _ _ _ _ _) (cB fun t r=> ?_)))
 ·rw[(G4 f).block];exact cB fun b r2=>rfl
 ·rw[tF];refine cB fun s r2=> ?_
  rw[fJ,iv,Ry];exact dm rfl rfl
theorem R8:∀(f:Nat) (d:Cd) (l:List Tk),gg f d (sl l)=ms (gg f d l)
 |0,_,_=>rfl
 |f+1,d,l=>by
  rw[gg,gg,fJ,iv,FI,Zn];exact dm rfl (cB fun e r=>R8 f _ _)
theorem Q3:∀(f:Nat) (acc:List (List UInt8)) (l:List Tk),ke f acc (sl l)=ms (ke f acc l)
 |0,_,_=>rfl
 |f+1,acc,l=>by
  rw[ke,ke,fJ,iv,yj];exact dm (cB fun s r=>Q3 f _ _) rfl
theorem Tx (f:Nat) (w:List UInt8) (l:List Tk):nI f w (sl l)=ms (nI f w l):=by
 unfold nI;rw[fJ,iv,yj];exact dm (cB fun s r=>Q3 f _ _) rfl
theorem adk (f:Nat) (l:List Tk):pT f (sl l)=ms (pT f l):=by
 unfold pT;simp only[FI,fJ,iv,yj];refine dm (cB fun n r=> ?_) (iz ?_)
 ·rw[Tx];exact cB fun is r2=>iz rfl
 ·rw[yj];refine cB fun n r2=>iz ?_
  rw[yj];refine cB fun sp r4=> ?_
  rw[Tx];exact cB fun is r5=>iz rfl
theorem RJ:∀(f:Nat) (acc:List Cd) (l:List Tk),la f acc (sl l)=ms (la f acc l)
 |0,_,_=>rfl
 |f+1,acc,l=>by
  have e:(sl l=[])=(l=[]):=by cases l<;>simp [sl]
  rw[la,la];simp only[e];refine dm rfl ?_;have hc:uA f (sl l)=ms (uA f l):=by
   unfold uA;rw[adk];exact cB fun d r=>R8 f _ _
  rw[hc];exact cB fun d r=>RJ f _ _
theorem To {α:Type} {g:Nat->PR α} {K:PR α} (h:bG g K):bG (fun f=>ms (g f)) (ms K):=by
 obtain⟨F,hF⟩:=h;exact⟨F,fun f hf=>by simp only[hF f hf]⟩
theorem abA {n:Nat} (hn:n<=10) (l:List Tk):dQ n (sl l)=ms (dQ n l):=by
 refine jF ?_;have:=To (rT hn l);simp only[<- (LQ _).expr] at this;exact this
theorem P5 (acc:List Cd) (l:List Tk):mJ acc (sl l)=ms (mJ acc l):=by
 refine jF ?_;have:=To (Gj acc l);simp only[<- RJ] at this;exact this
theorem Rt:∀{a b:List Tk},yl a b=true->sl a=sl b
 |[],[],_=>rfl
 |[],_::_,h=>by cases h
 |_::_,[],h=>by cases h
 |x::a,y::b,h=>by
  simp only[yl,aG,bu] at h;obtain⟨⟨⟨h1,h2⟩,h3⟩,h4⟩:=h;have ih:=Rt h4;show sT x::sl a=sT y::sl b;rw[ih,sT,sT,h1,h2,h3]
theorem RU (l:List Tk):lk (sl l)=ms (lk l):=by
 unfold lk;rw[abA (by decide)];refine cB fun e r=> ?_
 cases r with
 |nil=>rfl
 |cons a r=>rfl
theorem R4 {α:Type} {K K' :PR α} (h:ms K=ms K'):(∃r r',K= .error r/\K' = .error r')\/∃x r r',K= .ok (x,r)/\K' = .ok (x,r'):=by
 cases K with
 |error r=>
  cases K' with
  |error r' =>exact .inl ⟨r,r',rfl,rfl⟩
  |ok p=>cases h
 |ok p=>
  cases K' with
  |error r' =>cases h
  |ok p' =>
   obtain⟨x,r⟩:=p;obtain⟨x',r'⟩:=p';simp only[ms,Except.ok.injEq,Prod.mk.injEq] at h;obtain⟨rfl,_⟩:=h;exact .inr ⟨x,r,r',rfl,rfl⟩
section
variable {t:Tk} {a b:List Tk}
end
section
variable {t:Tk} {a b:List Tk}
end
theorem Sh {ts:List Tk} (hT:eF ox ts) (h:(ld ts).2=0):(bk (ld ts).1).2.2=0/\sl (bk (ld ts).1).1=sl ts:=by
 obtain⟨A8,e1,e2⟩:=abb (fun x hx=>(hT x hx).2) h;rw[e1];exact⟨rfl,Rt e2⟩
theorem canon {l:List Cd} (hw:∀d∈l,wY d) (hz:(l.map ea).sum<=1048576) (hf:(nK l).2=0):tq (nK l).1=(l,0,0):=by
 have hc:(ff [] l).2=0:=Classical.byContradiction fun h=>by rw[nK,af h] at hf;exact h hf
 rw[nK,ah hc] at hf ⊢;obtain⟨e1,e2⟩:=Sh (RH hw hz hc).2 hf;have h1:=Ke (Gj [] (mI l)) (RL l [] hw fun d hd=>(Fq hc d hd).1);have h2:ms (mJ [] (bk (ld (mI l)).1).1)=ms (mJ [] (mI l)):=by rw[<- P5,<- P5,e2]
 rw[h1] at h2;unfold tq;rw[ah e1];rcases R4 h2 with ⟨_,_,_,h⟩ |⟨x,r,r',e3,e4⟩
 ·cases h
 ·rw[e3];cases e4;show(if(ff [] ([]++l)).2=0 then([]++l,0,0) else([],0,(ff [] ([]++l)).2))=(l,0,0);rw[List.nil_append,ah hc]
theorem afQ {e:Ex} (hw:pd e) (hf:(lY e).2=0):mF (lY e).1=(e,0,0):=by
 unfold lY at hf ⊢;by_cases hv:bD e=true
 ·rw[ah hv] at hf ⊢;by_cases hd:24<bU e
  ·rw[ah hd] at hf;exact absurd hf (by decide)
  ·rw[af hd] at hf ⊢;obtain⟨e1,e2⟩:=Sh (J2 e hw) hf;have h1:=Ke (rT (by decide) (aC e++[])) (rR hv [] (ado 0));rw[List.append_nil] at h1;have h0:lk (aC e)= .ok (e,[]):=by unfold lk;rw[h1];rfl
   have h2:ms (lk (bk (ld (aC e)).1).1)=ms (lk (aC e)):=by rw[<- RU,<- RU,e2]
   rw[h0] at h2;unfold mF;rw[ah e1];rcases R4 h2 with ⟨_,_,_,h⟩ |⟨x,r,r',e3,e4⟩
   ·cases h
   ·rw[e3];cases e4;show(if bD e=true then(if 24<bU e then(zE,(0:Int),(9:Int)) else(e,0,0)) else(zE,0,4))=(e,0,0);rw[ah hv,af hd]
 ·rw[af hv] at hf;exact absurd hf (by decide)
theorem Af {α:Type} {g:Nat->PR α} {K:PR α} (F:Nat) (h:∀f,g (f+F)=K):jY g=K:=jF ⟨F,fun f hf=>by
 have:=h (f - F)
 rwa [Nat.sub_add_cancel hf] at this⟩
def w1:List UInt8:=[97,32,43,32,98,32,42,32,45,32,99]
def w2:List UInt8:=[120,32,105,115,32,65,32,61,61,32,49]
def w3:List UInt8:=[97,32,43]
def w4:List UInt8:=[97,32,43,32,41,32,98]
def w5:List UInt8:=[99,108,97,115,115,32,65,32,101,120,116,101,110,100,115,32,66]
def w6:List UInt8:=[49,32,61,32,50,32,59]
def loc (s:List UInt8):Ex:= .mk 6 0 s [] ai []
def v1:Ex:= .mk 16 0 [43] [] ai [loc [97],.mk 16 0 [42] [] ai [loc [98],.mk 15 0 [45] [] ai [loc [99]]]]
def v2:Ex:= .mk 16 0 [61,61] [] ai [.mk 18 0 [] [] ⟨0,76,[65]⟩ [loc [120]],.mk 1 1 [] [] ai []]
def t1:List Tk:=[⟨1,[97],0,0⟩,⟨6,[43],0,2⟩,⟨1,[98],0,4⟩,⟨6,[42],0,6⟩,⟨6,[45],0,8⟩,⟨1,[99],0,10⟩]
def t2:List Tk:=[⟨1,[120],0,0⟩,⟨2,[105,115],0,2⟩,⟨1,[65],0,5⟩,⟨6,[61,61],0,7⟩,⟨3,[],1,10⟩]
def t3:List Tk:=[⟨1,[97],0,0⟩,⟨6,[43],0,2⟩]
def t4:List Tk:=[⟨1,[97],0,0⟩,⟨6,[43],0,2⟩,⟨6,[41],0,4⟩,⟨1,[98],0,6⟩]
def t5:List Tk:=[⟨2,[99,108,97,115,115],0,0⟩,⟨1,[65],0,6⟩,⟨2,[101,120,116,101,110,100,115],0,8⟩,⟨1,[66],0,16⟩]
def t6:List Tk:=[⟨3,[],1,0⟩,⟨6,[61],0,2⟩,⟨3,[],2,4⟩,⟨6,[59],0,6⟩]
def s6:List St:=[.mk 2 [] ai (.mk 1 1 [] [] ai []) (.mk 1 2 [] [] ai []) [] []]
theorem tk1:bk w1=(t1,0,0):=by kernel_rfl
theorem tk2:bk w2=(t2,0,0):=by kernel_rfl
theorem tk3:bk w3=(t3,0,0):=by kernel_rfl
theorem tk4:bk w4=(t4,0,0):=by kernel_rfl
theorem tk5:bk w5=(t5,0,0):=by kernel_rfl
theorem tk6:bk w6=(t6,0,0):=by kernel_rfl
theorem kx1:dQ 0 t1= .ok (v1,[]):=Af 60 fun f=>by kernel_rfl
theorem kx2:dQ 0 t2= .ok (v2,[]):=Af 60 fun f=>by kernel_rfl
theorem kx3:dQ 0 t3= .error []:=Af 60 fun f=>by kernel_rfl
theorem kx4:dQ 0 t4= .error [⟨6,[41],0,4⟩,⟨1,[98],0,6⟩]:=Af 60 fun f=>by kernel_rfl
theorem kx5:mJ [] t5= .error []:=Af 60 fun f=>by kernel_rfl
theorem kx6:p6 [] t6= .ok (s6,[]):=Af 60 fun f=>by kernel_rfl
theorem aj4:mF w1=(v1,0,0):=by
 have hv:bD v1=true:=by kernel_rfl
 have hd:¬24<bU v1:=by rw[show bU v1=4 by kernel_rfl];decide
 unfold mF lk;rw[tk1,ah rfl];dsimp only;rw[kx1];simp only[an,ah,hv,af hd]
theorem aj3:mF w2=(v2,0,0):=by
 have hv:bD v2=true:=by kernel_rfl
 have hd:¬24<bU v2:=by rw[show bU v2=3 by kernel_rfl];decide
 unfold mF lk;rw[tk2,ah rfl];dsimp only;rw[kx2];simp only[an,ah,hv,af hd]
theorem aj2:mF w3=(zE,3,71):=by
 unfold mF lk;rw[tk3,ah rfl];dsimp only;rw[kx3];rfl
theorem aj1:mF w4=(zE,4,71):=by
 unfold mF lk;rw[tk4,ah rfl];dsimp only;rw[kx4];rfl
theorem aj0:tq w5=([],17,71):=by
 unfold tq;rw[tk5,ah rfl];dsimp only;rw[kx5];rfl
theorem ajZ:wq w6=([],0,4):=by
 have hc:(ff [] [qM s6]).2=4:=by kernel_rfl
 unfold wq;rw[tk6,ah rfl];dsimp only;rw[kx6];dsimp only;rw[hc];rfl
theorem BP {m:Mem} {k n:Int} {s c:List UInt8} {ty:Ty} {es:List Ex} {y:Nd} (h:bw m (.mk k n s c ty es) y.cs):∃(a:Option Addr) (cp:Nat) (xs:List Value),y.svs=Nd.svs ⟨k,n,s,c,ty,a,es.length,cp⟩/\y.cs=Nd.cs ⟨k,n,s,c,ty,a,es.length,cp⟩/\es.length<=cp/\aX m a es.length 8 xs/\dz m es xs:=by
 simp only[bw] at h;obtain⟨a,cp,xs,h1,h2,h3,h4,h5⟩:=h;refine⟨a,cp,xs,?_,h1,h2,h3,h5⟩;clear h3 h4 h5;simp only[Nd.cs,aJ,List.cons.injEq,Value.int.injEq,Value.string.injEq,Value.slice.injEq,true_and,and_true] at h1;obtain⟨e1,e2,e3,e4,e5,e6,e7,e8,e9,jg⟩:=h1;simp only[Nd.svs,e1,e2,e3,e4,e5,e6,e7,e8,e9,jg]
theorem JT {m:Mem} {e1 e2:Ex} {xs:List Value} (hl:xs.length=2 * 8) (h:dz m [e1,e2] xs):∃y1 y2:Nd,xs=y1.cs++y2.cs/\bw m e1 y1.cs/\bw m e2 y2.cs:=by
 simp only[dz,and_true] at h;obtain⟨y1,h1⟩:=mC h.1;obtain⟨y2,h2⟩:=mC h.2;have e:(xs.drop 8).take 8=xs.drop 8:=fj (by rw[dG];omega);refine⟨y1,y2,?_,by rw[<- h1];exact h.1,by rw[<- h2];exact h.2⟩;rw[<- h1,<- h2,e,List.take_append_drop]
theorem ack (m:Mem) (hg:GlobX m):FnH Tryz.prog 13 [.v (.string (bs w1))] ⟨[],[]⟩ m fun r H' m' =>ae m m' /\∃(a b d:Option Addr) (cp cq cr:Nat) (z1 u1:Nd),r= .tup [.agg (Nd.svs ⟨16,0,[43],[],ai,a,2,cp⟩),.v (.int .i64 0),.v (.int .i64 0)]/\
  aX m' a 2 8 (z1.cs++Nd.cs ⟨16,0,[42],[],ai,b,2,cq⟩)/\aX m' b 2 8 (u1.cs++Nd.cs ⟨15,0,[45],[],ai,d,1,cr⟩)/\H' =⟨[],[]⟩:=by
 have h:=BO w1 m hg (by decide);rw[aj4] at h;refine h.mono ?_;rintro r H' m' hm ⟨l1,y,rfl,hy,rfl⟩;obtain⟨a,cp,xs,ey,_,ba,hr,hs⟩:=BP hy;obtain⟨z1,z2,rfl,ud,vJ⟩:=JT hr.1 hs;obtain⟨b,cq,xs2,_,ez,xz,lL,uh⟩:=BP vJ;obtain⟨u1,u2,rfl,hu1,hu2⟩:=JT lL.1 uh;obtain⟨d,cr,tZ,_,eu,MA,hr3,hs3⟩:=BP hu2;rw[ez] at hr;rw[eu] at lL;exact⟨l1,a,b,d,cp,cq,cr,z1,u1,by rw[ey];rfl,hr,lL,rfl⟩
theorem acj (m:Mem) (hg:GlobX m):FnH Tryz.prog 13 [.v (.string (bs w2))] ⟨[],[]⟩ m fun r H' m' =>ae m m' /\∃(a b:Option Addr) (cp cq:Nat) (z2:Nd),r= .tup [.agg (Nd.svs ⟨16,0,[61,61],[],ai,a,2,cp⟩),.v (.int .i64 0),.v (.int .i64 0)]/\
  aX m' a 2 8 (Nd.cs ⟨18,0,[],[],⟨0,76,[65]⟩,b,1,cq⟩++z2.cs)/\H' =⟨[],[]⟩:=by
 have h:=BO w2 m hg (by decide);rw[aj3] at h;refine h.mono ?_;rintro r H' m' hm ⟨l1,y,rfl,hy,rfl⟩;obtain⟨a,cp,xs,ey,_,ba,hr,hs⟩:=BP hy;obtain⟨z1,z2,rfl,ud,vJ⟩:=JT hr.1 hs;obtain⟨b,cq,xs2,_,ez,xz,lL,uh⟩:=BP ud;rw[ez] at hr;exact⟨l1,a,b,cp,cq,z2,by rw[ey];rfl,hr,rfl⟩
theorem CE {m:Mem} {x:Value} {cs:List Value} (h:Rd m x cs):KB x:=by obtain⟨a,rfl,_⟩:=h;exact⟨a,rfl⟩
theorem XB (m:Mem) (hg:GlobX m):FnH Tryz.prog 9 [] ⟨[],[]⟩ m fun r H' m' =>ae m m' /\r= .v (.bool true)/\H' =⟨[],[]⟩:=by
 have h1:=fun m' (h:ae m m')=>ack m' (hg.upM h)
 have h2:=fun m' (h:ae m m')=>acj m' (hg.upM h)
 have h3:=fun m' (h:ae m m')=>BO w3 m' (hg.upM h) (by decide)
 have h4:=fun m' (h:ae m m')=>BO w4 m' (hg.upM h) (by decide)
 have h5:=fun m' (h:ae m m')=>OH w5 m' (hg.upM h) (by decide)
 have h6:=fun m' (h:ae m m')=>abX w6 m' (hg.upM h) (by decide)
 rw[aj2] at h3;rw[aj1] at h4;rw[aj0] at h5;rw[ajZ] at h6;refine aR aB Tryz.func9 ?_
 ·simp only[go_sem];refine ab ((h1 m (.inl rfl)).mono ?_);clear h1;rintro r H' m1 aN ⟨l1,a,b,d,cp,cq,cr,z1,u1,rfl,hr,lL,rfl⟩;simp only[go_sem];refine ab ((h2 m1 l1).mono ?_);clear h2;rintro r H' m2 aH ⟨l2,a',b',cp',cq',z2,rfl,hr3,rfl⟩;simp only[go_sem];refine ab ((h3 m2 (aa l1 l2)).mono ?_);clear h3;rintro r H' m3 bI ⟨l3,y3,rfl,xj,rfl⟩;simp only[go_sem];refine ab ((h4 m3 (aa (aa l1 l2) l3)).mono ?_);clear h4;rintro r H' m4 cQ ⟨l4,y4,rfl,hy4,rfl⟩;simp only[go_sem];refine ab ((h5 m4 (aa (aa (aa l1 l2) l3) l4)).mono ?_);clear h5;rintro r H' m5 cK ⟨l5,a5,n5,c5,rfl,hp5,rfl⟩;simp only[go_sem];refine ab ((h6 m5 (aa (aa (aa (aa l1 l2) l3) l4) l5)).mono ?_);clear h6;rintro r H' m6 ej ⟨l6,a6,n6,c6,rfl,hp6,rfl⟩;simp only[go_sem];have u1:ae m1 m6:=aa l2 (aa l3 (aa l4 (aa l5 l6)));have u2:ae m2 m6:=aa l3 (aa l4 (aa l5 l6));have hA:=dH (ay u1 hr) (i:=1) (by decide);have Ef:Rd m6 (cO a 8) (Nd.cs ⟨16,0,[42],[],ai,b,2,cq⟩):=hA.1;have V9:Rd m6 (wg (cO a 8) 7) [.slice b 2 cq]:=gU Ef 7 1 (by simp [Nd.cs]);have hA2:Rd m6 (wg (cO a 8) 2) [.string (bs [42])]:=gU Ef 2 1 (by simp [Nd.cs]);have hB:=dH (ay u1 lL) (i:=1) (by decide);have V8:Rd m6 (cO b 8) (Nd.cs ⟨15,0,[45],[],ai,d,1,cr⟩):=hB.1;have jR:Rd m6 (wg (cO b 8) 0) [.int .i64 15]:=gU V8 0 1 (by simp [Nd.cs]);have hC:=dH (ay u2 hr3) (i:=0) (by decide);have V7:Rd m6 (cO a' 0) (Nd.cs ⟨18,0,[],[],⟨0,76,[65]⟩,b',1,cq'⟩):=hC.1;have hC0:Rd m6 (wg (cO a' 0) 0) [.int .i64 18]:=gU V7 0 1 (by simp [Nd.cs]);refine⟨fun _=>⟨by decide,by decide,hA.2⟩,fun _=>CE Ef,.slice b 2 cq,fun _=>V9,?_⟩
  simp only[go_sem];refine⟨fun h=>(by simp at h),fun h=>⟨⟨by decide,by decide,hA.2⟩,CE Ef,.string (bs [42]),hA2,?_⟩⟩;simp only[go_sem];refine⟨⟨by decide,by decide,hA.2⟩,CE Ef,.slice b 2 cq,V9,?_⟩;simp only[go_sem];refine⟨⟨by decide,by decide,hB.2⟩,CE V8,.int .i64 15,jR,?_⟩;simp only[go_sem];refine⟨⟨by decide,by decide,hC.2⟩,CE V7,.int .i64 18,hC0,?_⟩;simp only[go_sem];exact aa l1 u1
theorem Ts:∀(s:List UInt8),(∀c∈s,c.toNat≠47)->Lib.indexByte s 47= -1
 |[],_=>rfl
 |b::l,h=>by
  have hb:(b==47)=false:=by
   rw[beq_eq_false_iff_ne];intro e;exact h b (b6 ..) (by rw[e];rfl)
  have ih:=Ts l fun c hc=>h c (bR _ hc)
  simp [Lib.indexByte,hb,ih]
theorem Tt:∀(s:List UInt8),(∃c∈s,c.toNat=47)->0<=Lib.indexByte s 47
 |[],h=>by obtain⟨c,hc,_⟩:=h;cases hc
 |b::l,h=>by
  unfold Lib.indexByte;split
  ·exact Int.le_refl _
  ·rename_i hb;have:∃c∈l,c.toNat=47:=by
    obtain⟨c,hc,he⟩:=h;rcases List.mem_cons.1 hc with rfl |hc
    ·exact absurd (beq_iff_eq.2 (UInt8.toNat_inj.1 (he.trans rfl))) hb
    ·exact⟨c,hc,he⟩
   have ih:=Tt l this;split
   ·rename_i h1;have:=eq_of_beq h1;omega
   ·omega
theorem acO {s:List UInt8} (h:∃c∈s,c.toNat=47):oO s=false:=by
 obtain⟨c,hc,he⟩:=h;cases s with
 |nil=>cases hc
 |cons b r=>
  rcases List.mem_cons.1 hc with rfl |hc
  ·simp [oO,dX,he]
  ·have:r.all rU=false:=by
    rw[List.all_eq_false];exact⟨c,hc,by simp [rU,dX,eI,he]⟩
   rw[oO,this,Bool.and_false]
theorem Yn (s:List UInt8):pQ s=(decide (s=eK)||decide (s=Ai)||(decide (s.length<=64)&&oO s)):=by
 rw[pQ,fK];by_cases h:∃c∈s,c.toNat=47
 ·have h1:=Tt s h;have h2:decide (Lib.indexByte s 47<0)=false:=dr (by omega);rw[acO h,h2,Bool.and_false,Bool.and_false]
 ·have h2:∀c∈s,c.toNat≠47:=fun c hc he=>h ⟨c,hc,he⟩
  rw[Ts s h2,R3 s h2];simp
theorem YY (s:List UInt8) (m:Mem) (hs:BL s):FnH Tryz.prog 213 [.v (.string (bs s))] ⟨[],[]⟩ m fun r H' _=>r= .v (.bool (pQ s))/\H' =⟨[],[]⟩:=by
 refine aR LZ Tryz.func213 ?_
 ·simp only[go_sem];rw[Yn];have e:decide ((s.length:Int)<=64)=decide (s.length<=64):=by rw[decide_eq_decide];omega
  rw[e];exact⟨fun _=>hs,rfl⟩
abbrev cfR:Cfg:=gL (fun _=>false) [(213,ft BL fun s=> .bool (pQ s)),(107,ft BL fun s=> .bool (dh s))]
theorem puR:dO cfR Tryz.prog:=pure_cons (by kernel_rfl) (fL YY) (pure_cons (by kernel_rfl) (fL Bu) pure_nil)
theorem H3 (s:List UInt8) (m:Mem) (hs:BL s):FnH Tryz.prog 163 [.v (.string (bs s))] ⟨[],[]⟩ m fun r H' _=>r= .v (.bool (du s))/\H' =⟨[],[]⟩:=by
 refine aR puR Tryz.func163 ?_
 ·simp only[go_sem];have e:∀u:UInt8,((u.toNat:Int)=60)=(u=60):=fun u=>propext ⟨fun h=>UInt8.toNat_inj.1 (by have:(60:UInt8).toNat=60:=rfl;omega),fun h=>by rw[h];rfl⟩
  simp only[e];refine⟨hs,fun h=>⟨by omega,by have:=QH h;omega⟩,fun _=>hs,fun h=>ab ((HN m).mono ?_),fun h=> ?_⟩
  ·rintro r H' m' hm ⟨rfl,rfl,rfl⟩;simp only[go_sem];refine⟨by kernel_rfl,fun a c m1 aN hc bW=>bo ((B8 gG s a 28 c m1 bW (by omega)).mono ?_)⟩;rintro r H' m' aH ⟨rfl,rfl⟩;have h1:=h.1.1;have h2:=h.1.2;have h3:=h.2;generalize hb:gG.contains s=kb
   simp only[go_sem];rw[du,h1,h3,hb,eH h2];rfl
  ·rw[du];rcases h with (h |h) |h
   ·simp [h]
   ·have:decide (s.getD 0 0≠60)=false:=by rw[h];rfl
    rw[this];simp
   ·simp [h]
abbrev alb:Cfg:=gL (fun _=>false) [(170,ft BL fun s=> .bool (fK s))]
theorem aj6:dO alb Tryz.prog:=pure_cons (by kernel_rfl) (fL Nf) pure_nil
theorem W4 (d b:Int) (s:List UInt8) (m:Mem) (hs:BL s):FnH Tryz.prog 214 [.v (.agg ⟨[.int .i64 d,.int .u8 b,.string (bs s)]⟩)] ⟨[],[]⟩ m fun r H' _=>r= .v (.bool (pA d b s))/\H' =⟨[],[]⟩:=by
 refine aR aj6 Tryz.func214 ?_
 ·simp only[go_sem];refine⟨fun h=>by simp only[pA,ah h],fun h=> ?_⟩;have h0:¬(d<0\/8<d):=fun h' =>h'.elim h.1 h.2
  simp only[pA,af h0];refine⟨fun h1=>⟨fun _=>by simp [h1],fun n=>absurd h1 n⟩,fun h1=>⟨fun h2=>by simp [h2],fun h2=>⟨fun h3=>by simp [h3,Bool.and_comm],fun h3=>⟨fun h4=>⟨hs,by simp [h4]⟩,fun h4=>by simp [h1,h2,h3,h4]⟩⟩⟩⟩
abbrev ala:Cfg:=gL (fun _=>false) [(214,sI pA),(107,ft BL fun s=> .bool (dh s))]
theorem aj5:dO ala Tryz.prog:=pure_cons (by kernel_rfl) (we W4) (pure_cons (by kernel_rfl) (fL Bu) pure_nil)
theorem HW (d b:Int) (s:List UInt8) (m:Mem) (hs:BL s):FnH Tryz.prog 164 [.v (.agg ⟨[.int .i64 d,.int .u8 b,.string (bs s)]⟩)] ⟨[],[]⟩ m fun r H' _=>r= .v (.bool (dD d b s))/\H' =⟨[],[]⟩:=by
 refine aR aj5 Tryz.func164 ?_
 ·simp only[go_sem];refine⟨hs,fun _=>hs,?_⟩;simp [dD]
theorem XO (s:List UInt8) (m:Mem) (_:BL s):FnH Tryz.prog 165 [.v (.string (bs s))] ⟨[],[]⟩ m fun r H' _=>r= .v (.bool (opsL.contains s))/\H' =⟨[],[]⟩:=by
 refine aR aB Tryz.func165 ?_
 ·simp only[go_sem];refine⟨by kernel_rfl,fun a c m1 hm hc hr=>bo ((B8 opsL s a 19 c m1 hr (by omega)).mono ?_)⟩;rintro r H' m' aH ⟨rfl,rfl⟩;generalize opsL.contains s=kb
  simp only[go_sem]
theorem W9 (s:List UInt8) (m:Mem) (hs:BL s):FnH Tryz.prog 162 [.v (.string (bs s))] ⟨[],[]⟩ m fun r H' _=>r= .v (.bool (nT s))/\H' =⟨[],[]⟩:=by
 refine aR qR Tryz.func162 ?_
 ·simp only[go_sem];refine dA qR (fun k:Nat=>⟨[⟨0,[],.v (.string (bs s))⟩,⟨3,[],.v (.int .i64 k)⟩],[],[],[],0,m⟩)
   (fun k=>k<=s.length/\(s.take k).all pI=true) (fun k=>s.length - k) 0 (fun _ _=>av _) (fun _ _=> .inl rfl) ?_ ?_ ?_
  ·simp only[go_sem];rfl
  ·simp
  ·rintro k ⟨hk,hp⟩;simp only[go_sem];refine⟨fun aw=> ?_,fun cg=> ?_⟩
   ·have cF:k<s.length:=by omega
    have hd:=drop_at cF;refine⟨⟨by omega,aw⟩,fun _=>⟨by omega,aw⟩,fun _=>⟨by omega,aw⟩,fun h=> ?_,fun h=>⟨by unfold aF;have:s.length<=4611686018427387904:=hs;omega,k+1,by omega,⟨by omega,?_⟩,by omega⟩⟩
    ·have hb:pI (s.getD k 0)=false:=by
      simp only[pI,Bool.or_eq_false_iff,Bool.and_eq_false_iff,decide_eq_false_iff_not];exact⟨by omega,by omega⟩
     have:s.all pI=false:=by
      rw[<- List.take_append_drop k s,List.all_append,hd,List.all_cons,hb];simp
     rw[nT,this,Bool.false_and]
    ·have hb:pI (s.getD k 0)=true:=by
      simp only[pI,Bool.or_eq_true,aG,bu];omega
     rw[List.take_succ_eq_append_getElem cF,List.all_append,hp,List.all_cons];have e:s.getD k 0=s[k]:=by rw[List.getD_eq_getElem?_getD,List.getElem?_eq_getElem cF];rfl
     rw[e] at hb;simp [hb]
   ·rw[fj (by omega)] at hp;rw[nT,hp,Bool.true_and,decide_eq_decide];omega
theorem Ty.eq_s (x:Ty):Ty.eq x x=true:=by simp [Ty.eq]
mutual
theorem oW:∀(e:Ex),iG e e=true
 | .mk k n s c ty args=>by rw[iG,Ty.eq_s,TR args];simp
theorem TR:∀(l:List Ex),lI l l=true
 |[]=>by simp only[lI]
 |e::r=>by rw[lI,oW e,TR r];rfl
end
mutual
theorem ahP:∀(e:St),dq e e=true
 | .mk k nm ty tg ex body alt=>by rw[dq,Ty.eq_s,oW,oW,oQ body,oQ alt];simp
theorem oQ:∀(l:List St),gv l l=true
 |[]=>by simp only[gv]
 |e::r=>by rw[gv,ahP e,oQ r];rfl
end
theorem rX (e:Ex):iG e zE=jn e:=by
 cases e with
 |mk k n s c ty args=>
  have:lI args []=decide (args.length=0):=by cases args<;>simp [lI]
  simp only[zE,iG,jn,jm,this];grind
theorem rE (l:List St):gv l []=decide (l.length=0):=by cases l<;>simp [gv]
def lA (nm:List UInt8) (ty:Ty) (t:Bool):Bool:=if t=true then dD ty.dim ty.base ty.name&&du nm else Ty.eq ty ai&&decide (nm=[])
def jj (nm:List UInt8) (ty:Ty) (tg:Ex) (body alt:List St) (t t2 a b:Bool):Bool:=
 lA nm ty t&&(t2||jn tg)&&(a||decide (body.length=0))&&(b||decide (alt.length=0))&&eE false body&&eE false alt
def iC (k:Int) (nm:List UInt8) (ty:Ty) (tg ex:Ex) (body alt:List St):Bool:=
 if k=1 then jj nm ty tg body alt true false false false&&bD ex
 else if k=2 then jj nm ty tg body alt false true false false&&bD ex&&bD tg&&(decide (tg.k=6)||decide (tg.k=7)||decide (tg.k=8)||decide (tg.k=9))
 else if k=3 then jj nm ty tg body alt false false false false&&bD ex&&(decide (ex.k=10)||decide (ex.k=11)||decide (ex.k=12)||decide (ex.k=13))
 else if k=4 then jj nm ty tg body alt false false true true&&bD ex
 else if k=5\/k=9 then jj nm ty tg body alt false false true false&&bD ex
 else if k=6 then jj nm ty tg body alt false false false false&&(jn ex||bD ex)
 else if k=7 then jj nm ty tg body alt false false false false&&bD ex
 else if k=8 then jj nm ty tg body alt true false true true&&jn ex
 else if k=10 then jj nm ty tg body alt false false true false&&jn ex
 else if k=11 then jj nm ty tg body alt false false false false&&np ex
 else false
theorem Ol (l:List St) (h:decide (l.length=0)=true) (b:Bool):eE b l=true:=by
 cases l with
 |nil=>simp [eE,b9]
 |cons a r=>simp at h
theorem S1 (k:Int) (nm:List UInt8) (ty:Ty) (tg ex:Ex) (body alt:List St):fv (.mk k nm ty tg ex body alt)=iC k nm ty tg ex body alt:=by
 have h1:=Ol body;have h2:=Ol alt;rw[fv];change (iB k nm ty tg ex (eE false body&&eE false alt)&&_)=_
 generalize hb:eE false body=b1
 generalize ha:eE false alt=b2
 by_cases k1:k=1
 ·subst k1;simp only[iC,iB,jV,jj,lA,if_true,dq,oW,rX,rE,oQ,Ty.eq_s,hb,ha,ao];grind
 by_cases k2:k=2
 ·subst k2;simp only[iC,iB,jV,jj,lA,if_true,if_false,Int.reduceEq,dq,oW,rX,rE,oQ,Ty.eq_s,hb,ha,ao,nj];grind
 by_cases k3:k=3
 ·subst k3;simp only[iC,iB,jV,jj,lA,if_true,if_false,or_false,Int.reduceEq,dq,oW,rX,rE,oQ,Ty.eq_s,hb,ha,ao,nC];grind
 by_cases k4:k=4
 ·subst k4;simp only[iC,iB,jV,jj,lA,if_true,if_false,or_false,true_or,Int.reduceEq,dq,oW,rX,rE,oQ,Ty.eq_s,hb,ha,ao];grind
 by_cases k5:k=5
 ·subst k5;simp only[iC,iB,jV,jj,lA,if_true,if_false,or_false,true_or,or_true,Int.reduceEq,dq,oW,rX,rE,oQ,Ty.eq_s,hb,ha,ao];grind
 by_cases k6:k=6
 ·subst k6;simp only[iC,iB,jV,jj,lA,if_true,if_false,or_false,true_or,or_true,Int.reduceEq,dq,oW,rX,rE,oQ,Ty.eq_s,hb,ha,ao];grind
 by_cases k7:k=7
 ·subst k7;simp only[iC,iB,jV,jj,lA,if_true,if_false,or_false,true_or,or_true,Int.reduceEq,dq,oW,rX,rE,oQ,Ty.eq_s,hb,ha,ao];grind
 by_cases k8:k=8
 ·subst k8;simp only[iC,iB,jV,jj,lA,if_true,if_false,or_false,true_or,or_true,Int.reduceEq,dq,oW,rX,rE,oQ,Ty.eq_s,hb,ha,ao];grind
 by_cases k9:k=9
 ·subst k9;simp only[iC,iB,jV,jj,lA,if_true,if_false,or_false,true_or,or_true,Int.reduceEq,dq,oW,rX,rE,oQ,Ty.eq_s,hb,ha,ao];grind
 by_cases k10:k=10
 ·subst k10;simp only[iC,iB,jV,jj,lA,if_true,if_false,or_false,true_or,or_true,Int.reduceEq,dq,oW,rX,rE,oQ,Ty.eq_s,hb,ha,ao];grind
 by_cases k11:k=11
 ·subst k11;simp only[iC,iB,jV,jj,lA,if_true,if_false,or_false,true_or,or_true,Int.reduceEq,dq,oW,rX,rE,oQ,Ty.eq_s,hb,ha,ao];grind
 simp only[iC,iB,k1,k2,k3,k4,k5,k6,k7,k8,k9,k10,k11,if_false,or_false,Bool.false_and]
def fM (u:List UInt8) (n:Int) (s c:List UInt8) (ty:Ty):Bool:=(u.contains 78||decide (n=0))&&(u.contains 83||decide (s=[]))&&(u.contains 67||decide (c=[]))&&(u.contains 84||Ty.eq ty ai)
def Gh (k n:Int) (s c:List UInt8) (ty:Ty) (l:Nat):Bool:=
 if k=1 then fM [78] n s c ty&&decide ((l:Int)=0)&&decide (0<=n)&&decide (n<2147483648)
 else if k=2 then fM [78] n s c ty&&decide ((l:Int)=0)&&decide (0<=n)
 else if k=3 then fM [83] n s c ty&&decide ((l:Int)=0)&&nT s
 else if k=4\/k=5 then fM [] n s c ty&&decide ((l:Int)=0)
 else if k=6 then fM [83] n s c ty&&decide ((l:Int)=0)&&du s
 else if k=7 then fM [83] n s c ty&&decide ((l:Int)=1)&&du s
 else if k=8 then fM [83,67] n s c ty&&decide ((l:Int)=0)&&du s&&dh c
 else if k=9 then fM [] n s c ty&&decide ((l:Int)=2)
 else if k=10 then fM [83] n s c ty&&decide (1<=(l:Int))&&decide ((l:Int)<=17)&&du s
 else if k=11 then fM [83,67] n s c ty&&decide ((l:Int)<=16)&&du s&&dh c
 else if k=12 then fM [83] n s c ty&&decide ((l:Int)<=16)&&du s
 else if k=13 then fM [67] n s c ty&&decide ((l:Int)<=16)&&dh c
 else if k=14 then fM [84] n s c ty&&decide ((l:Int)=1)&&dD ty.dim ty.base ty.name&&decide (ty.dim<8)
 else if k=15 then fM [83] n s c ty&&decide ((l:Int)=1)&&(decide (s=[45])||decide (s=[33]))
 else if k=16 then fM [83] n s c ty&&decide ((l:Int)=2)&&opsL.contains s
 else if k=17\/k=18 then fM [84] n s c ty&&decide ((l:Int)=1)&&dD ty.dim ty.base ty.name
 else if k=19\/k=20\/k=21 then fM [] n s c ty&&decide ((l:Int)=1)
 else false
theorem acY (k n:Int) (s c:List UInt8) (ty:Ty) (l:Nat):Gh k n s c ty l=mN k n s c ty.dim ty.base ty.name l:=by
 have h1:fM [78] n s c ty=(decide (s=[])&&decide (c=[])&&Ty.eq ty ai):=by simp [fM]
 have h2:fM [83] n s c ty=(decide (n=0)&&decide (c=[])&&Ty.eq ty ai):=by simp [fM]
 have h3:fM [] n s c ty=(decide (n=0)&&decide (s=[])&&decide (c=[])&&Ty.eq ty ai):=by simp [fM]
 have h4:fM [83,67] n s c ty=(decide (n=0)&&Ty.eq ty ai):=by simp [fM]
 have h5:fM [67] n s c ty=(decide (n=0)&&decide (s=[])&&Ty.eq ty ai):=by simp [fM]
 have h6:fM [84] n s c ty=(decide (n=0)&&decide (s=[])&&decide (c=[])):=by simp [fM]
 have ht:Ty.eq ty ai=(decide (ty.dim=0)&&(decide (ty.base=0)&&decide (ty.name=[]))):=rfl;by_cases hk:isKind k=true
 ·have fp:=kinds hk;rw[mN,hk];generalize hg1:nT s=g1
  generalize xt:opsL.contains s=g2
  generalize hg3:du s=g3
  generalize hg4:dh c=g4
  generalize hg5:dD ty.dim ty.base ty.name=g5
  rcases fp with rfl |rfl |rfl |rfl |rfl |rfl |rfl |rfl |rfl |rfl |rfl |rfl |rfl |rfl |rfl |rfl |rfl |rfl |rfl |rfl |rfl<;>
   simp only[Gh,eR,og,Int.reduceEq,if_true,if_false,or_true,or_false,true_or,false_or,h1,h2,h3,h4,h5,h6,hg1,xt,hg3,hg4,hg5,ht,Bool.false_eq_true,Bool.true_and]<;>grind
 ·rw[Bool.not_eq_true] at hk;rw[mN,hk];have:∀j:Int,1<=j->j<=21->¬k=j:=fun j h1 h2 h=>by rw[h] at hk;simp [isKind,h1,h2] at hk
  simp only[Gh,this 1 (by decide) (by decide),this 2 (by decide) (by decide),this 3 (by decide) (by decide),this 4 (by decide) (by decide),this 5 (by decide) (by decide),this 6 (by decide) (by decide),this 7 (by decide) (by decide),this 8 (by decide) (by decide),this 9 (by decide) (by decide),this 10 (by decide) (by decide),this 11 (by decide) (by decide),this 12 (by decide) (by decide),this 13 (by decide) (by decide),this 14 (by decide) (by decide),this 15 (by decide) (by decide),this 16 (by decide) (by decide),this 17 (by decide) (by decide),this 18 (by decide) (by decide),this 19 (by decide) (by decide),this 20 (by decide) (by decide),this 21 (by decide) (by decide),or_false,if_false,Bool.false_and]
theorem aam {u:List UInt8} {c:UInt8} {k:Nat} (h:k<u.length):(u.take (k+1)).contains c=((u.take k).contains c||decide (u.getD k 0=c)):=by
 have e:u.getD k 0=u[k]:=by rw[List.getD_eq_getElem?_getD,List.getElem?_eq_getElem h];rfl
 rw[List.take_succ_eq_append_getElem h,e];simp only[List.contains_eq_mem,List.mem_append,List.mem_singleton,Bool.decide_or,eq_comm]
theorem FR (d c:UInt8):decide (d=c)=decide ((d.toNat:Int)=(c.toNat:Int)):=by
 rw[decide_eq_decide];exact⟨fun e=>by rw[e],fun e=>UInt8.toNat_inj.1 (by omega)⟩
theorem ZJ (k n:Int) (s c:List UInt8) (ty:Ty) (sl:Value) (u:List UInt8) (m:Mem) (fG:sl.oneCell' =true) (hu:u.length<=4):
  FnH Tryz.prog 161 [.v (.agg ⟨aJ k n s c ty sl⟩),.v (.string (bs u))] ⟨[],[]⟩ m fun r H' _=>r= .v (.bool (fM u n s c ty))/\H' =⟨[],[]⟩:=by
 refine enter gY aB Tryz.func161 rfl rfl (by kernel_rfl) rfl ?_ ?_
 ·simp only[go_sem,aJ]
 ·simp only[go_sem,aJ];refine ew aB (fun k' :Nat=>⟨[⟨1,[],.v (.string (bs u))⟩,⟨2,[],.box 0 0⟩,⟨5,[],.v (.bool ((u.take k').contains 78))⟩,⟨6,[],.v (.bool ((u.take k').contains 83))⟩,⟨7,[],.v (.bool ((u.take k').contains 67))⟩,⟨8,[],.v (.bool ((u.take k').contains 84))⟩,⟨9,[],.v (.int .i64 k')⟩],[],[⟨0,33,(aJ k n s c ty sl).map .v⟩],[],1,m⟩)
   (fun k' =>k' <=u.length) (fun k' =>u.length - k') 0 (by kernel_rfl) (fun _ _=>av _) (fun _ _=> .inl rfl) (fun _=> ?_) ?_ ?_ ?_
  ·simp only[go_sem,aJ]
  ·simp only[go_sem,aJ];simp
  ·exact aD _
  ·intro k' hk;simp only[go_sem,aJ,qG];have hc:k' <u.length->∀c,(u.take (k' +1)).contains c=((u.take k').contains c||decide (u.getD k' 0=c)):=fun h c=>aam h
   generalize u.getD k' 0=d at hc ⊢
   have DJ:decide (d=78)=decide ((d.toNat:Int)=78):=FR d 78;have DI:decide (d=83)=decide ((d.toNat:Int)=83):=FR d 83;have DK:decide (d=67)=decide ((d.toNat:Int)=67):=FR d 67;have DH:decide (d=84)=decide ((d.toNat:Int)=84):=FR d 84;refine⟨fun aw=> ?_,fun cg=> ?_⟩
   ·have hc:=hc (by omega);exact⟨by omega,fun h1=>⟨by unfold aF;omega,k' +1,⟨by rw[hc,DJ];simp [h1],by rw[hc,DI];simp [h1],by rw[hc,DK];simp [h1],by rw[hc,DH];simp [h1],by simp⟩,by omega,by omega⟩,fun n1=>⟨fun h2=>⟨by unfold aF;omega,k' +1,⟨by rw[hc,DJ];simp [n1,h2],by rw[hc,DI];simp [n1,h2],by rw[hc,DK];simp [n1,h2],by rw[hc,DH];simp [n1,h2],by simp⟩,by omega,by omega⟩,fun n2=>⟨fun h3=>⟨by unfold aF;omega,k' +1,⟨by rw[hc,DJ];simp [n1,n2,h3],by rw[hc,DI];simp [n1,n2,h3],by rw[hc,DK];simp [n1,n2,h3],by rw[hc,DH];simp [n1,n2,h3],by simp⟩,by omega,by omega⟩,fun n3=>⟨fun h4=>⟨by unfold aF;omega,k' +1,⟨by rw[hc,DJ];simp [n1,n2,n3,h4],by rw[hc,DI];simp [n1,n2,n3,h4],by rw[hc,DK];simp [n1,n2,n3,h4],by rw[hc,DH];simp [n1,n2,n3,h4],by simp⟩,by omega,by omega⟩,fun n4=>⟨by unfold aF;omega,k' +1,⟨by rw[hc,DJ];simp [n1,n2,n3,n4],by rw[hc,DI];simp [n1,n2,n3,n4],by rw[hc,DK];simp [n1,n2,n3,n4],by rw[hc,DH];simp [n1,n2,n3,n4],by simp⟩,by omega,by omega⟩⟩⟩⟩⟩
   ·rw[fj (by omega)];rfl
def Ge:List Value->Option (Prop×Value)
 |[.agg ⟨[.int .i64 _,.int .i64 n,.string s,.string c,.int .i64 d,.int .u8 b,.string nm,sl]⟩,.string u]=>some (sl.oneCell' =true/\(tl u).length<=4,.bool (fM (tl u) n (tl s) (tl c) ⟨d,b,tl nm⟩))
 |_=>none
attribute [go_sem] Ge.eq_1
theorem aaI:qH Tryz.prog 161 Ge:=fun fy y hy hB m=>by
 unfold Ge at hy;split at hy
 ·rename_i k n s c d b nm sl u;cases hy;have:=ZJ k n (tl s) (tl c) ⟨d,b,tl nm⟩ sl (tl u) m hB.1 hB.2;simp only[aJ,kG] at this;exact this
 ·cases hy
abbrev Ej:Cfg:=gL (fun _=>false) [(161,Ge),(162,ft BL fun s=> .bool (nT s)),(163,ft BL fun s=> .bool (du s)),(107,ft BL fun s=> .bool (dh s)),(164,sI dD),(165,ft BL fun s=> .bool (opsL.contains s))]
theorem A9:dO Ej Tryz.prog:=pure_cons (by kernel_rfl) aaI (pure_cons (by kernel_rfl) (fL W9) (pure_cons (by kernel_rfl) (fL H3) (pure_cons (by kernel_rfl) (fL Bu) (pure_cons (by kernel_rfl) (we HW) (pure_cons (by kernel_rfl) (fL XO) pure_nil)))))
theorem acA (k n:Int) (s c:List UInt8) (ty:Ty) (a:Option Addr) (l cp:Nat) (m:Mem) (hs:BL s) (hc:BL c) (hn:BL ty.name) (hk:isKind k=true):
  FnH Tryz.prog 72 [.v (.agg ⟨aJ k n s c ty (.slice a l cp)⟩)] ⟨[],[]⟩ m fun r H' _=>r= .v (.bool (Gh k n s c ty l))/\H' =⟨[],[]⟩:=by
 rcases kinds hk with h |h |h |h |h |h |h |h |h |h |h |h |h |h |h |h |h |h |h |h |h<;>subst h<;>refine enter Ej A9 Tryz.func72 rfl rfl (by kernel_rfl) rfl (by simp only[go_sem,aJ]) ?_<;>
  simp only[go_sem,aJ,Int.reduceEq,ao,ar]
 all_goals first |rfl |exact⟨fun _=>hs,rfl⟩ |exact⟨fun _=>hc,rfl⟩ |exact⟨fun _=>hn,rfl⟩ |exact⟨fun _=>hs,fun _=>hc,rfl⟩
theorem aav (k n:Int) (s c:List UInt8) (ty:Ty) (a:Option Addr) (l cp:Nat) (m:Mem) (e:∀j:Int,1<=j->j<=21->(k=j)=False):
  FnH Tryz.prog 72 [.v (.agg ⟨aJ k n s c ty (.slice a l cp)⟩)] ⟨[],[]⟩ m fun r H' _=>r= .v (.bool false)/\H' =⟨[],[]⟩:=by
 have e1:=e 1 (by decide) (by decide);have e2:=e 2 (by decide) (by decide);have e3:=e 3 (by decide) (by decide);have e4:=e 4 (by decide) (by decide);have e5:=e 5 (by decide) (by decide);have e6:=e 6 (by decide) (by decide);have e7:=e 7 (by decide) (by decide);have e8:=e 8 (by decide) (by decide);have e9:=e 9 (by decide) (by decide);have jg:=e 10 (by decide) (by decide);have mq:=e 11 (by decide) (by decide);have MY:=e 12 (by decide) (by decide);have MX:=e 13 (by decide) (by decide);have MW:=e 14 (by decide) (by decide);have MV:=e 15 (by decide) (by decide);have MU:=e 16 (by decide) (by decide);have MS:=e 17 (by decide) (by decide);have MR:=e 18 (by decide) (by decide);have MQ:=e 19 (by decide) (by decide);have MP:=e 20 (by decide) (by decide);have MO:=e 21 (by decide) (by decide);refine enter Ej A9 Tryz.func72 rfl rfl (by kernel_rfl) rfl ?_ ?_
 ·simp only[go_sem,aJ]
 ·simp only[go_sem,aJ,e1,e2,e3,e4,e5,e6,e7,e8,e9,jg,mq,MY,MX,MW,MV,MU,MS,MR,MQ,MP,MO,ar]
theorem XP (k n:Int) (s c:List UInt8) (ty:Ty) (a:Option Addr) (l cp:Nat) (m:Mem) (hs:BL s) (hc:BL c) (hn:BL ty.name):
  FnH Tryz.prog 72 [.v (.agg ⟨aJ k n s c ty (.slice a l cp)⟩)] ⟨[],[]⟩ m fun r H' _=>r= .v (.bool (mN k n s c ty.dim ty.base ty.name l))/\H' =⟨[],[]⟩:=by
 by_cases hk:isKind k=true
 ·rw[<- acY];exact acA k n s c ty a l cp m hs hc hn hk
 ·rw[Bool.not_eq_true] at hk;have e0:mN k n s c ty.dim ty.base ty.name l=false:=by rw[mN,hk];rfl
  rw[e0];exact aav k n s c ty a l cp m fun j h1 h2=>eq_false fun h=>by rw[h] at hk;simp [isKind,h1,h2] at hk
theorem HR:∀{l:List Ex} {i:Nat} (hi:i<l.length),gl (l.take (i+1))=(gl (l.take i)&&bD l[i])
 |[],_,hi=>absurd hi (Nat.not_lt_zero _)
 |e::r,0,_=>by simp [gl]
 |e::r,i+1,hi=>by
  have:=HR (l:=r) (i:=i) (by simpa using hi);simp only[List.take_succ_cons,gl,this,List.getElem_cons_succ,Bool.and_assoc]
theorem NI {l:List Ex} {i:Nat} (hi:i<l.length) (h:bD l[i]=false):gl l=false:=by
 cases hv:gl l with
 |false=>rfl
 |true=>rw[xG hv _ (List.getElem_mem hi)] at h;cases h
theorem By:∀(h:Nat) (e:Ex) (cs:List Value) (m:Mem),bU e<=h->bw m e cs->aK 36 [.v (.agg ⟨cs⟩)] m (.bool (bD e))
 |0,.mk k n s c ty args,cs,m,hd,_=>by simp [bU] at hd
 |h+1,.mk k n s c ty args,cs,m,hd,he=>by
  simp only[bw] at he;obtain⟨a,cp,xs,rfl,ba,hr,au,eo⟩:=he;have hn:=au.2.2.2.2.2;simp only[bU] at hd;have hN:=fun m' =>XP k n s c ty a args.length cp m' (cX au.2.2.1 (by decide)) (cX au.2.2.2.1 (by decide)) (cX au.2.2.2.2.1.2.2 (by decide))
  refine enter gY aB Tryz.func36 rfl rfl (by kernel_rfl) rfl ?_ ?_
  ·simp only[go_sem,aJ]
  ·simp only[go_sem,aJ];refine ew aB (fun x:Nat×Mem=>⟨[⟨1,[],.box 0 0⟩,⟨3,[],.v (.int .i64 x.1)⟩],[],[⟨0,33,(aJ k n s c ty (.slice a args.length cp)).map .v⟩],[],1,x.2⟩)
    (fun x=>ae m x.2/\x.1<=args.length/\gl (args.take x.1)=true) (fun x=>args.length - x.1) (0,m) (by kernel_rfl) (fun _ _=>av _) (fun x hx=>hx.1) (fun _=> ?_) ?_ ?_ ?_
   ·simp only[go_sem,aJ]
   ·simp only[go_sem,aJ];rfl
   ·exact⟨.inl rfl,aD _,by simp [gl]⟩
   ·rintro⟨i,mm⟩ ⟨h1,h2,h3⟩;simp only at h1 h2 h3;have hx:∀(hi:i<args.length),∃x:Nd,Rd mm (cO a (i * 8)) x.cs/\a≠none/\aK 36 [.v (.agg ⟨x.cs⟩)] mm (.bool (bD args[i])):=fun hi=>by
     have aT:=bq h1 (rQ eo hi);obtain⟨x,hx⟩:=mC aT;have bW:=dH (ay h1 hr) hi;rw[hx] at aT bW;exact⟨x,bW.1,bW.2,By h args[i] x.cs mm (by have:=zQ hi;omega) aT⟩
    simp only[go_sem,aJ];refine⟨fun aw=> ?_,fun cg=> ?_⟩
    ·clear hN;refine Exists.elim (hx (by clear hx;omega)) fun x bP=>⟨⟨by clear hx bP;omega,aw,bP.2.1⟩,x.cs,⟨bP.1,rfl⟩,?_⟩
     clear hx;have ha:=bP.2.2;simp only[go_sem,Nd.cs,aJ];refine ab ((aP ha (fun V=>rfl)).mono ?_);clear bP ha;rintro r H' m2 aH ⟨aY,rfl,rfl⟩;simp only[go_sem,aJ];have hi:i<args.length:=by omega
     refine⟨fun hv=>⟨aa h1 aY,?_⟩,fun hv=>⟨by unfold aF;simp only[aq] at hn;omega,(i+1,m2),⟨by simp,.inl rfl⟩,⟨aa h1 aY,by simp only;omega,?_⟩,by simp only;omega⟩⟩
     ·rw[bD,NI hi hv,Bool.and_false]
     ·simp only;rw[HR hi,h3,hv];rfl
    ·clear hx;refine ab ((aP (hN mm) (fun V=>rfl)).mono ?_);clear hN;rintro r H' m2 aH ⟨rfl,rfl⟩;simp only[go_sem];refine⟨aa h1 (.inr aH),?_⟩;rw[fj (by omega)] at h3;rw[bD,h3,Bool.and_true]
theorem EI:∀(h:Nat) (e:Ex) (cs:List Value) (m:Mem),bU e<=h->h<=aq->bw m e cs->aK 37 [.v (.agg ⟨cs⟩)] m (.int .i64 (bU e))
 |0,.mk k n s c ty args,cs,m,hd,_,_=>by simp [bU] at hd
 |h+1,.mk k n s c ty args,cs,m,hd,hb,he=>by
  simp only[bw] at he;obtain⟨a,cp,xs,rfl,ba,hr,au,eo⟩:=he;have hn:=au.2.2.2.2.2;simp only[bU] at hd;refine enter gY aB Tryz.func37 rfl rfl (by kernel_rfl) rfl ?_ ?_
  ·simp only[go_sem,aJ]
  ·simp only[go_sem,aJ];refine ew aB (fun x:Nat×Mem=>⟨[⟨1,[],.box 0 0⟩,⟨3,[],.v (.int .i64 (kW (args.take x.1)))⟩,⟨4,[],.v (.int .i64 x.1)⟩],[],[⟨0,33,(aJ k n s c ty (.slice a args.length cp)).map .v⟩],[],1,x.2⟩)
    (fun x=>ae m x.2/\x.1<=args.length) (fun x=>args.length - x.1) (0,m) (by kernel_rfl) (fun _ _=>av _) (fun x hx=>hx.1) (fun _=> ?_) ?_ ?_ ?_
   ·simp only[go_sem,aJ]
   ·simp only[go_sem,aJ];exact⟨rfl,rfl⟩
   ·exact⟨.inl rfl,aD _⟩
   ·rintro⟨i,mm⟩ ⟨h1,h2⟩;simp only at h1 h2;have hx:∀(hi:i<args.length),∃x:Nd,Rd mm (cO a (i * 8)) x.cs/\a≠none/\aK 37 [.v (.agg ⟨x.cs⟩)] mm (.int .i64 (bU args[i])):=fun hi=>by
     have aT:=bq h1 (rQ eo hi);obtain⟨x,hx⟩:=mC aT;have bW:=dH (ay h1 hr) hi;rw[hx] at aT bW;exact⟨x,bW.1,bW.2,EI h args[i] x.cs mm (by have:=zQ hi;omega) (by omega) aT⟩
    simp only[go_sem,aJ];refine⟨fun aw=> ?_,fun cg=> ?_⟩
    ·refine Exists.elim (hx (by clear hx;omega)) fun x bP=>⟨⟨by clear hx bP;omega,aw,bP.2.1⟩,x.cs,⟨bP.1,rfl⟩,?_⟩
     clear hx;have ha:=bP.2.2;simp only[go_sem,Nd.cs,aJ];refine ab ((aP ha (fun V=>rfl)).mono ?_);clear bP ha;rintro r H' m2 aH ⟨aY,rfl,rfl⟩;simp only[go_sem,aJ];have hi:i<args.length:=by omega
     have lx:=EN hi;refine⟨by unfold aF;simp only[aq] at hn;omega,(i+1,m2),⟨⟨?_,by simp⟩,.inl rfl⟩,⟨aa h1 aY,by simp only;omega⟩,by simp only;omega⟩;simp only;rw[lx];split<;>omega
    ·clear hx;have:args.take i=args:=fj (by omega);rw[this];simp only[bU];exact⟨by unfold aF;simp only[aq] at hb;omega,h1,by omega⟩
theorem Uy (n:Int) (s c:List UInt8) (ty:Ty):fM [] n s c ty=(decide (n=0)&&decide (s=[])&&decide (c=[])&&Ty.eq ty ai):=by simp [fM]
theorem zero_eq (k n:Int) (s c:List UInt8) (ty:Ty) (l:Nat):(decide (k=0)&&fM [] n s c ty&&decide ((l:Int)=0))=jm k n s c ty l:=by
 rw[Uy,jm];grind
theorem aap (k n:Int) (s c:List UInt8) (ty:Ty) (l:Nat):(decide (k=0)&&fM [] n s c ty&&decide ((l:Int)<=16))=(jm k n s c ty 0&&decide (l<=16)):=by
 rw[Uy,jm];grind
theorem XN (k n:Int) (s c:List UInt8) (ty:Ty) (a:Option Addr) (l cp:Nat) (m:Mem):FnH Tryz.prog 215 [.v (.agg ⟨aJ k n s c ty (.slice a l cp)⟩)] ⟨[],[]⟩ m fun r H' _=>r= .v (.bool (jm k n s c ty l))/\H' =⟨[],[]⟩:=by
 refine enter Ej A9 Tryz.func215 rfl rfl (by kernel_rfl) rfl ?_ ?_
 ·simp only[go_sem,aJ]
 ·simp only[go_sem,aJ];exact zero_eq k n s c ty l
def CY:List Value->Option (Prop×Value)
 |[.agg ⟨[.int .i64 k,.int .i64 n,.string s,.string c,.int .i64 d,.int .u8 b,.string nm,.slice _ l _]⟩]=>some (True,.bool (jm k n (tl s) (tl c) ⟨d,b,tl nm⟩ l))
 |_=>none
attribute [go_sem] CY.eq_1
theorem P3:qH Tryz.prog 215 CY:=fun fy y hy _ m=>by
 unfold CY at hy;split at hy
 ·rename_i k n s c d b nm a l cp;cases hy;have:=XN k n (tl s) (tl c) ⟨d,b,tl nm⟩ a l cp m;simp only[aJ,kG] at this;exact this
 ·cases hy
theorem W5 (k:Int) (nm:List UInt8) (ty:Ty) (c5 c6 c7 c8 c9 mw rs c12 pw pv nP rr rq rn rm c20 c21 lz:Value) (t:Bool) (m:Mem) (h1:BL nm) (h2:BL ty.name):
  FnH Tryz.prog 243 [.v (.agg ⟨[.int .i64 k,.string (bs nm),.int .i64 ty.dim,.int .u8 ty.base,.string (bs ty.name),c5,c6,c7,c8,c9,mw,rs,c12,pw,pv,nP,rr,rq,rn,rm,c20,c21,lz]⟩),.v (.bool t)] ⟨[],[]⟩ m fun r H' _=>r= .v (.bool (lA nm ty t))/\H' =⟨[],[]⟩:=by
 refine aR A9 Tryz.func243 ?_
 ·simp only[go_sem,qG];exact⟨fun h=>⟨h2,fun _=>h1,by rw[lA,ah h]⟩,fun h=>by rw[lA,af (by simp [h])];rfl⟩
def FX:List Value->Option (Prop×Value)
 |[.agg ⟨[.int .i64 _,.string s,.int .i64 d,.int .u8 b,.string nm,_,_,_,_,_,_,_,_,_,_,_,_,_,_,_,_,_,_]⟩,.bool t]=>some (BL (tl s)/\BL (tl nm),.bool (lA (tl s) ⟨d,b,tl nm⟩ t))
 |_=>none
attribute [go_sem] FX.eq_1
theorem Y9:qH Tryz.prog 243 FX:=fun fy y hy hB m=>by
 unfold FX at hy;split at hy
 ·rename_i k s d b nm c5 c6 c7 c8 c9 mw rs c12 pw pv nP rr rq rn rm c20 c21 lz t;cases hy;have:=W5 k (tl s) ⟨d,b,tl nm⟩ c5 c6 c7 c8 c9 mw rs c12 pw pv nP rr rq rn rm c20 c21 lz t m hB.1 hB.2;simp only[kG] at this;exact this
 ·cases hy
abbrev pt:Cfg:=gL (fun _=>false) [(215,CY),(243,FX)]
theorem qd:dO pt Tryz.prog:=pure_cons (by kernel_rfl) P3 (pure_cons (by kernel_rfl) Y9 pure_nil)
theorem XS (e:Ex) (cs:List Value) (m:Mem) (he:bw m e cs):aK 219 [.v (.agg ⟨cs⟩)] m (.bool (np e)):=by
 cases e with
 |mk k n s c ty args=>
  simp only[bw] at he;obtain⟨a,cp,xs,rfl,ba,hr,au,eo⟩:=he;have hn:=au.2.2.2.2.2;refine enter Ej A9 Tryz.func219 rfl rfl (by kernel_rfl) rfl ?_ ?_
  ·simp only[go_sem,aJ]
  ·simp only[go_sem,aJ];refine ew A9 (fun x:Nat×Mem=>⟨[⟨1,[],.box 0 0⟩,⟨3,[],.v (.int .i64 x.1)⟩],[],[⟨0,33,(aJ k n s c ty (.slice a args.length cp)).map .v⟩],[],1,x.2⟩)
    (fun x=>ae m x.2/\x.1<=args.length/\gl (args.take x.1)=true) (fun x=>args.length - x.1) (0,m) (by kernel_rfl) (fun _ _=>av _) (fun x hx=>hx.1) (fun _=> ?_) ?_ ?_ ?_
   ·simp only[go_sem,aJ]
   ·simp only[go_sem,aJ];rfl
   ·exact⟨.inl rfl,aD _,by simp [gl]⟩
   ·rintro⟨i,mm⟩ ⟨h1,h2,h3⟩;simp only at h1 h2 h3;have hx:∀(hi:i<args.length),∃x:Nd,Rd mm (cO a (i * 8)) x.cs/\a≠none/\aK 36 [.v (.agg ⟨x.cs⟩)] mm (.bool (bD args[i])):=fun hi=>by
     have aT:=bq h1 (rQ eo hi);obtain⟨x,hx⟩:=mC aT;have bW:=dH (ay h1 hr) hi;rw[hx] at aT bW;exact⟨x,bW.1,bW.2,By _ args[i] x.cs mm (av _) aT⟩
    simp only[go_sem,aJ];refine⟨fun aw=> ?_,fun cg=> ?_⟩
    ·refine Exists.elim (hx (by clear hx;omega)) fun x bP=>⟨⟨by clear hx bP;omega,aw,bP.2.1⟩,x.cs,⟨bP.1,rfl⟩,?_⟩
     clear hx;have ha:=bP.2.2;simp only[go_sem,Nd.cs,aJ];refine ab ((aP ha (fun V=>rfl)).mono ?_);clear bP ha;rintro r H' m2 aH ⟨aY,rfl,rfl⟩;simp only[go_sem,aJ];have hi:i<args.length:=by omega
     refine⟨fun hv=>⟨aa h1 aY,?_⟩,fun hv=>⟨by unfold aF;simp only[aq] at hn;omega,(i+1,m2),⟨by simp,.inl rfl⟩,⟨aa h1 aY,by simp only;omega,?_⟩,by simp only;omega⟩⟩
     ·rw[np,NI hi hv,Bool.and_false]
     ·simp only;rw[HR hi,h3,hv];rfl
    ·clear hx;rw[fj (by omega)] at h3;refine⟨h1,?_⟩;rw[np,h3,Bool.and_true];exact aap k n s c ty args.length
theorem H4 (sup:Bool) (l:List St) (a:Option Addr) (n c:Nat) (xs:List Value) (m:Mem) (hl:n=l.length) (hr:aX m a n 23 xs) (hs:bS m l xs) (hn:n<=aq)
  (hV:∀e∈l,∀cs m',ae m m' ->eX m' e cs->aK 172 [.v (.agg ⟨cs⟩)] m' (.bool (fv e))):
  aK 108 [.v (.slice a n c),.v (.bool sup)] m (.bool (eE sup l)):=by
 refine aR aB Tryz.func108 ?_
 ·simp only[go_sem];refine dA aB (fun x:Nat×Mem=>⟨[⟨0,[],.v (.slice a n c)⟩,⟨1,[],.v (.bool sup)⟩,⟨5,[],.v (.int .i64 x.1)⟩],[],[],[],0,x.2⟩)
    (fun x=>ae m x.2/\x.1<=n/\b9 sup (l.take x.1)=true) (fun x=>n - x.1) (0,m) (fun _ _=>av _) (fun x hx=>hx.1) ?_ ?_ ?_
  ·simp only[go_sem];rfl
  ·exact⟨.inl rfl,aD _,by simp [b9]⟩
  ·rintro⟨k,mm⟩ ⟨h1,h2,h3⟩;simp only at h1 h2 h3;have hy:∀(hk:k<l.length),∃X:Sd,(Rd mm (cO a (k * 23)) X.cs/\a≠none)/\X.k=l[k].k/\aK 172 [.v (.agg ⟨X.cs⟩)] mm (.bool (fv l[k])):=fun hk=>by
    have aT:=td h1 (qw hs hk);have Mr:∃X:Sd,(xs.drop (k * 23)).take 23=X.cs/\X.k=l[k].k:=by
     cases lO:l[k] with
     |mk k' nm ty tg ex body alt=>
      rw[lO] at aT;obtain⟨X,e1,e2,_⟩:=rB aT;exact⟨X,e1,e2⟩
    obtain⟨X,e1,e2⟩:=Mr;have r1:=dH (ay h1 hr) (by omega:k<n);rw[e1] at r1 aT;exact⟨X,r1,e2,hV _ (List.getElem_mem hk) _ _ h1 aT⟩
   clear hV;simp only[go_sem];refine⟨fun aw=> ?_,fun cg=>⟨h1,?_⟩⟩
   ·have hk:k<l.length:=by clear hy;omega
    refine Exists.elim (hy hk) fun X bt=>⟨⟨by clear hy bt;omega,aw,bt.1.2⟩,iZ bt.1.1,.int .i64 X.k,gU bt.1.1 0 1 (dC rfl),?_⟩
    clear hy;have iR:=bt.2.1;have ha:=bt.2.2;have Hj:=bt.1.1;have hrn:=bt.1.2;clear bt;simp only[go_sem,Sd.cs,Nd.cs];refine⟨fun _=>⟨by omega,aw,hrn⟩,X.cs,fun _=>⟨Hj,rfl⟩,fun hc=>ab (ha.mono ?_),fun hc=>⟨h1,?_⟩⟩
    ·clear ha;have hb:o9 sup k l[k]=fv l[k]:=by
      rw[iR] at hc;rcases hc with hc |hc
      ·simp [o9,hc]
      ·have:k=0:=by omega
       simp [o9,hc.1,this]
     rintro r H' m2 aH ⟨aY,rfl,rfl⟩;simp only[go_sem];refine⟨fun hv=>⟨aa h1 aY,?_⟩,fun hv=>⟨by unfold aF;simp only[aq] at hn;omega,(k+1,m2),⟨by simp,.inl rfl⟩,⟨aa h1 aY,by simp only;omega,?_⟩,by simp only;omega⟩⟩
     ·rw[eE,ED hk (by rw[hb];exact hv),Bool.and_false]
     ·simp only;rw[Es hk,h3,hb,hv];rfl
    ·clear ha;rw[iR] at hc;rw[eE,ED hk,Bool.and_false];rcases hc.2 with h0 |h0
     ·simp [o9,hc.1,h0]
     ·have:¬k=0:=by omega
      simp [o9,hc.1,this]
   ·clear hy;rw[fj (by omega)] at h3;rw[eE,h3,Bool.and_true,decide_eq_decide];omega
theorem W8 (X:Sd) (tg ex:Ex) (body alt:List St) (t t2 b1 b2:Bool) (m:Mem) (h1:BL X.name) (h2:BL X.ty.name) (dn:bw m tg X.tg.cs) (hl:X.l=body.length) (ct:X.l2=alt.length)
  (hB:∀m',ae m m' ->aK 108 [.v (.slice X.a X.l X.cp),.v (.bool false)] m' (.bool (eE false body)))
  (hA:∀m',ae m m' ->aK 108 [.v (.slice X.b X.l2 X.cp2),.v (.bool false)] m' (.bool (eE false alt))):
  aK 218 [.v (.agg ⟨X.cs⟩),.v (.bool t),.v (.bool t2),.v (.bool b1),.v (.bool b2)] m (.bool (jj X.name X.ty tg body alt t t2 b1 b2)):=by
 have hz:jn tg=jm X.tg.k X.tg.n X.tg.s X.tg.c X.tg.ty X.tg.l:=by
  cases tg with
  |mk k n s c ty args=>
   obtain⟨y,hy,e1,e2,e3,e4,e5,e6,_⟩:=rD dn;rw[Ar hy,e1,e2,e3,e4,e5,e6];rfl
 refine enter pt qd Tryz.func218 rfl rfl (by kernel_rfl) rfl ?_ ?_
 ·simp only[go_sem,Sd.cs,Nd.cs]
 ·simp only[go_sem,Sd.cs,Nd.cs];have e0:jj X.name X.ty tg body alt t t2 b1 b2=(lA X.name X.ty t&&(t2||jn tg)&&(b1||decide (body.length=0))&&(b2||decide (alt.length=0))&&eE false body&&eE false alt):=rfl;refine⟨⟨h1,h2⟩,fun hc=>ab ((hB m (.inl rfl)).mono ?_),fun hc=> ?_⟩
  ·have q:(lA X.name X.ty t&&(t2||jn tg)&&(b1||decide (body.length=0))&&(b2||decide (alt.length=0)))=true:=by
    rw[hz,<- hl,<- ct];simp only[aG,Bool.or_eq_true,bu];exact⟨⟨⟨hc.1.1.1,hc.1.1.2⟩,Or.elim hc.1.2 .inl fun h=> .inr (by omega)⟩,Or.elim hc.2 .inl fun h=> .inr (by omega)⟩
   rw[e0,q];clear hB e0 q;rintro r H' m1 aN ⟨l1,rfl,rfl⟩;simp only[go_sem];refine⟨fun hb=>ab ((hA m1 l1).mono ?_),fun hb=>⟨l1,by rw[hb];rfl⟩⟩;clear hA;rintro r H' m2 aH ⟨l2,rfl,rfl⟩;simp only[go_sem];exact⟨aa l1 l2,by rw[hb];rfl⟩
  ·clear hA hB;rw[e0,hz,<- hl,<- ct];rcases hc with ((h |h) |h) |h
   ·have h' :lA X.name X.ty t=false:=h;rw[h'];rfl
   ·have h' :jm X.tg.k X.tg.n X.tg.s X.tg.c X.tg.ty X.tg.l=false:=h.2;rw[h',h.1];simp
   ·have h' :decide (X.l=0)=false:=dr (by omega);rw[h',h.1];simp
   ·have h' :decide (X.l2=0)=false:=dr (by omega);rw[h',h.1];simp
theorem ajQ (nm:List UInt8) (ty:Ty) (tN eN:Nd) (a:Option Addr) (l cp:Nat) (b:Option Addr) (l2 cp2:Nat) (m:Mem) (sB:Bool) (hS:aK 218 [.v (.agg ⟨Sd.cs ⟨1,nm,ty,tN,eN,a,l,cp,b,l2,cp2⟩⟩),.v (.bool true),.v (.bool false),.v (.bool false),.v (.bool false)] m (.bool sB)) (xB:Bool) (hX:∀m',ae m m' ->aK 36 [.v (.agg ⟨eN.cs⟩)] m' (.bool xB)):aK 172 [.v (.agg ⟨Sd.cs ⟨1,nm,ty,tN,eN,a,l,cp,b,l2,cp2⟩⟩)] m (.bool (sB&&xB)):=by
 refine enter pt qd Tryz.func172 rfl rfl (by kernel_rfl) rfl ?_ ?_
 ·simp only[go_sem,Sd.cs,Nd.cs,Int.reduceEq,ao,ar]
 ·simp only[go_sem,Sd.cs,Nd.cs,Int.reduceEq,ao,ar];refine ab ((aP hS (fun V=>rfl)).mono ?_);clear hS;rintro r H' m1 aN ⟨l1,rfl,rfl⟩;simp only[go_sem,Sd.cs,Nd.cs,Int.reduceEq,ao,ar];refine⟨fun c=>ab ((aP (hX m1 l1) (fun V=>rfl)).mono ?_),fun c=>⟨l1,by rw[c];rfl⟩⟩;clear hX;rintro r H' m2 aH ⟨dV,rfl,rfl⟩;simp only[go_sem,Sd.cs,Nd.cs,Int.reduceEq,ao,ar];exact⟨aa l1 dV,by rw[c];rfl⟩
theorem ajP (nm:List UInt8) (ty:Ty) (tN eN:Nd) (a:Option Addr) (l cp:Nat) (b:Option Addr) (l2 cp2:Nat) (m:Mem) (sB:Bool) (hS:aK 218 [.v (.agg ⟨Sd.cs ⟨2,nm,ty,tN,eN,a,l,cp,b,l2,cp2⟩⟩),.v (.bool false),.v (.bool true),.v (.bool false),.v (.bool false)] m (.bool sB)) (xB:Bool) (hX:∀m',ae m m' ->aK 36 [.v (.agg ⟨eN.cs⟩)] m' (.bool xB)) (tB:Bool) (hT:∀m',ae m m' ->aK 36 [.v (.agg ⟨tN.cs⟩)] m' (.bool tB)):aK 172 [.v (.agg ⟨Sd.cs ⟨2,nm,ty,tN,eN,a,l,cp,b,l2,cp2⟩⟩)] m (.bool (sB&&xB&&tB&&(decide (tN.k=6)||decide (tN.k=7)||decide (tN.k=8)||decide (tN.k=9)))):=by
 refine enter pt qd Tryz.func172 rfl rfl (by kernel_rfl) rfl ?_ ?_
 ·simp only[go_sem,Sd.cs,Nd.cs,Int.reduceEq,ao,ar]
 ·simp only[go_sem,Sd.cs,Nd.cs,Int.reduceEq,ao,ar];refine ab ((aP hS (fun V=>rfl)).mono ?_);clear hS;rintro r H' m1 aN ⟨l1,rfl,rfl⟩;simp only[go_sem,Sd.cs,Nd.cs,Int.reduceEq,ao,ar];refine⟨fun c=>ab ((aP (hX m1 l1) (fun V=>rfl)).mono ?_),fun c=>⟨l1,by rw[c];rfl⟩⟩;clear hX;rintro r H' m2 aH ⟨dV,rfl,rfl⟩;simp only[go_sem,Sd.cs,Nd.cs,Int.reduceEq,ao,ar];have k2:=aa l1 dV;refine⟨fun c2=>ab ((aP (hT m2 k2) (fun V=>rfl)).mono ?_),fun c2=>⟨k2,by rw[c,c2];rfl⟩⟩;clear hT;rintro r H' m3 bI ⟨l3',rfl,rfl⟩;simp only[go_sem,Sd.cs,Nd.cs,Int.reduceEq,ao,ar];exact⟨aa k2 l3',by rw[c,c2];rfl⟩
theorem ajO (nm:List UInt8) (ty:Ty) (tN eN:Nd) (a:Option Addr) (l cp:Nat) (b:Option Addr) (l2 cp2:Nat) (m:Mem) (sB:Bool) (hS:aK 218 [.v (.agg ⟨Sd.cs ⟨3,nm,ty,tN,eN,a,l,cp,b,l2,cp2⟩⟩),.v (.bool false),.v (.bool false),.v (.bool false),.v (.bool false)] m (.bool sB)) (xB:Bool) (hX:∀m',ae m m' ->aK 36 [.v (.agg ⟨eN.cs⟩)] m' (.bool xB)):aK 172 [.v (.agg ⟨Sd.cs ⟨3,nm,ty,tN,eN,a,l,cp,b,l2,cp2⟩⟩)] m (.bool (sB&&xB&&(decide (eN.k=10)||decide (eN.k=11)||decide (eN.k=12)||decide (eN.k=13)))):=by
 refine enter pt qd Tryz.func172 rfl rfl (by kernel_rfl) rfl ?_ ?_
 ·simp only[go_sem,Sd.cs,Nd.cs,Int.reduceEq,ao,ar]
 ·simp only[go_sem,Sd.cs,Nd.cs,Int.reduceEq,ao,ar];refine ab ((aP hS (fun V=>rfl)).mono ?_);clear hS;rintro r H' m1 aN ⟨l1,rfl,rfl⟩;simp only[go_sem,Sd.cs,Nd.cs,Int.reduceEq,ao,ar];refine⟨fun c=>ab ((aP (hX m1 l1) (fun V=>rfl)).mono ?_),fun c=>⟨l1,by rw[c];rfl⟩⟩;clear hX;rintro r H' m2 aH ⟨dV,rfl,rfl⟩;simp only[go_sem,Sd.cs,Nd.cs,Int.reduceEq,ao,ar];exact⟨aa l1 dV,by rw[c];rfl⟩
theorem ajN (nm:List UInt8) (ty:Ty) (tN eN:Nd) (a:Option Addr) (l cp:Nat) (b:Option Addr) (l2 cp2:Nat) (m:Mem) (sB:Bool) (hS:aK 218 [.v (.agg ⟨Sd.cs ⟨4,nm,ty,tN,eN,a,l,cp,b,l2,cp2⟩⟩),.v (.bool false),.v (.bool false),.v (.bool true),.v (.bool true)] m (.bool sB)) (xB:Bool) (hX:∀m',ae m m' ->aK 36 [.v (.agg ⟨eN.cs⟩)] m' (.bool xB)):aK 172 [.v (.agg ⟨Sd.cs ⟨4,nm,ty,tN,eN,a,l,cp,b,l2,cp2⟩⟩)] m (.bool (sB&&xB)):=by
 refine enter pt qd Tryz.func172 rfl rfl (by kernel_rfl) rfl ?_ ?_
 ·simp only[go_sem,Sd.cs,Nd.cs,Int.reduceEq,ao,ar]
 ·simp only[go_sem,Sd.cs,Nd.cs,Int.reduceEq,ao,ar];refine ab ((aP hS (fun V=>rfl)).mono ?_);clear hS;rintro r H' m1 aN ⟨l1,rfl,rfl⟩;simp only[go_sem,Sd.cs,Nd.cs,Int.reduceEq,ao,ar];refine⟨fun c=>ab ((aP (hX m1 l1) (fun V=>rfl)).mono ?_),fun c=>⟨l1,by rw[c];rfl⟩⟩;clear hX;rintro r H' m2 aH ⟨dV,rfl,rfl⟩;simp only[go_sem,Sd.cs,Nd.cs,Int.reduceEq,ao,ar];exact⟨aa l1 dV,by rw[c];rfl⟩
theorem ajM (nm:List UInt8) (ty:Ty) (tN eN:Nd) (a:Option Addr) (l cp:Nat) (b:Option Addr) (l2 cp2:Nat) (m:Mem) (sB:Bool) (hS:aK 218 [.v (.agg ⟨Sd.cs ⟨5,nm,ty,tN,eN,a,l,cp,b,l2,cp2⟩⟩),.v (.bool false),.v (.bool false),.v (.bool true),.v (.bool false)] m (.bool sB)) (xB:Bool) (hX:∀m',ae m m' ->aK 36 [.v (.agg ⟨eN.cs⟩)] m' (.bool xB)):aK 172 [.v (.agg ⟨Sd.cs ⟨5,nm,ty,tN,eN,a,l,cp,b,l2,cp2⟩⟩)] m (.bool (sB&&xB)):=by
 refine enter pt qd Tryz.func172 rfl rfl (by kernel_rfl) rfl ?_ ?_
 ·simp only[go_sem,Sd.cs,Nd.cs,Int.reduceEq,ao,ar]
 ·simp only[go_sem,Sd.cs,Nd.cs,Int.reduceEq,ao,ar];refine ab ((aP hS (fun V=>rfl)).mono ?_);clear hS;rintro r H' m1 aN ⟨l1,rfl,rfl⟩;simp only[go_sem,Sd.cs,Nd.cs,Int.reduceEq,ao,ar];refine⟨fun c=>ab ((aP (hX m1 l1) (fun V=>rfl)).mono ?_),fun c=>⟨l1,by rw[c];rfl⟩⟩;clear hX;rintro r H' m2 aH ⟨dV,rfl,rfl⟩;simp only[go_sem,Sd.cs,Nd.cs,Int.reduceEq,ao,ar];exact⟨aa l1 dV,by rw[c];rfl⟩
theorem ajL (nm:List UInt8) (ty:Ty) (tN eN:Nd) (a:Option Addr) (l cp:Nat) (b:Option Addr) (l2 cp2:Nat) (m:Mem) (sB:Bool) (hS:aK 218 [.v (.agg ⟨Sd.cs ⟨6,nm,ty,tN,eN,a,l,cp,b,l2,cp2⟩⟩),.v (.bool false),.v (.bool false),.v (.bool false),.v (.bool false)] m (.bool sB)) (xB:Bool) (hX:∀m',ae m m' ->aK 36 [.v (.agg ⟨eN.cs⟩)] m' (.bool xB)):aK 172 [.v (.agg ⟨Sd.cs ⟨6,nm,ty,tN,eN,a,l,cp,b,l2,cp2⟩⟩)] m (.bool (sB&&(jm eN.k eN.n eN.s eN.c eN.ty eN.l||xB))):=by
 refine enter pt qd Tryz.func172 rfl rfl (by kernel_rfl) rfl ?_ ?_
 ·simp only[go_sem,Sd.cs,Nd.cs,Int.reduceEq,ao,ar]
 ·simp only[go_sem,Sd.cs,Nd.cs,Int.reduceEq,ao,ar];refine ab ((aP hS (fun V=>rfl)).mono ?_);clear hS;rintro r H' m1 aN ⟨l1,rfl,rfl⟩;simp only[go_sem,Sd.cs,Nd.cs,Int.reduceEq,ao,ar];refine⟨fun c=>⟨fun z=>ab ((aP (hX m1 l1) (fun V=>rfl)).mono ?_),fun z=>⟨l1,?_⟩⟩,fun c=>⟨l1,by rw[c];rfl⟩⟩
  ·clear hX;have z:jm eN.k eN.n eN.s eN.c eN.ty eN.l=false:=z;rintro r H' m2 aH ⟨dV,rfl,rfl⟩;simp only[go_sem,Sd.cs,Nd.cs,Int.reduceEq,ao,ar];exact⟨aa l1 dV,by rw[c,z];rfl⟩
  ·have z:jm eN.k eN.n eN.s eN.c eN.ty eN.l=true:=z;rw[c,z];rfl
theorem ajK (nm:List UInt8) (ty:Ty) (tN eN:Nd) (a:Option Addr) (l cp:Nat) (b:Option Addr) (l2 cp2:Nat) (m:Mem) (sB:Bool) (hS:aK 218 [.v (.agg ⟨Sd.cs ⟨7,nm,ty,tN,eN,a,l,cp,b,l2,cp2⟩⟩),.v (.bool false),.v (.bool false),.v (.bool false),.v (.bool false)] m (.bool sB)) (xB:Bool) (hX:∀m',ae m m' ->aK 36 [.v (.agg ⟨eN.cs⟩)] m' (.bool xB)):aK 172 [.v (.agg ⟨Sd.cs ⟨7,nm,ty,tN,eN,a,l,cp,b,l2,cp2⟩⟩)] m (.bool (sB&&xB)):=by
 refine enter pt qd Tryz.func172 rfl rfl (by kernel_rfl) rfl ?_ ?_
 ·simp only[go_sem,Sd.cs,Nd.cs,Int.reduceEq,ao,ar]
 ·simp only[go_sem,Sd.cs,Nd.cs,Int.reduceEq,ao,ar];refine ab ((aP hS (fun V=>rfl)).mono ?_);clear hS;rintro r H' m1 aN ⟨l1,rfl,rfl⟩;simp only[go_sem,Sd.cs,Nd.cs,Int.reduceEq,ao,ar];refine⟨fun c=>ab ((aP (hX m1 l1) (fun V=>rfl)).mono ?_),fun c=>⟨l1,by rw[c];rfl⟩⟩;clear hX;rintro r H' m2 aH ⟨dV,rfl,rfl⟩;simp only[go_sem,Sd.cs,Nd.cs,Int.reduceEq,ao,ar];exact⟨aa l1 dV,by rw[c];rfl⟩
theorem ajJ (nm:List UInt8) (ty:Ty) (tN eN:Nd) (a:Option Addr) (l cp:Nat) (b:Option Addr) (l2 cp2:Nat) (m:Mem) (sB:Bool) (hS:aK 218 [.v (.agg ⟨Sd.cs ⟨8,nm,ty,tN,eN,a,l,cp,b,l2,cp2⟩⟩),.v (.bool true),.v (.bool false),.v (.bool true),.v (.bool true)] m (.bool sB)):aK 172 [.v (.agg ⟨Sd.cs ⟨8,nm,ty,tN,eN,a,l,cp,b,l2,cp2⟩⟩)] m (.bool (sB&&jm eN.k eN.n eN.s eN.c eN.ty eN.l)):=by
 refine enter pt qd Tryz.func172 rfl rfl (by kernel_rfl) rfl ?_ ?_
 ·simp only[go_sem,Sd.cs,Nd.cs,Int.reduceEq,ao,ar]
 ·simp only[go_sem,Sd.cs,Nd.cs,Int.reduceEq,ao,ar];refine ab ((aP hS (fun V=>rfl)).mono ?_);clear hS;rintro r H' m1 aN ⟨l1,rfl,rfl⟩;simp only[go_sem,Sd.cs,Nd.cs,Int.reduceEq,ao,ar];exact l1
theorem ajI (nm:List UInt8) (ty:Ty) (tN eN:Nd) (a:Option Addr) (l cp:Nat) (b:Option Addr) (l2 cp2:Nat) (m:Mem) (sB:Bool) (hS:aK 218 [.v (.agg ⟨Sd.cs ⟨9,nm,ty,tN,eN,a,l,cp,b,l2,cp2⟩⟩),.v (.bool false),.v (.bool false),.v (.bool true),.v (.bool false)] m (.bool sB)) (xB:Bool) (hX:∀m',ae m m' ->aK 36 [.v (.agg ⟨eN.cs⟩)] m' (.bool xB)):aK 172 [.v (.agg ⟨Sd.cs ⟨9,nm,ty,tN,eN,a,l,cp,b,l2,cp2⟩⟩)] m (.bool (sB&&xB)):=by
 refine enter pt qd Tryz.func172 rfl rfl (by kernel_rfl) rfl ?_ ?_
 ·simp only[go_sem,Sd.cs,Nd.cs,Int.reduceEq,ao,ar]
 ·simp only[go_sem,Sd.cs,Nd.cs,Int.reduceEq,ao,ar];refine ab ((aP hS (fun V=>rfl)).mono ?_);clear hS;rintro r H' m1 aN ⟨l1,rfl,rfl⟩;simp only[go_sem,Sd.cs,Nd.cs,Int.reduceEq,ao,ar];refine⟨fun c=>ab ((aP (hX m1 l1) (fun V=>rfl)).mono ?_),fun c=>⟨l1,by rw[c];rfl⟩⟩;clear hX;rintro r H' m2 aH ⟨dV,rfl,rfl⟩;simp only[go_sem,Sd.cs,Nd.cs,Int.reduceEq,ao,ar];exact⟨aa l1 dV,by rw[c];rfl⟩
theorem agI (nm:List UInt8) (ty:Ty) (tN eN:Nd) (a:Option Addr) (l cp:Nat) (b:Option Addr) (l2 cp2:Nat) (m:Mem) (sB:Bool) (hS:aK 218 [.v (.agg ⟨Sd.cs ⟨10,nm,ty,tN,eN,a,l,cp,b,l2,cp2⟩⟩),.v (.bool false),.v (.bool false),.v (.bool true),.v (.bool false)] m (.bool sB)):aK 172 [.v (.agg ⟨Sd.cs ⟨10,nm,ty,tN,eN,a,l,cp,b,l2,cp2⟩⟩)] m (.bool (sB&&jm eN.k eN.n eN.s eN.c eN.ty eN.l)):=by
 refine enter pt qd Tryz.func172 rfl rfl (by kernel_rfl) rfl ?_ ?_
 ·simp only[go_sem,Sd.cs,Nd.cs,Int.reduceEq,ao,ar]
 ·simp only[go_sem,Sd.cs,Nd.cs,Int.reduceEq,ao,ar];refine ab ((aP hS (fun V=>rfl)).mono ?_);clear hS;rintro r H' m1 aN ⟨l1,rfl,rfl⟩;simp only[go_sem,Sd.cs,Nd.cs,Int.reduceEq,ao,ar];exact l1
theorem agH (nm:List UInt8) (ty:Ty) (tN eN:Nd) (a:Option Addr) (l cp:Nat) (b:Option Addr) (l2 cp2:Nat) (m:Mem) (sB:Bool) (hS:aK 218 [.v (.agg ⟨Sd.cs ⟨11,nm,ty,tN,eN,a,l,cp,b,l2,cp2⟩⟩),.v (.bool false),.v (.bool false),.v (.bool false),.v (.bool false)] m (.bool sB)) (xB:Bool) (hX:∀m',ae m m' ->aK 219 [.v (.agg ⟨eN.cs⟩)] m' (.bool xB)):aK 172 [.v (.agg ⟨Sd.cs ⟨11,nm,ty,tN,eN,a,l,cp,b,l2,cp2⟩⟩)] m (.bool (sB&&xB)):=by
 refine enter pt qd Tryz.func172 rfl rfl (by kernel_rfl) rfl ?_ ?_
 ·simp only[go_sem,Sd.cs,Nd.cs,Int.reduceEq,ao,ar]
 ·simp only[go_sem,Sd.cs,Nd.cs,Int.reduceEq,ao,ar];refine ab ((aP hS (fun V=>rfl)).mono ?_);clear hS;rintro r H' m1 aN ⟨l1,rfl,rfl⟩;simp only[go_sem,Sd.cs,Nd.cs,Int.reduceEq,ao,ar];refine⟨fun c=>ab ((aP (hX m1 l1) (fun V=>rfl)).mono ?_),fun c=>⟨l1,by rw[c];rfl⟩⟩;clear hX;rintro r H' m2 aH ⟨dV,rfl,rfl⟩;simp only[go_sem,Sd.cs,Nd.cs,Int.reduceEq,ao,ar];exact⟨aa l1 dV,by rw[c];rfl⟩
theorem ajR (k:Int) (nm:List UInt8) (ty:Ty) (tN eN:Nd) (a:Option Addr) (l cp:Nat) (b:Option Addr) (l2 cp2:Nat) (m:Mem) (e:∀j:Int,1<=j->j<=11->(k=j)=False):
  aK 172 [.v (.agg ⟨Sd.cs ⟨k,nm,ty,tN,eN,a,l,cp,b,l2,cp2⟩⟩)] m (.bool false):=by
 have e1:=e 1 (by decide) (by decide);have e2:=e 2 (by decide) (by decide);have e3:=e 3 (by decide) (by decide);have e4:=e 4 (by decide) (by decide);have e5:=e 5 (by decide) (by decide);have e6:=e 6 (by decide) (by decide);have e7:=e 7 (by decide) (by decide);have e8:=e 8 (by decide) (by decide);have e9:=e 9 (by decide) (by decide);have jg:=e 10 (by decide) (by decide);have mq:=e 11 (by decide) (by decide);refine enter pt qd Tryz.func172 rfl rfl (by kernel_rfl) rfl ?_ ?_
 ·simp only[go_sem,Sd.cs,Nd.cs]
 ·simp only[go_sem,Sd.cs,Nd.cs,e1,e2,e3,e4,e5,e6,e7,e8,e9,jg,mq,ar]
theorem KA {m:Mem} {e:Ex} {x:Nd} (h:bw m e x.cs):x.k=e.k/\jm x.k x.n x.s x.c x.ty x.l=jn e:=by
 cases e with
 |mk k n s c ty args=>
  obtain⟨y,hy,e1,e2,e3,e4,e5,e6,_⟩:=rD h;rw[Ar hy,e1,e2,e3,e4,e5,e6];exact⟨rfl,rfl⟩
theorem HY:∀(h:Nat) (e:St) (cs:List Value) (m:Mem),eT e<=h->eX m e cs->aK 172 [.v (.agg ⟨cs⟩)] m (.bool (fv e))
 |0,.mk k nm ty tg ex body alt,cs,m,hd,_=>by simp [eT] at hd
 |h+1,.mk k nm ty tg ex body alt,cs,m,hd,he=>by
  obtain⟨⟨k,nm,ty,tN,eN,a,l,cp,b,l2,cp2⟩,rfl,rfl,rfl,rfl,dn,hex,hl,ba,ct,eb,au,xs,ys,r1,r2,s1,s2⟩:=rB he;simp only[eT] at hd;simp only at dn hex hl ba ct eb au r1 r2;have hB:=fun m' (hle:ae m m')=>H4 false body a l cp xs m' hl (ay hle r1) (dw hle s1) (by rw[hl];exact au.l) fun e he cs m2 aY aT=>HY h e cs m2 (by have:=my he;omega) aT
  have hA:=fun m' (hle:ae m m')=>H4 false alt b l2 cp2 ys m' ct (ay hle r2) (dw hle s2) (by rw[ct];exact au.l2) fun e he cs m2 aY aT=>HY h e cs m2 (by have:=my he;omega) aT
  have hS:=fun(t t2 b1 b2:Bool)=>W8 ⟨k,nm,ty,tN,eN,a,l,cp,b,l2,cp2⟩ tg ex body alt t t2 b1 b2 m (cX au.nm (by decide)) (cX au.ty.2.2 (by decide)) dn hl ct hB hA
  have hX:=fun m' (hle:ae m m')=>By _ ex eN.cs m' (av _) (bq hle hex)
  have hT:=fun m' (hle:ae m m')=>By _ tg tN.cs m' (av _) (bq hle dn)
  have hR:=fun m' (hle:ae m m')=>XS ex eN.cs m' (bq hle hex)
  have nt:=KA dn;have ne:=KA hex;rw[S1];simp only;rcases QF (k:=k) with hk |hk
  ·rcases hk with rfl |rfl |rfl |rfl |rfl |rfl |rfl |rfl |rfl |rfl |rfl
   ·have h:=ajQ nm ty tN eN a l cp b l2 cp2 m _ (hS true false false false) _ hX;simp only[iC,Int.reduceEq,or_false,or_true,false_or,true_or,if_true,if_false];exact h
   ·have h:=ajP nm ty tN eN a l cp b l2 cp2 m _ (hS false true false false) _ hX _ hT;rw[nt.1] at h;simp only[iC,Int.reduceEq,or_false,or_true,false_or,true_or,if_true,if_false];exact h
   ·have h:=ajO nm ty tN eN a l cp b l2 cp2 m _ (hS false false false false) _ hX;rw[ne.1] at h;simp only[iC,Int.reduceEq,or_false,or_true,false_or,true_or,if_true,if_false];exact h
   ·have h:=ajN nm ty tN eN a l cp b l2 cp2 m _ (hS false false true true) _ hX;simp only[iC,Int.reduceEq,or_false,or_true,false_or,true_or,if_true,if_false];exact h
   ·have h:=ajM nm ty tN eN a l cp b l2 cp2 m _ (hS false false true false) _ hX;simp only[iC,Int.reduceEq,or_false,or_true,false_or,true_or,if_true,if_false];exact h
   ·have h:=ajL nm ty tN eN a l cp b l2 cp2 m _ (hS false false false false) _ hX;rw[ne.2] at h;simp only[iC,Int.reduceEq,or_false,or_true,false_or,true_or,if_true,if_false];exact h
   ·have h:=ajK nm ty tN eN a l cp b l2 cp2 m _ (hS false false false false) _ hX;simp only[iC,Int.reduceEq,or_false,or_true,false_or,true_or,if_true,if_false];exact h
   ·have h:=ajJ nm ty tN eN a l cp b l2 cp2 m _ (hS true false true true);rw[ne.2] at h;simp only[iC,Int.reduceEq,or_false,or_true,false_or,true_or,if_true,if_false];exact h
   ·have h:=ajI nm ty tN eN a l cp b l2 cp2 m _ (hS false false true false) _ hX;simp only[iC,Int.reduceEq,or_false,or_true,false_or,true_or,if_true,if_false];exact h
   ·have h:=agI nm ty tN eN a l cp b l2 cp2 m _ (hS false false true false);rw[ne.2] at h;simp only[iC,Int.reduceEq,or_false,or_true,false_or,true_or,if_true,if_false];exact h
   ·have h:=agH nm ty tN eN a l cp b l2 cp2 m _ (hS false false false false) _ hR;simp only[iC,Int.reduceEq,or_false,or_true,false_or,true_or,if_true,if_false];exact h
  ·have e:∀j:Int,1<=j->j<=11->¬k=j:=fun j h1 h2 h3=>by have:=hk j h1 h2;rw[this] at h3;exact h3
   have e0:iC k nm ty tg ex body alt=false:=by
    simp only[iC,hk 1 (by decide) (by decide),hk 2 (by decide) (by decide),hk 3 (by decide) (by decide),hk 4 (by decide) (by decide),hk 5 (by decide) (by decide),hk 6 (by decide) (by decide),hk 7 (by decide) (by decide),hk 8 (by decide) (by decide),hk 9 (by decide) (by decide),hk 10 (by decide) (by decide),hk 11 (by decide) (by decide),or_false,if_false]
   rw[e0];exact ajR k nm ty tN eN a l cp b l2 cp2 m hk
theorem OE (fl:Int) (m:Mem):FnH Tryz.prog 173 [.v (.int .i64 fl)] ⟨[],[]⟩ m fun r H' _=>r= .v (.bool (lf fl))/\H' =⟨[],[]⟩:=by
 refine aR aB Tryz.func173 ?_
 ·simp only[go_sem];rfl
theorem Im (fl al:Int) (m:Mem):FnH Tryz.prog 109 [.v (.int .i64 fl),.v (.int .i64 al)] ⟨[],[]⟩ m fun r H' _=>r= .v (.bool (lB fl al))/\H' =⟨[],[]⟩:=by
 refine aR aB Tryz.func109 ?_
 ·simp only[go_sem];rfl
def uO (fl:Int):Bool:=lB fl 1087&&lf fl&&(!hasB fl 32|| !hasB fl 8)&&(!hasB fl 1024|| !hasB fl 58)
theorem YZ {fl:Int} (hI:aF fl):uO fl=oH fl:=by
 have e:lB fl 1087=fx fl 1087:=B5 (al:=1087) hI (by decide);rw[uO,e,oH,Bool.not_and];cases lf fl<;>cases fx fl 1087<;>simp [Bool.and_comm]
abbrev Wl:Cfg:=gL (fun _=>false) [(109,xg lB),(173,xh lf),(163,ft BL fun s=> .bool (du s)),(164,sI dD),(107,ft BL fun s=> .bool (dh s))]
theorem Vf:dO Wl Tryz.prog:=pure_cons (by kernel_rfl) (CF Im) (pure_cons (by kernel_rfl) (CG OE) (pure_cons (by kernel_rfl) (fL H3) (pure_cons (by kernel_rfl) (we HW) (pure_cons (by kernel_rfl) (fL Bu) pure_nil))))
theorem Xc (f:Fc) (m:Mem) (h:FcOk f):aK 110 [.v (.agg ⟨f.cs⟩)] m (.bool (jU f)):=by
 have h1:BL f.name:=cX h.name (by decide);have h2:BL f.ty.name:=cX h.ty.2.2 (by decide);have h3:jU f=(lB f.fl 31&&lf f.fl&&dD f.ty.dim f.ty.base f.ty.name&&du f.name):=by
  have e:lB f.fl 31=fx f.fl 31:=B5 (al:=31) h.fl (by decide);rw[e,jU];cases dD f.ty.dim f.ty.base f.ty.name<;>cases du f.name<;>cases lf f.fl<;>simp
 rw[h3];refine enter Wl Vf Tryz.func110 rfl rfl (by kernel_rfl) rfl ?_ ?_
 ·simp only[go_sem,Fc.cs]
 ·simp only[go_sem,Fc.cs];exact⟨fun _=>h2,fun _=>h1⟩
theorem Xb (fl:Int) (m:Mem):FnH Tryz.prog 174 [.v (.int .i64 fl)] ⟨[],[]⟩ m fun r H' _=>r= .v (.bool (uO fl))/\H' =⟨[],[]⟩:=by
 refine aR Vf Tryz.func174 ?_
 ·simp only[go_sem];refine⟨fun h=> ?_,fun h=> ?_⟩
  ·rcases h with (h |h) |h
   ·simp [uO,h]
   ·simp [uO,h]
   ·simp [uO,hasB,h.1,h.2]
  ·rw[uO,h.1.1,h.1.2];rcases h.2 with g |g<;>simp [hasB,g]
def oI (d:Md) (i:Bool):Bool:=gm d&& !(i&&vB d)
abbrev U0:Cfg:=gL (fun _=>false) [(109,xg lB),(173,xh lf),(163,ft BL fun s=> .bool (du s)),(164,sI dD),(174,xh uO)]
theorem UD:dO U0 Tryz.prog:=pure_cons (by kernel_rfl) (CF Im) (pure_cons (by kernel_rfl) (CG OE) (pure_cons (by kernel_rfl) (fL H3) (pure_cons (by kernel_rfl) (we HW) (pure_cons (by kernel_rfl) (CG Xb) pure_nil))))
theorem Aj {α:Type} (p:α->Bool):∀(l:List α),l.all p= !(l.any fun x=> !p x)
 |[]=>rfl
 |a::l=>by rw[List.all_cons,List.any_cons,Bool.not_or,Bool.not_not,Aj p l]
theorem Cb {α:Type} {p:α->Bool} {l:List α} {k:Nat} (hk:k<l.length):(l.take (k+1)).all p=((l.take k).all p&&p l[k]):=by
 rw[List.take_succ_eq_append_getElem hk,List.all_append];simp
theorem CR {α:Type} {p:α->Bool} {l:List α} {k:Nat} (hk:k<l.length) (h:p l[k]=false):l.all p=false:=by
 rw[List.all_eq_false];exact⟨_,List.getElem_mem hk,by rw[h];decide⟩
theorem NW (sup:Bool) (l:List St) (a:Option Addr) (n c:Nat) (xs:List Value) (m:Mem) (hl:n=l.length) (hr:aX m a n 23 xs) (hs:bS m l xs) (hn:n<=aq):
  aK 108 [.v (.slice a n c),.v (.bool sup)] m (.bool (eE sup l)):=
 H4 sup l a n c xs m hl hr hs hn fun e _ cs m' _ he=>HY _ e cs m' (av _) he
theorem N6 {d:Md} {i:Bool} (hI:aF d.fl) (hp:d.params.all ib=true):oI d i=(decide (d.params.length<=16)&&(d.hb||decide (d.body.length=0))&&eE (decide (d.name=eK)) d.body&&
  (if d.name=eK then !i&&nl d.res&&d.hb&&lB d.fl 7&&lf d.fl else((!i||decide (d.fl=1))||decide (d.fl=1025))&&(du d.name&&(nl d.res||dD d.res.dim d.res.base d.res.name)&&uO d.fl&&(d.hb==decide (bits .and .i64 d.fl 1024=0))))):=by
 have e0:(d.params.any fun p=> !ib p)=false:=by
  have:=Aj ib d.params;rw[hp] at this;cases h:d.params.any fun p=> !ib p with
  |false=>rfl
  |true=>rw[h] at this;cases this
 rw[oI,gm,ny,rZ,e0,vB];by_cases hn:d.name=eK
 ·have e7:lB d.fl 7=fx d.fl 7:=B5 (al:=7) hI (by decide);rw[ah hn,ah hn,eH hn,e7];cases ho:fx d.fl 7 with
  |false=>simp
  |true=>
   obtain⟨q1,q2⟩:=afG hI ho;rw[q1,q2];generalize decide (d.params.length<=16)=w1
   generalize decide (d.body.length=0)=w2
   generalize eE true d.body=w3
   generalize nl d.res=w4
   generalize lf d.fl=w5
   cases d.hb<;>cases i<;>cases w1<;>cases w2<;>cases w3<;>cases w4<;>cases w5<;>simp
 ·rw[af hn,af hn,dr hn,YZ hI,hasB];generalize decide (d.params.length<=16)=w1
  generalize decide (d.body.length=0)=w2
  generalize eE false d.body=w3
  generalize (du d.name&&(nl d.res||dD d.res.dim d.res.base d.res.name))=w4
  generalize oH d.fl=w5
  generalize decide (bits .and .i64 d.fl 1024=0)=w6
  generalize decide (d.fl=1)=w7
  generalize decide (d.fl=1025)=w8
  cases d.hb<;>cases i<;>cases w1<;>cases w2<;>cases w3<;>cases w4<;>cases w5<;>cases w6<;>cases w7<;>cases w8<;>rfl
theorem WI {d:Md} {i:Bool} {k:Nat} (hk:k<d.params.length) (h:ib d.params[k]=false):oI d i=false:=by
 have e0:=Aj ib d.params;rw[CR hk h] at e0;rw[oI,gm,<- e0];simp
theorem WJ {d:Md} {i:Bool} (h:eE (decide (d.name=eK)) d.body=false):oI d i=false:=by
 rw[oI,gm,h];simp
theorem WR (d:Md) (i:Bool) (cs:List Value) (m:Mem) (h:gJ m d cs):aK 111 [.v (.agg ⟨cs⟩),.v (.bool i)] m (.bool (oI d i)):=by
 obtain⟨fl,res,name,params,hb,body⟩:=d;obtain⟨x,⟨rfl,rfl,rfl,rfl,rfl⟩,⟨j6,xp,hl,ba⟩,au,r1,xs,r2,s2⟩:=h;simp only at j6 hl r1 s2;have h1:BL x.name:=cX au.name (by decide);have h2:BL x.res.name:=cX au.res.2.2 (by decide);have bp:x.pl<=aq:=by rw[j6];exact au.pl
 have qe:∀p∈params,BL p.name/\BL p.ty.name:=fun p hp=>⟨cX (au.ps p hp).name (by decide),cX (au.ps p hp).ty.2.2 (by decide)⟩
 have hB:=NW (decide (x.name=eK)) body x.a x.l x.cp xs m hl r2 s2 (by rw[hl];exact au.l);have hI:aF x.fl:=au.fl;clear s2;refine enter U0 UD Tryz.func111 rfl rfl (by kernel_rfl) rfl ?_ ?_
 ·simp only[go_sem,Mc.cs]
 ·simp only[go_sem,Mc.cs];refine ew UD (fun y:Nat=>⟨[⟨1,[],.v (.bool i)⟩,⟨2,[],.box 0 0⟩,⟨5,[],.v (.int .i64 y)⟩],[],[⟨0,98,x.cs.map .v⟩],[],1,m⟩)
    (fun y=>y<=x.pl/\(params.take y).all ib=true) (fun y=>x.pl - y) 0 (by kernel_rfl) (fun _ _=>av _) (fun y hy=> .inl rfl) (fun _=> ?_) ?_ ?_ ?_
  ·simp only[go_sem,Mc.cs]
  ·simp only[go_sem,Mc.cs];rfl
  ·exact⟨aD _,rfl⟩
  ·rintro k ⟨g2,g3⟩;have hy:∀(hk:k<params.length),(Rd m (cO x.pa (k * 4)) (params[k]).cs/\x.pa≠none)/\BL params[k].name/\BL params[k].ty.name:=fun hk=>by
    have q1:=dH r1 (by omega:k<x.pl);rw[oJ (f:=Pc.cs) (sz:=4) (fun _=>rfl) hk] at q1;exact⟨q1,qe _ (List.getElem_mem hk)⟩
   simp only[go_sem,Mc.cs];refine⟨fun aw=> ?_,fun cg=>⟨qG,fun c=>ab (hB.mono ?_),fun c=> ?_⟩⟩
   ·have hk:k<params.length:=by clear hB;omega
    have bt:=hy hk;clear hy hB;refine⟨⟨by omega,aw,bt.1.2⟩,iZ bt.1.1,[.int .i64 params[k].ty.dim,.int .u8 params[k].ty.base,.string (bs params[k].ty.name)],⟨gU bt.1.1 0 3 (dC rfl),rfl⟩,?_⟩;simp only[go_sem,Mc.cs,Pc.cs];refine⟨bt.2.2,fun _=>⟨by omega,aw,bt.1.2⟩,fun _=>iZ bt.1.1,.string (bs params[k].name),fun _=>gU bt.1.1 3 1 (dC rfl),?_⟩;have hBn:=bt.2.1;clear bt;have cA:=WI (d:=⟨x.fl,x.res,x.name,params,x.hb,body⟩) (i:=i) hk;simp only[ib] at cA;simp only[go_sem,Mc.cs,Pc.cs];refine⟨fun _=>hBn,fun hf=>(cA ?_).symm,fun ht=>⟨by unfold aF;simp only[aq] at bp;omega,k+1,by simp,⟨by omega,?_⟩,by omega⟩⟩
    ·rcases hf with h |h<;>simp [h]
    ·rw[Cb hk,g3,ib,ht.1,ht.2];rfl
   ·clear hB;have iR:params.take k=params:=fj (by omega);rw[iR] at g3;have hE:=N6 (d:=⟨x.fl,x.res,x.name,params,x.hb,body⟩) (i:=i) hI g3;have cA:=WJ (d:=⟨x.fl,x.res,x.name,params,x.hb,body⟩) (i:=i);simp only at hE cA;rw[eH (by omega:params.length<=16),(by rcases c.2 with h |h;rw[h];rfl;rw[eH (by omega:body.length=0),Bool.or_true]:(x.hb||decide (body.length=0))=true),Bool.true_and,Bool.true_and] at hE;rintro r H' m2 aH ⟨l2,rfl,rfl⟩;simp only[go_sem,Mc.cs];refine⟨fun hb=>⟨l2,(cA hb).symm⟩,fun hb=> ?_⟩;rw[hb,Bool.true_and] at hE;refine⟨fun hn=>⟨l2,?_⟩,fun hn=>⟨fun hc=>⟨l2,?_⟩,fun hc=>⟨h1,fun _=>h2,by kernel_rfl,l2,?_⟩⟩⟩
    ·have zc:x.name=eK:=hn;rw[hE,ah zc];rfl
    ·have zc:¬x.name=eK:=hn;rw[hE,af zc];simp [hc]
    ·have zc:¬x.name=eK:=hn;rw[hE,af zc];have e:((!i||decide (x.fl=1))||decide (x.fl=1025))=true:=by
      rcases hc with (h |h) |h<;>simp [h]
     rw[e,Bool.true_and];rfl
   ·clear hB;have iR:params.take k=params:=fj (by omega);rw[iR] at g3;have hE:=N6 (d:=⟨x.fl,x.res,x.name,params,x.hb,body⟩) (i:=i) hI g3;simp only at hE;rw[hE];rcases c with h |h
    ·rw[dr (by omega:¬params.length<=16)];rfl
    ·rw[h.1,dr (by omega:¬body.length=0)];simp
def TC (d:Cd):Bool:=lB d.fl 1537&&hasB d.fl 1024&&decide (d.fields.length=0)&&decide (d.init.length=0)&&decide (d.super=kH)
def S7 (d:Cd):Bool:=lB d.fl 1041&& !(hasB d.fl 16&&hasB d.fl 1024)
def Dd (d:Cd):Bool:=if hasB d.fl 512=true then TC d else S7 d
def AF (d:Cd):Bool:=mG d&&pW d
def F8 (d:Cd):Bool:=AF d&&eE false d.init&&Dd d&&d.ifs.all dh&&d.fields.all jU&&d.methods.all fun e=>oI e (hasB d.fl 512)
theorem Ra (i:Bool):∀(l:List Md),(l.all fun e=>oI e i)=(l.all gm&& !(i&&l.any vB))
 |[]=>by simp
 |e::r=>by
  rw[List.all_cons,List.all_cons,List.any_cons,Ra i r,oI];cases gm e<;>cases i<;>cases vB e<;>simp
theorem abS (d:Cd) (hI:aF d.fl):F8 d=iA d:=by
 have e1:lB d.fl 1537=fx d.fl 1537:=B5 (al:=1537) hI (by decide);have e2:lB d.fl 1041=fx d.fl 1041:=B5 (al:=1041) hI (by decide);have e3:decide (d.fields.length+d.init.length=0)=(decide (d.fields.length=0)&&decide (d.init.length=0)):=by
  rw[<- Bool.decide_and,decide_eq_decide];omega
 rw[F8,Ra,iA,oX,Dd,AF,TC,S7,As,e1,e2,e3,Aj dh,Aj jU,Aj gm];generalize mG d=q1
 generalize pW d=q2
 generalize eE false d.init=q3
 generalize fx d.fl 1537=q4
 generalize fx d.fl 1041=q5
 generalize (d.ifs.any fun x=> !dh x)=q6
 generalize (d.fields.any fun x=> !jU x)=q7
 generalize (d.methods.any fun x=> !gm x)=q8
 generalize d.methods.any vB=q9
 generalize hasB d.fl 1024=w1
 generalize decide (d.fields.length=0)=w2
 generalize decide (d.init.length=0)=w3
 generalize decide (d.super=kH)=w4
 cases hasB d.fl 512
 ·simp only[Bool.false_and,Bool.not_false,Bool.and_true,Bool.false_eq_true,if_false];generalize hasB d.fl 16=w5
  cases q1<;>cases q2<;>cases q3<;>cases q5<;>cases q6<;>cases q7<;>cases q8<;>simp
 ·simp only[Bool.true_and,if_true];cases q1<;>cases q2<;>cases q3<;>cases q4<;>cases q6<;>cases q7<;>cases q8<;>cases q9<;>cases w2<;>cases w3<;>simp
abbrev U1:Cfg:=gL (fun _=>false) [(109,xg lB),(107,ft BL fun s=> .bool (dh s))]
theorem Gz:dO U1 Tryz.prog:=pure_cons (by kernel_rfl) (CF Im) (pure_cons (by kernel_rfl) (fL Bu) pure_nil)
set_option maxHeartbeats 8000000 in
theorem Xf (d:Cd) (cs:List Value) (m:Mem) (h:jL m d cs):aK 42 [.v (.agg ⟨cs⟩)] m (.bool (F8 d)):=by
 obtain⟨fl,name,super,ifs,fields,methods,init⟩:=d;obtain⟨x,⟨rfl,rfl,rfl,rfl⟩,⟨dv,hic,gC,hfc,hml,hmc,fG,hsc⟩,au,r1,r2,xs,ys,r3,s3,r4,s4⟩:=h;simp only at dv gC hml fG r1 r2 r3 s3 r4 s4;have h1:BL x.name:=cX au.name (by decide);have h2:BL x.super:=cX au.super (by decide);have b0:x.il<=aq:=by rw[dv];exact au.il
 have b1:x.fn<=aq:=by rw[gC];exact au.fn
 have b2:x.ml<=aq:=by rw[hml];exact au.ml
 have hB:=NW false init x.sa x.sl x.sc ys m fG r4 s4 (by rw[fG];exact au.l);have y0:∀m',ae m m' ->∀i (hk:i<ifs.length),(Rd m' (cO x.ia i) [.string (bs ifs[i])]/\x.ia≠none)/\BL ifs[i]:=fun m' hle i hk=>⟨Ac (ay hle r1) hk,cX (au.ifs _ (List.getElem_mem hk)) (by decide)⟩
 have y1:∀m',ae m m' ->∀i (hk:i<fields.length),(Rd m' (cO x.fa (i * 5)) (fields[i]).cs/\x.fa≠none)/\aK 110 [.v (.agg ⟨(fields[i]).cs⟩)] m' (.bool (jU fields[i])):=fun m' hle i hk=>by
  have:=dH (ay hle r2) (by omega:i<x.fn);rw[oJ (f:=Fc.cs) (sz:=5) (fun _=>rfl) hk] at this;exact⟨this,Xc _ m' (au.fs _ (List.getElem_mem hk))⟩
 have y2:∀m',ae m m' ->∀i (hk:i<methods.length),∃X:Mc,(Rd m' (cO x.ma (i * 8)) X.cs/\x.ma≠none)/\∀b,aK 111 [.v (.agg ⟨X.cs⟩),.v (.bool b)] m' (.bool (oI methods[i] b)):=fun m' hle i hk=>by
  have aT:=qp hle (nZ s3 hk);have bW:=dH (ay hle r3) (by omega:i<x.ml);obtain⟨X,e1⟩:=B7 aT;rw[e1] at bW aT;exact⟨X,bW,fun b=>WR _ b _ m' aT⟩
 clear s3 s4;have hX:F8 ⟨x.fl,x.name,x.super,ifs,fields,methods,init⟩=(AF ⟨x.fl,x.name,x.super,ifs,fields,methods,init⟩&&eE false init&&Dd ⟨x.fl,x.name,x.super,ifs,fields,methods,init⟩&&ifs.all dh&&fields.all jU&&methods.all fun e=>oI e (hasB x.fl 512)):=rfl;have hN:AF ⟨x.fl,x.name,x.super,ifs,fields,methods,init⟩=(dh x.name&&dh x.super&&decide (x.il<=8)&&decide (x.fn<=64)&&decide (x.ml<=64)):=by
  rw[AF,mG,pW,dv,gC,hml];simp only[Bool.and_assoc]
 refine enter U1 Gz Tryz.func42 rfl rfl (by kernel_rfl) rfl ?_ ?_
 ·simp only[go_sem,Cc.cs]
 ·simp only[go_sem,Cc.cs];refine⟨h1,fun _=>h2,fun hc=>ab (hB.mono ?_),fun hc=> ?_⟩
  ·clear hB;have VS:AF ⟨x.fl,x.name,x.super,ifs,fields,methods,init⟩=true:=by
    rw[hN];simp only[aG,bu];exact⟨⟨⟨hc.1.1.1,by omega⟩,by omega⟩,by omega⟩
   rw[VS,Bool.true_and] at hX;clear hN VS;rintro r H' m1 aN ⟨l1,rfl,rfl⟩;simp only[go_sem,Cc.cs];have vI:hasB x.fl 512= !decide (bits .and .i64 x.fl 512=0):=rfl;have Dr:hasB x.fl 1024= !decide (bits .and .i64 x.fl 1024=0):=rfl;have ud:hasB x.fl 16= !decide (bits .and .i64 x.fl 16=0):=rfl;have hH:Dd ⟨x.fl,x.name,x.super,ifs,fields,methods,init⟩=(if hasB x.fl 512=true then(lB x.fl 1537&&hasB x.fl 1024&&decide (fields.length=0)&&decide (init.length=0)&&decide (x.super=kH)) else(lB x.fl 1041&& !(hasB x.fl 16&&hasB x.fl 1024))):=rfl;refine⟨fun b=>⟨l1,?_⟩,fun b=>⟨fun c1=>⟨l1,?_⟩,fun c1=>⟨fun c2=>⟨l1,?_⟩,fun c2=> ?_⟩⟩⟩
   ·rw[hX,b];simp
   ·rw[dr c1.1,Bool.not_false] at vI;rw[hX,hH,ah vI];rcases c1.2 with (((h |h) |h) |h) |h
    ·simp [h]
    ·simp [Dr,h]
    ·rw[dr (by clear y0 y1 y2;omega:¬fields.length=0)];simp
    ·rw[dr (by clear y0 y1 y2;omega:¬init.length=0)];simp
    ·have h' :¬x.super=kH:=h;rw[dr h'];simp
   ·rw[eH c2.1,Bool.not_true] at vI;rw[hX,hH,af (Bool.eq_false_iff.1 vI)];rcases c2.2 with h |h
    ·simp [h]
    ·rw[ud,Dr,dr h.1,dr h.2];simp
   ·have VX:Dd ⟨x.fl,x.name,x.super,ifs,fields,methods,init⟩=true:=by
     rw[hH];by_cases h5:bits .and .i64 x.fl 512=0
     ·rw[eH h5,Bool.not_true] at vI;rw[af (Bool.eq_false_iff.1 vI)];rcases c2 with h |h
      ·exact absurd h5 h
      ·rw[h.1,ud,Dr];rcases h.2 with g |g<;>simp [g]
     ·rw[dr h5,Bool.not_false] at vI;rw[ah vI];rcases c1 with h |h
      ·exact absurd h h5
      ·have h' :x.super=kH:=h.2;rw[h.1.1.1.1,Dr,dr h.1.1.1.2,eH h',eH (by clear y0 y1 y2;omega:fields.length=0),eH (by clear y0 y1 y2;omega:init.length=0)];rfl
    rw[b,VX,Bool.true_and,Bool.true_and] at hX;clear hH VX Dr ud vI c1 c2 hc;refine ew Gz (fun y:Nat×Mem=>⟨[⟨1,[],.box 0 0⟩,⟨3,[],.v (.bool (hasB x.fl 512))⟩,⟨4,[],.v (.int .i64 y.1)⟩],[],[⟨0,59,x.cs.map .v⟩],[],1,y.2⟩)
     (fun y=>ae m1 y.2/\y.1<=x.il/\(ifs.take y.1).all dh=true) (fun y=>x.il - y.1) (0,m1) (by kernel_rfl) (fun _ _=>av _) (fun y hy=> ?_) (fun _=> ?_) ?_ ?_ ?_
    ·exact hy.1
    ·simp only[go_sem,Cc.cs]
    ·simp only[go_sem,Cc.cs];exact⟨rfl,rfl⟩
    ·exact⟨.inl rfl,aD _,rfl⟩
    ·rintro⟨k,m2⟩ ⟨g1,g2,g3⟩;simp only at g1 g2 g3;have k2:=aa l1 g1;simp only[go_sem,Cc.cs];refine⟨fun aw=> ?_,fun cg=> ?_⟩
     ·have hk:k<ifs.length:=by clear y0 y1 y2;omega
      have hy:=y0 m2 k2 k hk;clear y0 y1 y2;refine⟨⟨by omega,aw,hy.1.2⟩,_,hy.1.1,?_⟩;have hBs:=hy.2;clear hy;simp only[go_sem,Cc.cs];refine⟨hBs,fun hf=>⟨k2,?_⟩,fun ht=>⟨by unfold aF;simp only[aq] at b0;omega,(k+1,m2),⟨by simp,.inl rfl⟩,⟨g1,by simp only;omega,?_⟩,by simp only;omega⟩⟩
      ·rw[hX,CR hk hf];simp
      ·simp only;rw[Cb hk,g3,ht];rfl
     ·have iR:ifs.take k=ifs:=fj (by clear y0 y1 y2;omega);rw[iR] at g3;rw[g3,Bool.true_and] at hX;clear g3 iR;refine ew Gz (fun y:Nat×Mem=>⟨[⟨1,[],.box 0 0⟩,⟨3,[],.v (.bool (hasB x.fl 512))⟩,⟨5,[],.v (.int .i64 y.1)⟩],[],[⟨0,59,x.cs.map .v⟩],[],1,y.2⟩)
       (fun y=>ae m2 y.2/\y.1<=x.fn/\(fields.take y.1).all jU=true) (fun y=>x.fn - y.1) (0,m2) (by kernel_rfl) (fun _ _=>av _) (fun y hy=> ?_) (fun _=> ?_) ?_ ?_ ?_
      ·exact hy.1
      ·simp only[go_sem,Cc.cs]
      ·simp only[go_sem,Cc.cs];rfl
      ·exact⟨.inl rfl,aD _,rfl⟩
      ·rintro⟨k,m3⟩ ⟨g1,g2,g3⟩;simp only at g1 g2 g3;have k3:=aa k2 g1;simp only[go_sem,Cc.cs];refine⟨fun aw=> ?_,fun cg=> ?_⟩
       ·have hk:k<fields.length:=by clear y0 y1 y2;omega
        have hy:=y1 m3 k3 k hk;clear y0 y1 y2;refine⟨⟨by clear hy;omega,aw,hy.1.2⟩,(fields[k]).cs,⟨hy.1.1,rfl⟩,?_⟩;have ha:=hy.2;clear hy;simp only[go_sem,Cc.cs,Fc.cs];refine ab ((aP ha (fun V=>rfl)).mono ?_);clear ha;rintro r H' m5 cK ⟨l5,rfl,rfl⟩;simp only[go_sem,Cc.cs];refine⟨fun hf=>⟨aa k3 l5,?_⟩,fun ht=>⟨by unfold aF;simp only[aq] at b1;omega,(k+1,m5),⟨by simp,.inl rfl⟩,⟨aa g1 l5,by simp only;omega,?_⟩,by simp only;omega⟩⟩
        ·rw[hX,CR hk hf];simp
        ·simp only;rw[Cb hk,g3,ht];rfl
       ·have iR:fields.take k=fields:=fj (by clear y0 y1 y2;omega);rw[iR] at g3;rw[g3,Bool.true_and] at hX;clear g3 iR;refine ew Gz (fun y:Nat×Mem=>⟨[⟨1,[],.box 0 0⟩,⟨3,[],.v (.bool (hasB x.fl 512))⟩,⟨6,[],.v (.int .i64 y.1)⟩],[],[⟨0,59,x.cs.map .v⟩],[],1,y.2⟩)
         (fun y=>ae m3 y.2/\y.1<=x.ml/\(methods.take y.1).all (fun e=>oI e (hasB x.fl 512))=true) (fun y=>x.ml - y.1) (0,m3) (by kernel_rfl) (fun _ _=>av _) (fun y hy=> ?_) (fun _=> ?_) ?_ ?_ ?_
        ·exact hy.1
        ·simp only[go_sem,Cc.cs]
        ·simp only[go_sem,Cc.cs];rfl
        ·exact⟨.inl rfl,aD _,rfl⟩
        ·rintro⟨k,m4⟩ ⟨g1,g2,g3⟩;simp only at g1 g2 g3;have k4:=aa k3 g1;simp only[go_sem,Cc.cs];refine⟨fun aw=> ?_,fun cg=> ?_⟩
         ·have hk:k<methods.length:=by clear y0 y1 y2;omega
          have hy:=y2 m4 k4 k hk;clear y0 y1 y2;refine Exists.elim hy fun X fW=>⟨⟨by clear hy fW;omega,aw,fW.1.2⟩,X.cs,⟨fW.1.1,rfl⟩,?_⟩
          have ha:=fW.2 (hasB x.fl 512);clear hy fW;simp only[go_sem,Cc.cs,Mc.cs];refine ab ((aP ha (fun V=>rfl)).mono ?_);clear ha;rintro r H' m5 cK ⟨l5,rfl,rfl⟩;simp only[go_sem,Cc.cs];refine⟨fun hf=>⟨aa k4 l5,?_⟩,fun ht=>⟨by unfold aF;simp only[aq] at b2;omega,(k+1,m5),⟨by simp,.inl rfl⟩,⟨aa g1 l5,by simp only;omega,?_⟩,by simp only;omega⟩⟩
          ·rw[hX];exact(CR (p:=(fun e=>oI e (hasB x.fl 512))) hk hf).symm
          ·simp only;rw[Cb hk,g3,ht];rfl
         ·have iR:methods.take k=methods:=fj (by clear y0 y1 y2;omega);rw[iR] at g3;exact⟨k4,by rw[hX];exact g3.symm⟩
  ·clear hB;rw[hX,hN];rcases hc with (((h |h) |h) |h) |h
   ·simp [h]
   ·simp [h]
   ·rw[dr (by omega:¬x.il<=8)];simp
   ·rw[dr (by omega:¬x.fn<=64)];simp
   ·rw[dr (by omega:¬x.ml<=64)];simp
mutual
def n9:St->Nat
 | .mk k _ _ tg ex body alt=>max (max (if k=11 then bU ex - 1 else max (bU tg) (bU ex)) (fw body)) (fw alt)
def fw:List St->Nat
 |[]=>0
 |e::r=>max (n9 e) (fw r)
end
theorem zC:∀{l:List St} {k:Nat} (hk:k<l.length),fw (l.take (k+1))=max (fw (l.take k)) (n9 l[k])
 |[],_,hk=>absurd hk (Nat.not_lt_zero _)
 |e::r,0,_=>by simp [fw]
 |e::r,k+1,hk=>by
  have:=zC (l:=r) (k:=k) (by simpa using hk);simp only[List.take_succ_cons,fw,this,List.getElem_cons_succ,Nat.max_assoc]
theorem AA {f:FuncId} {g:St->Value} {l:List St} {a:Option Addr} {n:Nat} {xs:List Value} {m:Mem} (hl:n=l.length) (hr:aX m a n 23 xs) (hs:bS m l xs)
  (ih:∀e∈l,∀cs m',ae m m' ->eX m' e cs->aK f [.v (.agg ⟨cs⟩)] m' (g e)) (mm:Mem) (hle:ae m mm) (k:Nat) (hk:k<l.length):
  ∃X:Sd,(Rd mm (cO a (k * 23)) X.cs/\a≠none)/\∀m2,ae mm m2->aK f [.v (.agg ⟨X.cs⟩)] m2 (g l[k]):=by
 have aT:=td hle (qw hs hk);obtain⟨X,e1⟩:=Fa aT;have r1:=dH (ay hle hr) (by omega:k<n);rw[e1] at r1 aT;exact⟨X,r1,fun m2 h2=>ih _ (List.getElem_mem hk) _ _ (aa hle h2) (td h2 aT)⟩
theorem Il:∀(h:Nat) (e:St) (cs:List Value) (m:Mem),eT e<=h->h<=aq->eX m e cs->aK 175 [.v (.agg ⟨cs⟩)] m (.int .i64 (eT e))
 |0,.mk k nm ty tg ex body alt,cs,m,hd,_,_=>by simp [eT] at hd
 |h+1,.mk k nm ty tg ex body alt,cs,m,hd,hb,he=>by
  obtain⟨X,rfl,rfl,rfl,rfl,dn,hex,hl,ba,ct,eb,au,xs,ys,r1,r2,s1,s2⟩:=rB he;simp only[eT] at hd;have bn:X.l<=aq:=by rw[hl];exact au.l
  have HI:X.l2<=aq:=by rw[ct];exact au.l2
  have hB:=AA (g:=fun e=> .int .i64 (eT e)) hl r1 s1 fun e he cs m2 aY aT=>Il h e cs m2 (by have:=my he;omega) (by omega) aT
  have hA:=AA (g:=fun e=> .int .i64 (eT e)) ct r2 s2 fun e he cs m2 aY aT=>Il h e cs m2 (by have:=my he;omega) (by omega) aT
  refine enter gY aB Tryz.func175 rfl rfl (by kernel_rfl) rfl ?_ ?_
  ·simp only[go_sem,Sd.cs,Nd.cs]
  ·simp only[go_sem,Sd.cs,Nd.cs];refine ew aB (fun x:Nat×Mem=>⟨[⟨1,[],.box 0 0⟩,⟨3,[],.v (.int .i64 (dy (body.take x.1)))⟩,⟨4,[],.v (.int .i64 x.1)⟩],[],[⟨0,73,(X.cs).map .v⟩],[],1,x.2⟩)
    (fun x=>ae m x.2/\x.1<=X.l) (fun x=>X.l - x.1) (0,m) (by kernel_rfl) (fun _ _=>av _) (fun x hx=>hx.1) (fun _=> ?_) ?_ ?_ ?_
   ·simp only[go_sem,Sd.cs,Nd.cs]
   ·simp only[go_sem,Sd.cs,Nd.cs];exact⟨rfl,rfl⟩
   ·exact⟨.inl rfl,aD _⟩
   ·rintro⟨i,mm⟩ ⟨h1,h2⟩;simp only at h1 h2;simp only[go_sem,Sd.cs,Nd.cs];refine⟨fun aw=> ?_,fun cg=> ?_⟩
    ·have hi:i<body.length:=by clear hA hB;omega
     clear hA;refine Exists.elim (hB mm h1 i hi) fun Y hY=>⟨⟨by clear hB hY;omega,aw,hY.1.2⟩,Y.cs,⟨hY.1.1,rfl⟩,?_⟩
     clear hB;have ha:=hY.2 mm (.inl rfl);clear hY;simp only[go_sem,Sd.cs,Nd.cs];refine ab ((aP ha (fun V=>rfl)).mono ?_);clear ha;rintro r H' m2 aH ⟨aY,rfl,rfl⟩;simp only[go_sem,Sd.cs,Nd.cs];have lx:=Br hi;refine⟨by unfold aF;simp only[aq] at bn;omega,(i+1,m2),⟨⟨?_,by simp⟩,.inl rfl⟩,⟨aa h1 aY,by simp only;omega⟩,by simp only;omega⟩;simp only;rw[lx];split<;>omega
    ·clear hB;have e0:body.take i=body:=fj (by clear hA;omega);rw[e0];refine ew aB (fun x:Nat×Nat×Mem=>⟨[⟨1,[],.box 0 0⟩,⟨3,[],.v (.int .i64 x.2.1)⟩,⟨5,[],.v (.int .i64 x.1)⟩],[],[⟨0,73,(X.cs).map .v⟩],[],1,x.2.2⟩)
      (fun x=>ae mm x.2.2/\x.1<=X.l2/\x.2.1=max (dy body) (dy (alt.take x.1))) (fun x=>X.l2 - x.1) (0,dy body,mm) (by kernel_rfl) (fun _ _=>av _) (fun x hx=> ?_) (fun _=> ?_) ?_ ?_ ?_
     ·exact hx.1
     ·simp only[go_sem,Sd.cs,Nd.cs]
     ·simp only[go_sem,Sd.cs,Nd.cs];rfl
     ·exact⟨.inl rfl,aD _,by simp only[List.take_zero,dy,Nat.max_zero]⟩
     ·rintro⟨j,v,mj⟩ ⟨h3,h4,h5⟩;simp only at h3 h4 h5;simp only[go_sem,Sd.cs,Nd.cs];refine⟨fun aw=> ?_,fun cg=> ?_⟩
      ·have hi:j<alt.length:=by clear hA;omega
       refine Exists.elim (hA mj (aa h1 h3) j hi) fun Y hY=>⟨⟨by clear hA hY;omega,aw,hY.1.2⟩,Y.cs,⟨hY.1.1,rfl⟩,?_⟩
       clear hA;have ha:=hY.2 mj (.inl rfl);clear hY;simp only[go_sem,Sd.cs,Nd.cs];refine ab ((aP ha (fun V=>rfl)).mono ?_);clear ha;rintro r H' m2 aH ⟨aY,rfl,rfl⟩;simp only[go_sem,Sd.cs,Nd.cs];have lx:=Br hi;refine⟨by unfold aF;simp only[aq] at HI;omega,(j+1,max v (eT alt[j]),m2),⟨⟨?_,by simp⟩,.inl rfl⟩,⟨aa h3 aY,by simp only;omega,by simp only;rw[lx,h5];exact Nat.max_assoc _ _ _⟩,by simp only;omega⟩;simp only;split<;>omega
      ·clear hA;have e1:alt.take j=alt:=fj (by omega);rw[e1] at h5;simp only[eT];exact⟨by unfold aF;simp only[aq] at hb;omega,aa h1 h3,by omega⟩
theorem ID:∀(h:Nat) (e:St) (cs:List Value) (m:Mem),eT e<=h->fS e<=aq->eX m e cs->aK 176 [.v (.agg ⟨cs⟩)] m (.int .i64 (n9 e))
 |0,.mk k nm ty tg ex body alt,cs,m,hd,_,_=>by simp [eT] at hd
 |h+1,.mk k nm ty tg ex body alt,cs,m,hd,hb,he=>by
  obtain⟨X,rfl,rfl,rfl,rfl,dn,hex,hl,ba,ct,eb,au,xs,ys,r1,r2,s1,s2⟩:=rB he;simp only[eT] at hd;simp only[fS] at hb;have z1:=xH tg;have z2:=xH ex;have hT:=fun m2 (hle:ae m m2)=>EI _ tg X.tg.cs m2 (av _) (by omega) (bq hle dn)
  have hE:=fun m2 (hle:ae m m2)=>EI _ ex X.ex.cs m2 (av _) (by omega) (bq hle hex)
  have bn:X.l<=aq:=by rw[hl];exact au.l
  have HI:X.l2<=aq:=by rw[ct];exact au.l2
  have hB:=AA (g:=fun e=> .int .i64 (n9 e)) hl r1 s1 fun e he cs m2 aY aT=>ID h e cs m2 (by have:=my he;omega) (by have:=uF he;omega) aT
  have hA:=AA (g:=fun e=> .int .i64 (n9 e)) ct r2 s2 fun e he cs m2 aY aT=>ID h e cs m2 (by have:=my he;omega) (by have:=uF he;omega) aT
  refine enter gY aB Tryz.func176 rfl rfl (by kernel_rfl) rfl ?_ ?_
  ·simp only[go_sem,Sd.cs,Nd.cs]
  ·simp only[go_sem,Sd.cs,Nd.cs];refine bO (.hoist 0 (.hoist 1 (.hoist 3 (.hoist 4 (.alt 2 [4,3] (.alt 5 [] (.hoist 6 (.hoist 7 .done)) .stop) .stop))))) aB (by kernel_rfl) (by kernel_rfl) ?_;simp only[go_sem,Sd.cs,Nd.cs];refine ab ((aP (hT m (.inl rfl)) (fun V=>rfl)).mono ?_);clear hT;rintro r H' m1 aN ⟨l1,rfl,rfl⟩;have zl:=hE m1 l1;simp only[go_sem,Sd.cs,Nd.cs,l1,and_self];refine ab ((aP zl (fun V=>rfl)).mono ?_);clear zl;rintro r H' m2 aH ⟨l2,rfl,rfl⟩;have k2:=aa l1 l2;have cA:=hE m2 k2;clear hE;simp only[go_sem,Sd.cs,Nd.cs,l1,l2,k2,and_self];refine⟨fun uy=>ab ((aP cA (fun V=>rfl)).mono ?_),fun uy=> ?_⟩
   ·clear cA;rintro r H' m3 bI ⟨l3,rfl,rfl⟩;have k3:=aa k2 l3;simp only[go_sem,Sd.cs,Nd.cs];refine⟨by unfold aF;simp only[aq] at hb;omega,?_⟩;have hR:n9 (.mk X.k X.name X.ty tg ex body alt)=max (max (bU ex - 1) (fw body)) (fw alt):=by
     rw[n9,ah uy]
    rw[hR];clear hR;refine ew aB (fun x:Nat×Int×Mem=>⟨[⟨1,[],.box 0 0⟩,⟨3,[],.v (.int .i64 x.2.1)⟩,⟨4,[],.v (.int .i64 x.1)⟩],[],[⟨0,73,(X.cs).map .v⟩],[],1,x.2.2⟩)
     (fun x=>ae m3 x.2.2/\x.1<=X.l/\x.2.1=(max (bU ex - 1) (fw (body.take x.1)):Nat)) (fun x=>X.l - x.1) (0,((bU ex:Nat):Int) - 1,m3) (by kernel_rfl) (fun _ _=>av _) (fun x hx=> ?_) (fun _=> ?_) ?_ ?_ ?_
    ·exact hx.1
    ·simp only[go_sem,Sd.cs,Nd.cs]
    ·simp only[go_sem,Sd.cs,Nd.cs];rfl
    ·refine⟨.inl rfl,aD _,?_⟩;simp only[List.take_zero,fw,Nat.max_zero];have:1<=bU ex:=by cases ex;simp only[bU];omega
     omega
    ·rintro⟨i,v,mm⟩ ⟨h1,h2,h5⟩;simp only at h1 h2 h5;have q1:=aa k3 h1;simp only[go_sem,Sd.cs,Nd.cs];refine⟨fun aw=> ?_,fun cg=> ?_⟩
     ·have hi:i<body.length:=by clear hA hB;omega
      refine Exists.elim (hB mm q1 i hi) fun Y hY=>⟨⟨by clear hA hB hY;omega,aw,hY.1.2⟩,Y.cs,⟨hY.1.1,rfl⟩,?_⟩
      have ha:=hY.2 mm (.inl rfl);clear hY hA hB;simp only[go_sem,Sd.cs,Nd.cs];refine ab ((aP ha (fun V=>rfl)).mono ?_);clear ha;rintro r H' m5 cK ⟨aY,rfl,rfl⟩;simp only[go_sem,Sd.cs,Nd.cs];have lx:=zC hi;refine⟨by unfold aF;simp only[aq] at bn;omega,(i+1,((max (bU ex - 1) (fw (body.take (i+1))):Nat):Int),m5),⟨⟨?_,by simp⟩,.inl rfl⟩,⟨aa h1 aY,by simp only;omega,rfl⟩,by simp only;omega⟩;simp only;rw[lx,h5];split<;>omega
     ·clear hB;have e0:body.take i=body:=fj (by clear hA;omega);rw[e0] at h5;refine ew aB (fun x:Nat×Int×Mem=>⟨[⟨1,[],.box 0 0⟩,⟨3,[],.v (.int .i64 x.2.1)⟩,⟨5,[],.v (.int .i64 x.1)⟩],[],[⟨0,73,(X.cs).map .v⟩],[],1,x.2.2⟩)
       (fun x=>ae mm x.2.2/\x.1<=X.l2/\x.2.1=(max (max (bU ex - 1) (fw body)) (fw (alt.take x.1)):Nat)) (fun x=>X.l2 - x.1) (0,v,mm) (by kernel_rfl) (fun _ _=>av _) (fun x hx=> ?_) (fun _=> ?_) ?_ ?_ ?_
      ·exact hx.1
      ·simp only[go_sem,Sd.cs,Nd.cs]
      ·simp only[go_sem,Sd.cs,Nd.cs];rfl
      ·exact⟨.inl rfl,aD _,by simp only[List.take_zero,fw,Nat.max_zero];exact h5⟩
      ·rintro⟨j,u,mj⟩ ⟨h3,h4,h6⟩;simp only at h3 h4 h6;have q2:=aa q1 h3;have hB:=True.intro;simp only[go_sem,Sd.cs,Nd.cs];refine⟨fun aw=> ?_,fun cg=> ?_⟩
       ·have hi:j<alt.length:=by clear hA hB;omega
        refine Exists.elim (hA mj q2 j hi) fun Y hY=>⟨⟨by clear hA hB hY;omega,aw,hY.1.2⟩,Y.cs,⟨hY.1.1,rfl⟩,?_⟩
        have ha:=hY.2 mj (.inl rfl);clear hY hA hB;simp only[go_sem,Sd.cs,Nd.cs];refine ab ((aP ha (fun V=>rfl)).mono ?_);clear ha;rintro r H' m5 cK ⟨aY,rfl,rfl⟩;simp only[go_sem,Sd.cs,Nd.cs];have lx:=zC hi;refine⟨by unfold aF;simp only[aq] at HI;omega,(j+1,((max (max (bU ex - 1) (fw body)) (fw (alt.take (j+1))):Nat):Int),m5),⟨⟨?_,by simp⟩,.inl rfl⟩,⟨aa h3 aY,by simp only;omega,rfl⟩,by simp only;omega⟩;simp only;rw[lx,h6];split<;>omega
       ·clear hA hB;have e1:alt.take j=alt:=fj (by omega);rw[e1] at h6;exact⟨q2,h6⟩
   ·clear cA;have hR:n9 (.mk X.k X.name X.ty tg ex body alt)=max (max (max (bU tg) (bU ex)) (fw body)) (fw alt):=by
     rw[n9,af uy]
    rw[hR];clear hR;refine ew aB (fun x:Nat×Int×Mem=>⟨[⟨1,[],.box 0 0⟩,⟨3,[],.v (.int .i64 x.2.1)⟩,⟨4,[],.v (.int .i64 x.1)⟩],[],[⟨0,73,(X.cs).map .v⟩],[],1,x.2.2⟩)
     (fun x=>ae m2 x.2.2/\x.1<=X.l/\x.2.1=(max (max (bU tg) (bU ex)) (fw (body.take x.1)):Nat)) (fun x=>X.l - x.1) (0,(if((bU tg:Nat):Int)<(bU ex:Nat) then((bU ex:Nat):Int) else((bU tg:Nat):Int)),m2) (by kernel_rfl) (fun _ _=>av _) (fun x hx=> ?_) (fun _=> ?_) ?_ ?_ ?_
    ·exact hx.1
    ·simp only[go_sem,Sd.cs,Nd.cs]
    ·simp only[go_sem,Sd.cs,Nd.cs];rfl
    ·refine⟨.inl rfl,aD _,?_⟩;simp only[List.take_zero,fw,Nat.max_zero];split<;>omega
    ·rintro⟨i,v,mm⟩ ⟨h1,h2,h5⟩;simp only at h1 h2 h5;have q1:=aa k2 h1;simp only[go_sem,Sd.cs,Nd.cs];refine⟨fun aw=> ?_,fun cg=> ?_⟩
     ·have hi:i<body.length:=by clear hA hB;omega
      refine Exists.elim (hB mm q1 i hi) fun Y hY=>⟨⟨by clear hA hB hY;omega,aw,hY.1.2⟩,Y.cs,⟨hY.1.1,rfl⟩,?_⟩
      have ha:=hY.2 mm (.inl rfl);clear hY hA hB;simp only[go_sem,Sd.cs,Nd.cs];refine ab ((aP ha (fun V=>rfl)).mono ?_);clear ha;rintro r H' m5 cK ⟨aY,rfl,rfl⟩;simp only[go_sem,Sd.cs,Nd.cs];have lx:=zC hi;refine⟨by unfold aF;simp only[aq] at bn;omega,(i+1,((max (max (bU tg) (bU ex)) (fw (body.take (i+1))):Nat):Int),m5),⟨⟨?_,by simp⟩,.inl rfl⟩,⟨aa h1 aY,by simp only;omega,rfl⟩,by simp only;omega⟩;simp only;rw[lx,h5];split<;>omega
     ·clear hB;have e0:body.take i=body:=fj (by clear hA;omega);rw[e0] at h5;refine ew aB (fun x:Nat×Int×Mem=>⟨[⟨1,[],.box 0 0⟩,⟨3,[],.v (.int .i64 x.2.1)⟩,⟨5,[],.v (.int .i64 x.1)⟩],[],[⟨0,73,(X.cs).map .v⟩],[],1,x.2.2⟩)
       (fun x=>ae mm x.2.2/\x.1<=X.l2/\x.2.1=(max (max (max (bU tg) (bU ex)) (fw body)) (fw (alt.take x.1)):Nat)) (fun x=>X.l2 - x.1) (0,v,mm) (by kernel_rfl) (fun _ _=>av _) (fun x hx=> ?_) (fun _=> ?_) ?_ ?_ ?_
      ·exact hx.1
      ·simp only[go_sem,Sd.cs,Nd.cs]
      ·simp only[go_sem,Sd.cs,Nd.cs];rfl
      ·exact⟨.inl rfl,aD _,by simp only[List.take_zero,fw,Nat.max_zero];exact h5⟩
      ·rintro⟨j,u,mj⟩ ⟨h3,h4,h6⟩;simp only at h3 h4 h6;have q2:=aa q1 h3;have hB:=True.intro;simp only[go_sem,Sd.cs,Nd.cs];refine⟨fun aw=> ?_,fun cg=> ?_⟩
       ·have hi:j<alt.length:=by clear hA hB;omega
        refine Exists.elim (hA mj q2 j hi) fun Y hY=>⟨⟨by clear hA hB hY;omega,aw,hY.1.2⟩,Y.cs,⟨hY.1.1,rfl⟩,?_⟩
        have ha:=hY.2 mj (.inl rfl);clear hY hA hB;simp only[go_sem,Sd.cs,Nd.cs];refine ab ((aP ha (fun V=>rfl)).mono ?_);clear ha;rintro r H' m5 cK ⟨aY,rfl,rfl⟩;simp only[go_sem,Sd.cs,Nd.cs];have lx:=zC hi;refine⟨by unfold aF;simp only[aq] at HI;omega,(j+1,((max (max (max (bU tg) (bU ex)) (fw body)) (fw (alt.take (j+1))):Nat):Int),m5),⟨⟨?_,by simp⟩,.inl rfl⟩,⟨aa h3 aY,by simp only;omega,rfl⟩,by simp only;omega⟩;simp only;rw[lx,h6];split<;>omega
       ·clear hA hB;have e1:alt.take j=alt:=fj (by omega);rw[e1] at h6;exact⟨q2,h6⟩
def km (l:List St):Bool:=decide (dy l<=24)&&decide (fw l<=24)
theorem E5 {α:Type} [BEq α] {l:List α} {k:Nat} (hk:k<l.length) (a:α):(l.take (k+1)).contains a=((l.take k).contains a||a==l[k]):=by
 rw[List.take_succ_eq_append_getElem hk,List.contains_eq_any_beq,List.contains_eq_any_beq,List.any_append];simp only[List.any_cons,List.any_nil,Bool.or_false]
theorem FP {α:Type} [BEq α] [LawfulBEq α] {l:List α} {k j:Nat} (hj:j<k) (hk:k<l.length) (a:α) (h:l[j]=a):(l.take k).contains a=true:=by
 rw[List.contains_iff_mem];rw[<- h];have e:(l.take k)[j]'(by rw[List.length_take];omega)=l[j]:=List.getElem_take;rw[<- e];exact List.getElem_mem _
set_option maxHeartbeats 8000000 in
theorem W6 (d:Cd) (cs:List Value) (m:Mem) (h:jL m d cs):aK 44 [.v (.agg ⟨cs⟩)] m (.bool (nL d)):=by
 obtain⟨fl,name,super,ifs,fields,methods,init⟩:=d;obtain⟨x,⟨rfl,rfl,rfl,rfl⟩,⟨dv,hic,gC,hfc,hml,hmc,fG,hsc⟩,au,r1,r2,xs,ys,r3,s3,r4,s4⟩:=h;simp only at dv gC hml fG r1 r2 r3 s3 r4 s4;have b0:x.il<=aq:=by rw[dv];exact au.il
 have b1:x.fn<=aq:=by rw[gC];exact au.fn
 have b2:x.ml<=aq:=by rw[hml];exact au.ml
 clear r4 s4;have y0:∀i (hk:i<ifs.length),Rd m (cO x.ia i) [.string (bs ifs[i])]/\x.ia≠none:=fun i hk=>Ac r1 hk
 have y1:∀i (hk:i<fields.length),Rd m (cO x.fa (i * 5)) (fields[i]).cs/\x.fa≠none:=fun i hk=>by
  have:=dH r2 (by omega:i<x.fn);rw[oJ (f:=Fc.cs) (sz:=5) (fun _=>rfl) hk] at this;exact this
 have y2:∀i (hk:i<methods.length),∃X:Mc,(Rd m (cO x.ma (i * 8)) X.cs/\x.ma≠none)/\X.name=methods[i].name/\X.pl=methods[i].params.length:=fun i hk=>by
  have aT:=nZ s3 hk;have bW:=dH r3 (by omega:i<x.ml);obtain⟨X,e1,e2,_⟩:=aT;rw[e1.1] at bW;exact⟨X,bW,e1.2.2.2.1,e2.1⟩
 refine enter gY aB Tryz.func44 rfl rfl (by kernel_rfl) rfl ?_ ?_
 ·simp only[go_sem,Cc.cs]
 ·simp only[go_sem,Cc.cs];refine ew aB (fun y:Nat=>⟨[⟨1,[],.box 0 0⟩,⟨3,[],.v (.int .i64 y)⟩],[],[⟨0,59,x.cs.map .v⟩],[],1,m⟩)
   (fun y=>y<=x.il/\jx [] ifs=jx (ifs.take y) (ifs.drop y)) (fun y=>x.il - y) 0 (by kernel_rfl) (fun _ _=>av _) (fun _ _=> .inl rfl) (fun _=> ?_) ?_ ?_ ?_
  ·simp only[go_sem,Cc.cs]
  ·simp only[go_sem,Cc.cs];rfl
  ·exact⟨aD _,rfl⟩
  ·rintro k0 ⟨h0,g0⟩;simp only[go_sem,Cc.cs];refine⟨fun aw=> ?_,fun cg=> ?_⟩
   ·have hk:k0<ifs.length:=by omega
    have cF:k0<ifs.length:=by simpa using hk
    have kS:=zY cF;refine ew aB (fun y:Nat=>⟨[⟨1,[],.box 0 0⟩,⟨3,[],.v (.int .i64 k0)⟩,⟨4,[],.v (.int .i64 y)⟩],[],[⟨0,59,x.cs.map .v⟩],[],1,m⟩)
     (fun y=>y<=k0/\(ifs.take y).contains ifs[k0]=false) (fun y=>k0 - y) 0 (by kernel_rfl) (fun _ _=>av _) (fun _ _=> .inl rfl) (fun _=> ?_) ?_ ?_ ?_
    ·simp only[go_sem,Cc.cs]
    ·simp only[go_sem,Cc.cs];rfl
    ·exact⟨aD _,by simp⟩
    ·rintro j ⟨u1,u2⟩;simp only[go_sem,Cc.cs];refine⟨fun Mt=> ?_,fun Mu=> ?_⟩
     ·have hj:j<ifs.length:=by omega
      have oB:j<ifs.length:=by simpa using hj
      have mo:=E5 oB ifs[k0];have uu:=fun(qV:j<k0) (he:ifs[j]=ifs[k0])=>FP qV cF ifs[k0] he
      refine bO (.hoist 0 (.hoist 1 (.hoist 2 (.hoist 3 (.hoist 4 (.hoist 5 (.hoist 6 (.hoist 7 (.hoist 8 (.hoist 9 (.hoist 10 .done))))))))))) aB (by kernel_rfl) (by kernel_rfl) ?_;simp only[go_sem,Cc.cs];refine⟨⟨by omega,by omega,(y0 k0 hk).2⟩,.string (bs ifs[k0]),(y0 k0 hk).1,⟨by omega,by omega,(y0 j hj).2⟩,.string (bs ifs[j]),(y0 j hj).1,?_⟩;simp only[go_sem,Cc.cs,Fc.cs];refine⟨fun he=> ?_,fun db=>⟨by unfold aF;simp only[aq] at b0;omega,j+1,by simp,⟨by omega,?_⟩,by omega⟩⟩
      ·have hc:=uu (by omega) he.symm;rw[nL,g0,kS,hc];rfl
      ·rw[mo,u2,beq_eq_false_iff_ne.2 db];rfl
     ·have lv:j=k0:=by omega
      subst lv;exact⟨by unfold aF;simp only[aq] at b0;omega,j+1,by simp,⟨by omega,by rw[g0,kS,u2];rfl⟩,by omega⟩
   ·have e0:jx [] ifs=false:=by
     rw[g0,List.drop_of_length_le (by omega)];rfl
    refine ew aB (fun y:Nat=>⟨[⟨1,[],.box 0 0⟩,⟨5,[],.v (.int .i64 y)⟩],[],[⟨0,59,x.cs.map .v⟩],[],1,m⟩)
     (fun y=>y<=x.fn/\jx [] (fields.map (·.name))=jx ((fields.map (·.name)).take y) ((fields.map (·.name)).drop y)) (fun y=>x.fn - y) 0 (by kernel_rfl) (fun _ _=>av _) (fun _ _=> .inl rfl) (fun _=> ?_) ?_ ?_ ?_
    ·simp only[go_sem,Cc.cs]
    ·simp only[go_sem,Cc.cs];rfl
    ·exact⟨aD _,rfl⟩
    ·rintro k1 ⟨h1,g1⟩;simp only[go_sem,Cc.cs];refine⟨fun aw=> ?_,fun cg=> ?_⟩
     ·have hk:k1<fields.length:=by omega
      have cF:k1<(fields.map (·.name)).length:=by simpa using hk
      have kS:=zY cF;refine ew aB (fun y:Nat=>⟨[⟨1,[],.box 0 0⟩,⟨5,[],.v (.int .i64 k1)⟩,⟨6,[],.v (.int .i64 y)⟩],[],[⟨0,59,x.cs.map .v⟩],[],1,m⟩)
       (fun y=>y<=k1/\((fields.map (·.name)).take y).contains (fields.map (·.name))[k1]=false) (fun y=>k1 - y) 0 (by kernel_rfl) (fun _ _=>av _) (fun _ _=> .inl rfl) (fun _=> ?_) ?_ ?_ ?_
      ·simp only[go_sem,Cc.cs]
      ·simp only[go_sem,Cc.cs];rfl
      ·exact⟨aD _,by simp⟩
      ·rintro j ⟨u1,u2⟩;simp only[go_sem,Cc.cs];refine⟨fun Mt=> ?_,fun Mu=> ?_⟩
       ·have hj:j<fields.length:=by omega
        have oB:j<(fields.map (·.name)).length:=by simpa using hj
        have mo:=E5 oB (fields.map (·.name))[k1];have uu:=fun(qV:j<k1) (he:(fields.map (·.name))[j]=(fields.map (·.name))[k1])=>FP qV cF (fields.map (·.name))[k1] he
        refine bO (.hoist 0 (.hoist 1 (.hoist 2 (.hoist 3 (.hoist 4 (.hoist 5 (.hoist 6 (.hoist 7 (.hoist 8 (.hoist 9 (.hoist 10 (.hoist 11 (.hoist 12 .done))))))))))))) aB (by kernel_rfl) (by kernel_rfl) ?_;simp only[go_sem,Cc.cs];refine⟨⟨by omega,by omega,(y1 k1 hk).2⟩,iZ (y1 k1 hk).1,.string (bs (fields[k1]).name),gU (y1 k1 hk).1 4 1 (dC rfl),⟨by omega,by omega,(y1 j hj).2⟩,iZ (y1 j hj).1,.string (bs (fields[j]).name),gU (y1 j hj).1 4 1 (dC rfl),?_⟩;simp only[go_sem,Cc.cs,Fc.cs];simp only[List.getElem_map] at mo uu u2;refine⟨fun he=> ?_,fun db=>⟨by unfold aF;simp only[aq] at b1;omega,j+1,by simp,⟨by omega,?_⟩,by omega⟩⟩
        ·have hc:=uu (by omega) he.symm;simp only[List.getElem_map] at kS;simp only[nL,g1,kS,hc,Bool.true_or,Bool.or_true]
        ·rw[List.getElem_map,mo,u2,beq_eq_false_iff_ne.2 db];rfl
       ·have lv:j=k1:=by omega
        subst lv;exact⟨by unfold aF;simp only[aq] at b1;omega,j+1,by simp,⟨by omega,by rw[g1,kS,u2];rfl⟩,by omega⟩
     ·have e1:jx [] (fields.map (·.name))=false:=by
       rw[g1,List.drop_of_length_le (by simp;omega)];rfl
      refine ew aB (fun y:Nat=>⟨[⟨1,[],.box 0 0⟩,⟨7,[],.v (.int .i64 y)⟩],[],[⟨0,59,x.cs.map .v⟩],[],1,m⟩)
       (fun y=>y<=x.ml/\jx [] (methods.map fun m=>(m.name,m.params.length))=jx ((methods.map fun m=>(m.name,m.params.length)).take y) ((methods.map fun m=>(m.name,m.params.length)).drop y)) (fun y=>x.ml - y) 0 (by kernel_rfl) (fun _ _=>av _) (fun _ _=> .inl rfl) (fun _=> ?_) ?_ ?_ ?_
      ·simp only[go_sem,Cc.cs]
      ·simp only[go_sem,Cc.cs];rfl
      ·exact⟨aD _,rfl⟩
      ·rintro k2 ⟨h2,g2⟩;simp only[go_sem,Cc.cs];refine⟨fun aw=> ?_,fun cg=> ?_⟩
       ·have hk:k2<methods.length:=by omega
        have cF:k2<(methods.map fun m=>(m.name,m.params.length)).length:=by simpa using hk
        have kS:=zY cF;refine ew aB (fun y:Nat=>⟨[⟨1,[],.box 0 0⟩,⟨7,[],.v (.int .i64 k2)⟩,⟨8,[],.v (.int .i64 y)⟩],[],[⟨0,59,x.cs.map .v⟩],[],1,m⟩)
         (fun y=>y<=k2/\((methods.map fun m=>(m.name,m.params.length)).take y).contains (methods.map fun m=>(m.name,m.params.length))[k2]=false) (fun y=>k2 - y) 0 (by kernel_rfl) (fun _ _=>av _) (fun _ _=> .inl rfl) (fun _=> ?_) ?_ ?_ ?_
        ·simp only[go_sem,Cc.cs]
        ·simp only[go_sem,Cc.cs];rfl
        ·exact⟨aD _,by simp⟩
        ·rintro j ⟨u1,u2⟩;simp only[go_sem,Cc.cs];refine⟨fun Mt=> ?_,fun Mu=> ?_⟩
         ·have hj:j<methods.length:=by omega
          have oB:j<(methods.map fun m=>(m.name,m.params.length)).length:=by simpa using hj
          have mo:=E5 oB (methods.map fun m=>(m.name,m.params.length))[k2];have uu:=fun(qV:j<k2) (he:(methods.map fun m=>(m.name,m.params.length))[j]=(methods.map fun m=>(m.name,m.params.length))[k2])=>FP qV cF (methods.map fun m=>(m.name,m.params.length))[k2] he
          refine bO (.hoist 0 (.hoist 1 (.hoist 2 (.hoist 3 (.hoist 4 (.hoist 5 (.hoist 6 (.hoist 7 (.hoist 8 (.hoist 9 (.hoist 10 (.hoist 11 (.hoist 12 (.hoist 13 (.hoist 14 (.hoist 15 (.hoist 16 (.hoist 17 (.hoist 18 (.hoist 19 (.hoist 20 (.hoist 21 (.hoist 22 (.hoist 23 (.hoist 24 (.hoist 25 (.hoist 26 (.hoist 27 (.hoist 28 (.hoist 29 .done)))))))))))))))))))))))))))))) aB (by kernel_rfl) (by kernel_rfl) ?_;simp only[go_sem,Cc.cs];refine Exists.elim (y2 k2 hk) fun X hX=>Exists.elim (y2 j hj) fun Y hY=> ?_
          refine⟨⟨by clear hX hY;omega,by clear hX hY;omega,hX.1.2⟩,iZ hX.1.1,.string (bs X.name),gU hX.1.1 4 1 (dC rfl),⟨by clear hX hY;omega,by clear hX hY;omega,hY.1.2⟩,iZ hY.1.1,.string (bs Y.name),gU hY.1.1 4 1 (dC rfl),?_⟩;simp only[go_sem,Cc.cs,Mc.cs];refine⟨fun _=>⟨by clear hX hY;omega,by clear hX hY;omega,hX.1.2⟩,fun _=>iZ hX.1.1,.slice X.pa X.pl X.pc,fun _=>gU hX.1.1 5 1 (dC rfl),?_⟩;simp only[go_sem,Cc.cs,Mc.cs];refine⟨fun _=>⟨by clear hX hY;omega,by clear hX hY;omega,hY.1.2⟩,fun _=>iZ hY.1.1,.slice Y.pa Y.pl Y.pc,fun _=>gU hY.1.1 5 1 (dC rfl),?_⟩;have e3:(methods.map fun m=>(m.name,m.params.length))[k2]=(X.name,X.pl):=by rw[List.getElem_map,hX.2.1,hX.2.2]
          have e4:(methods.map fun m=>(m.name,m.params.length))[j]=(Y.name,Y.pl):=by rw[List.getElem_map,hY.2.1,hY.2.2]
          rw[e3] at uu kS u2 mo;rw[e4] at uu mo;clear hX hY e4;simp only[go_sem,Cc.cs,Mc.cs];refine⟨fun he=> ?_,fun db=>⟨by unfold aF;simp only[aq] at b2;omega,j+1,by simp,⟨by omega,?_⟩,by omega⟩⟩
          ·have hc:=uu (by omega) (by rw[he.1,(by omega:X.pl=Y.pl)]);simp only[nL,g2,kS,hc,Bool.true_or,Bool.or_true]
          ·have hn:¬(X.name,X.pl)=(Y.name,Y.pl):=fun h=>by
            have g1:=congrArg Prod.fst h;have g2:=congrArg Prod.snd h;simp only at g1 g2;rcases db with h |h
            ·exact h g1
            ·omega
           rw[e3,mo,u2,beq_eq_false_iff_ne.2 hn];rfl
         ·have lv:j=k2:=by omega
          subst lv;exact⟨by unfold aF;simp only[aq] at b2;omega,j+1,by simp,⟨by omega,by rw[g2,kS,u2];rfl⟩,by omega⟩
       ·have e2:jx [] (methods.map fun m=>(m.name,m.params.length))=false:=by
         rw[g2,List.drop_of_length_le (by simp;omega)];rfl
        simp only[nL,e0,e1,e2];rfl
theorem Ys {l:List St} {k:Nat} (hk:k<l.length) (h:km (l.take k)=true):km (l.take (k+1))=(decide (eT l[k]<=24)&&decide (n9 l[k]<=24)):=by
 simp only[km,aG,bu] at h;rw[km,Br hk,zC hk,<- Bool.decide_and,<- Bool.decide_and,decide_eq_decide];omega
theorem abp {l:List St} {k:Nat} (h:km (l.take (k+1))=false) (hk:k<l.length):km l=false:=by
 have h1:=EO l (k+1);have h2:fw (l.take (k+1))<=fw l:=by
  have:∀(l:List St) (k:Nat),fw (l.take k)<=fw l:=fun l=>by
   induction l with
   |nil=>intro k;simp
   |cons a r ih=>
    intro k;cases k with
    |zero=>simp [fw]
    |succ k=>
     have:=ih k;simp only[List.take_succ_cons,fw];omega
  exact this l (k+1)
 cases hf:km l with
 |false=>rfl
 |true=>
  simp only[km,aG,bu] at hf;rw[km,eH (by omega),eH (by omega)] at h;cases h
theorem NU (l:List St) (a:Option Addr) (n c:Nat) (xs:List Value) (m:Mem) (hl:n=l.length) (hr:aX m a n 23 xs) (hs:bS m l xs) (hn:n<=aq) (hz:cY l<=aq):aK 112 [.v (.slice a n c)] m (.bool (km l)):=by
 have hD:=AA (g:=fun e=> .int .i64 (eT e)) hl hr hs fun e he cs m2 aY aT=>Il _ e cs m2 (av _) (by have:=uF he;have:=Pp e;omega) aT
 have hE:=AA (g:=fun e=> .int .i64 (n9 e)) hl hr hs fun e he cs m2 aY aT=>ID _ e cs m2 (av _) (by have:=uF he;omega) aT
 refine aR aB Tryz.func112 ?_
 ·simp only[go_sem];refine dA aB (fun x:Nat×Mem=>⟨[⟨0,[],.v (.slice a n c)⟩,⟨3,[],.v (.int .i64 x.1)⟩],[],[],[],0,x.2⟩)
    (fun x=>ae m x.2/\x.1<=n/\km (l.take x.1)=true) (fun x=>n - x.1) (0,m) (fun _ _=>av _) (fun x hx=>hx.1) ?_ ?_ ?_
  ·simp only[go_sem];rfl
  ·exact⟨.inl rfl,aD _,rfl⟩
  ·rintro⟨k,mm⟩ ⟨h1,h2,h3⟩;simp only at h1 h2 h3;simp only[go_sem];refine⟨fun aw=> ?_,fun cg=>⟨h1,?_⟩⟩
   ·have hk:k<l.length:=by clear hD hE;omega
    have hT:=Ys hk h3;have hF:=fun(h:km (l.take (k+1))=false)=>abp h hk
    have HD:=fun m2 (h:ae m m2)=>hE m2 h k hk
    clear hE;refine Exists.elim (hD mm h1 k hk) fun X hX=>⟨⟨by clear hD HD hX;omega,aw,hX.1.2⟩,X.cs,⟨hX.1.1,rfl⟩,?_⟩
    clear hD;have ha:=hX.2 mm (.inl rfl);clear hX;simp only[go_sem,Sd.cs,Nd.cs];refine ab ((aP ha (fun V=>rfl)).mono ?_);clear ha;rintro r H' m2 aH ⟨l2,rfl,rfl⟩;have k2:=aa h1 l2;simp only[go_sem,Sd.cs,Nd.cs];refine Exists.elim (HD m2 k2) fun Y hY=>⟨fun _=>⟨by clear HD hY;omega,aw,hY.1.2⟩,Y.cs,fun _=>⟨hY.1.1,rfl⟩,?_⟩
    clear HD;have ha:=hY.2 m2 (.inl rfl);clear hY;simp only[go_sem,Sd.cs,Nd.cs];refine⟨fun hc=>ab ((aP ha (fun V=>rfl)).mono ?_),fun hc=> ?_⟩
    ·clear ha;rintro r H' m3 bI ⟨l3,rfl,rfl⟩;have k3:=aa k2 l3;simp only[go_sem,Sd.cs,Nd.cs];refine⟨fun hb=>⟨k3,?_⟩,fun hb=>⟨by unfold aF;simp only[aq] at hn;omega,(k+1,m3),⟨by simp,.inl rfl⟩,⟨k3,by simp only;omega,?_⟩,by simp only;omega⟩⟩
     ·rw[hF];rw[hT,dr (by omega:¬n9 l[k]<=24),Bool.and_false]
     ·simp only;rw[hT,eH (by omega:eT l[k]<=24),eH (by omega:n9 l[k]<=24)];rfl
    ·clear ha;refine⟨k2,?_⟩;rw[hF];rw[hT,dr (by omega:¬eT l[k]<=24),Bool.false_and]
   ·clear hD hE;rw[fj (by omega)] at h3;exact h3.symm
def zU (d:Cd):Bool:=(d.methods.all fun e=>km e.body)&&km d.init
theorem WC (d:Cd) (cs:List Value) (m:Mem) (h:jL m d cs) (hz:ea d<=aq):aK 43 [.v (.agg ⟨cs⟩)] m (.bool (zU d)):=by
 obtain⟨fl,name,super,ifs,fields,methods,init⟩:=d;obtain⟨x,⟨rfl,rfl,rfl,rfl⟩,⟨dv,hic,gC,hfc,hml,hmc,fG,hsc⟩,au,r1,r2,xs,ys,r3,s3,r4,s4⟩:=h;simp only at dv gC hml fG r1 r2 r3 s3 r4 s4;simp only[ea] at hz;have b2:x.ml<=aq:=by rw[hml];exact au.ml
 have hI:=fun m' (hle:ae m m')=>NU init x.sa x.sl x.sc ys m' fG (ay hle r4) (dw hle s4) (by rw[fG];exact au.l) (by omega)
 have y2:∀m',ae m m' ->∀i (hk:i<methods.length),∃X:Mc,(Rd m' (cO x.ma (i * 8)) X.cs/\x.ma≠none)/\aK 112 [.v (.slice X.a X.l X.cp)] m' (.bool (km methods[i].body)):=fun m' hle i hk=>by
  have aT:=qp hle (nZ s3 hk);have bW:=dH (ay hle r3) (by omega:i<x.ml);have oA:=Ab (f:=kD) methods[i] (List.getElem_mem hk);simp only[kD] at oA;obtain⟨X,e1,e2,e3,e4,zs,e5,e6⟩:=aT;rw[e1.1] at bW;exact⟨X,bW,NU _ X.a X.l X.cp zs m' e2.2.2.1 e5 e6 (by rw[e2.2.2.1];exact e3.l) (by omega)⟩
 clear s3 s4;have hX:zU ⟨x.fl,x.name,x.super,ifs,fields,methods,init⟩=((methods.all fun e=>km e.body)&&km init):=rfl;refine enter gY aB Tryz.func43 rfl rfl (by kernel_rfl) rfl ?_ ?_
 ·simp only[go_sem,Cc.cs]
 ·simp only[go_sem,Cc.cs];refine ew aB (fun y:Nat×Mem=>⟨[⟨1,[],.box 0 0⟩,⟨3,[],.v (.int .i64 y.1)⟩],[],[⟨0,59,x.cs.map .v⟩],[],1,y.2⟩)
   (fun y=>ae m y.2/\y.1<=x.ml/\((methods.take y.1).all fun e=>km e.body)=true) (fun y=>x.ml - y.1) (0,m) (by kernel_rfl) (fun _ _=>av _) (fun y hy=> ?_) (fun _=> ?_) ?_ ?_ ?_
  ·exact hy.1
  ·simp only[go_sem,Cc.cs]
  ·simp only[go_sem,Cc.cs];rfl
  ·exact⟨.inl rfl,aD _,rfl⟩
  ·rintro⟨k,mm⟩ ⟨g1,g2,g3⟩;simp only at g1 g2 g3;simp only[go_sem,Cc.cs];refine⟨fun aw=> ?_,fun cg=> ?_⟩
   ·have hk:k<methods.length:=by clear y2 hI;omega
    have hy:=y2 mm g1 k hk;clear y2 hI;refine Exists.elim hy fun X fW=>⟨⟨by clear hy fW;omega,aw,fW.1.2⟩,iZ fW.1.1,.slice X.a X.l X.cp,gU fW.1.1 7 1 (dC rfl),?_⟩
    have ha:=fW.2;clear hy fW;refine ab (ha.mono ?_);clear ha;rintro r H' m5 cK ⟨l5,rfl,rfl⟩;simp only[go_sem,Cc.cs];refine⟨fun hf=>⟨aa g1 l5,?_⟩,fun ht=>⟨by unfold aF;simp only[aq] at b2;omega,(k+1,m5),⟨by simp,.inl rfl⟩,⟨aa g1 l5,by simp only;omega,?_⟩,by simp only;omega⟩⟩
    ·rw[hX,CR (p:=fun e:Md=>km e.body) hk hf];rfl
    ·simp only;rw[Cb hk,g3,ht];rfl
   ·have iR:methods.take k=methods:=fj (by clear y2 hI;omega);rw[iR] at g3;rw[g3,Bool.true_and] at hX;have ha:=hI mm g1;clear y2 hI;refine ab (ha.mono ?_);clear ha;rintro r H' m5 cK ⟨l5,rfl,rfl⟩;simp only[go_sem,Cc.cs];exact⟨aa g1 l5,hX.symm⟩
/-! Plain: the two depths. -/
theorem XI {k:Int} {nm:List UInt8} {ty:Ty} {tg ex:Ex} {body alt:List St} (h:iC k nm ty tg ex body alt=true):eE false body=true/\eE false alt=true/\(k=11->jn tg=true):=by
 have hs:∃t t2 a b,jj nm ty tg body alt t t2 a b=true/\(k=11->t2=false):=by
  unfold iC at h;split at h
  ·simp only[aG] at h;exact⟨_,_,_,_,h.1,fun _=>rfl⟩
  split at h
  ·rename_i hk;simp only[aG] at h;exact⟨_,_,_,_,h.1.1.1,fun e=>by rw[hk] at e;exact absurd e (by decide)⟩
  split at h
  ·simp only[aG] at h;exact⟨_,_,_,_,h.1.1,fun _=>rfl⟩
  split at h
  ·simp only[aG] at h;exact⟨_,_,_,_,h.1,fun _=>rfl⟩
  split at h
  ·simp only[aG] at h;exact⟨_,_,_,_,h.1,fun _=>rfl⟩
  split at h
  ·rw[aG] at h;exact⟨_,_,_,_,h.1,fun _=>rfl⟩
  split at h
  ·simp only[aG] at h;exact⟨_,_,_,_,h.1,fun _=>rfl⟩
  split at h
  ·simp only[aG] at h;exact⟨_,_,_,_,h.1,fun _=>rfl⟩
  split at h
  ·simp only[aG] at h;exact⟨_,_,_,_,h.1,fun _=>rfl⟩
  split at h
  ·simp only[aG] at h;exact⟨_,_,_,_,h.1,fun _=>rfl⟩
  ·cases h
 obtain⟨t,t2,a,b,hs,uy⟩:=hs;simp only[jj,aG,Bool.or_eq_true] at hs
 exact⟨hs.1.2,hs.2,fun e=>by
  rcases hs.1.1.1.1.2 with h |h
  ·rw[uy e] at h;cases h
  ·exact h⟩
mutual
theorem abL:∀(s:St),fv s=true->(pU s<=24↔n9 s<=24)
 | .mk k nm ty tg ex body alt,h=>by
  rw[S1] at h;obtain⟨h1,h2,h3⟩:=XI h;simp only[eE,aG] at h1 h2;have i1:=E3 false body h1.2;have i2:=E3 false alt h2.2;have dx:bU ex=yp ex+1:=by cases ex;simp [bU,yp]
  simp only[pU,n9];by_cases hk:k=11
  ·have ht:bU tg=1:=by
    have:=h3 hk;cases tg with
    |mk k n s c ty args=>
     simp only[jn,jm,aG,bu] at this;have ha:args=[]:=List.length_eq_zero_iff.1 (by omega);subst ha;simp [bU,kW]
   rw[ah hk,ah hk];omega
  ·rw[af hk,af hk];omega
theorem E3:∀(sup:Bool) (l:List St),b9 sup l=true->(ef l<=24↔fw l<=24)
 |_,[],_=>by simp [ef,fw]
 |sup,e::r,h=>by
  simp only[b9,aG] at h;have i1:=abL e h.1.2;have i2:=E3 false r h.2;simp only[ef,fw];omega
end
theorem Sq {sup:Bool} {l:List St} (h:eE sup l=true):km l=decide (dy l<=24/\ef l<=24):=by
 simp only[eE,aG] at h;have:=E3 sup l h.2;rw[km,<- Bool.decide_and,decide_eq_decide];omega
theorem QN:∀(l:List Md),(∀e∈l,gm e=true)->(l.all fun e=>km e.body)=decide (kI l<=24/\kJ l<=24)
 |[],_=>by simp [kI,kJ]
 |e::r,h=>by
  have h1:=h e (b6 ..);simp only[gm,aG] at h1;rw[List.all_cons,QN r fun x hx=>h x (bR _ hx),Sq h1.2,<- Bool.decide_and,decide_eq_decide];simp only[kI,kJ];omega
theorem ad7 {d:Cd} (h:iA d=true):tH d= !zU d:=by
 simp only[iA,aG,Bool.not_eq_true',List.any_eq_false] at h;have hm:∀e∈d.methods,gm e=true:=fun e he=>by
  have:=h.2.1.2 e he;simpa using this
 rw[zU,QN d.methods hm,Sq h.2.2,tH,<- Bool.decide_and,<- Bool.decide_or,<- decide_not,decide_eq_decide];omega
structure RCls (X:Cc) (e:Cd) (p:Option Addr) (o:Nat) (m' :Mem):Prop where
 rd:Rd m' (cO p o) X.cs
 nn:p≠none
 cl:aK 42 [.v (.agg ⟨X.cs⟩)] m' (.bool (iA e))
 sh:aK 43 [.v (.agg ⟨X.cs⟩)] m' (.bool (zU e))
 tw:aK 44 [.v (.agg ⟨X.cs⟩)] m' (.bool (nL e))
theorem Xg (l:List Cd) (p:Option Addr) (n c:Nat) (m:Mem) (hz:(l.map ea).sum<=1048576) (h:oT m l p n c):
  FnH Tryz.prog 21 [.v (.slice p n c)] ⟨[],[]⟩ m fun r H' m' =>ae m m' /\H' =⟨[],[]⟩/\r= .tup [.v (.string (bs (ff [] l).1)),.v (.int .i64 (ff [] l).2)]:=by
 obtain⟨hl,ba,hn,xs,r1,s1⟩:=h;have y:∀i (hk:i<l.length),∃X:Cc,X.name=l[i].name/\∀m',ae m m' ->RCls X l[i] p (i * 7) m' :=fun i hk=>by
  have aT:=nZ s1 hk;have dp:=Ab (f:=ea) l[i] (List.getElem_mem hk);have hX:∃X:Cc,(xs.drop (i * 7)).take 7=X.cs/\X.name=l[i].name/\aF l[i].fl:=by
   obtain⟨X,e1,e2,e3,_⟩:=aT;exact⟨X,e1.1,e1.2.2.1,e3.fl⟩
  obtain⟨X,e1,e2,e3⟩:=hX;refine⟨X,e2,fun m' hle=> ?_⟩;have bW:=dH (ay hle r1) (by omega:i<n);have lL:=qu hle aT;rw[e1] at bW lL;have hc:=Xf _ _ m' lL;rw[abS _ e3] at hc;exact⟨bW.1,bW.2,hc,WC _ _ m' lL (by simp only[aq];omega),W6 _ _ m' lL⟩
 clear s1;refine aR aB Tryz.func21 ?_
 ·simp only[go_sem];refine ew aB (fun x:Nat×Mem=>⟨[⟨0,[],.v (.slice p n c)⟩,⟨4,[],.v (.int .i64 x.1)⟩],[],[],[],0,x.2⟩)
   (fun x=>ae m x.2/\x.1<=n/\ff [] l=ff ((l.map (·.name)).take x.1) (l.drop x.1)) (fun x=>n - x.1) (0,m) (by kernel_rfl) (fun _ _=>av _) (fun x hx=>hx.1) (fun _=> ?_) ?_ ?_ ?_
  ·simp only[go_sem]
  ·simp only[go_sem];rfl
  ·exact⟨.inl rfl,aD _,rfl⟩
  ·rintro⟨k,mm⟩ ⟨h1,h2,h3⟩;simp only at h1 h2 h3;have jf:∀(hk:k<l.length),ff [] l=(if iA l[k]=true then(if tH l[k]=true then(l[k].name,9) else if(((l.map (·.name)).take k).contains l[k].name||nL l[k])=true then(l[k].name,6) else ff ((l.map (·.name)).take (k+1)) (l.drop (k+1))) else(l[k].name,4)):=fun hk=>by
    rw[h3,List.drop_eq_getElem_cons hk,ff];have:(l.map (·.name)).take (k+1)=(l.map (·.name)).take k++[l[k].name]:=by
     rw[List.take_succ_eq_append_getElem (by simpa using hk)];simp
    rw[this]
   simp only[go_sem];refine⟨fun aw=> ?_,fun cg=> ?_⟩
   ·have hk:k<l.length:=by clear y;omega
    have mT:=jf hk;clear jf;refine Exists.elim (y k hk) fun X hy=>⟨⟨by clear y hy;omega,aw,(hy.2 mm h1).nn⟩,X.cs,⟨(hy.2 mm h1).rd,rfl⟩,?_⟩
    have sS:=hy.1;have hV:=(hy.2 mm h1).cl;simp only[go_sem,Cc.cs];refine ab ((aP hV (fun V=>rfl)).mono ?_);clear hV;rintro r H' m2 aH ⟨l2,rfl,rfl⟩;have k2:=aa h1 l2;have pn:=(hy.2 m2 k2).rd;have uj:=(hy.2 m2 k2).nn;have hS:=(hy.2 m2 k2).sh;simp only[go_sem,Cc.cs];refine⟨fun b1=>⟨⟨by clear y hy hS;omega,aw,uj⟩,iZ pn,.string (bs X.name),gU pn 1 1 (dC rfl),?_⟩,fun b1=>⟨⟨by clear y hy hS;omega,aw,uj⟩,X.cs,⟨pn,rfl⟩,?_⟩⟩
    ·clear y hy hS;refine⟨k2,?_⟩;rw[mT,af (by rw[b1];decide),sS]
    ·rw[ah b1] at mT;simp only[go_sem,Cc.cs];refine ab ((aP hS (fun V=>rfl)).mono ?_);clear hS;rintro r H' m3 bI ⟨l3,rfl,rfl⟩;have k3:=aa k2 l3;have y9:=(hy.2 m3 k3).rd;have hT:=(hy.2 m3 k3).tw;have zd:tH l[k]= !zU l[k]:=ad7 b1;simp only[go_sem,Cc.cs];refine⟨fun b2=>⟨⟨by clear y hy hT;omega,aw,uj⟩,iZ y9,.string (bs X.name),gU y9 1 1 (dC rfl),?_⟩,fun b2=> ?_⟩
     ·clear y hy hT;refine⟨k3,?_⟩;rw[b2,Bool.not_false] at zd;rw[mT,ah zd,sS]
     ·rw[b2] at zd;rw[af (by rw[zd];decide),<- sS] at mT;refine ew aB (fun x:Nat=>⟨[⟨0,[],.v (.slice p n c)⟩,⟨4,[],.v (.int .i64 k)⟩,⟨5,[],.v (.int .i64 x)⟩],[],[],[],0,m3⟩)
       (fun x=>x<=k/\((l.map (·.name)).take x).contains X.name=false) (fun x=>k - x) 0 (by kernel_rfl) (fun _ _=>av _) (fun _ _=> .inl rfl) (fun _=> ?_) ?_ ?_ ?_
      ·simp only[go_sem]
      ·simp only[go_sem];rfl
      ·exact⟨aD _,by simp⟩
      ·rintro j ⟨u1,u2⟩;simp only[go_sem];refine⟨fun Mt=> ?_,fun Mu=> ?_⟩
       ·have hj:j<l.length:=by clear y hy hT;omega
        have oB:j<(l.map (·.name)).length:=by simpa using hj
        have cF:k<(l.map (·.name)).length:=by simpa using hk
        have mo:=E5 oB X.name;have uu:=fun(qV:j<k) (he:(l.map (·.name))[j]=X.name)=>FP qV cF X.name he
        rw[List.getElem_map] at mo;refine bO (.hoist 0 (.hoist 1 (.hoist 2 (.hoist 3 (.hoist 4 (.hoist 5 (.hoist 6 (.hoist 7 (.hoist 8 (.hoist 9 (.hoist 10 .done))))))))))) aB (by kernel_rfl) (by kernel_rfl) ?_;simp only[go_sem];refine Exists.elim (y j hj) fun Y hY=> ?_
        have VB:=(hY.2 m3 k3).rd;have Vq:=hY.1;clear y hy hT hY;refine⟨⟨by omega,by omega,uj⟩,iZ VB,.string (bs Y.name),gU VB 1 1 (dC rfl),⟨by omega,aw,uj⟩,iZ y9,.string (bs X.name),gU y9 1 1 (dC rfl),?_⟩;simp only[go_sem];refine⟨fun he=>⟨⟨by omega,aw,uj⟩,iZ y9,.string (bs X.name),gU y9 1 1 (dC rfl),?_⟩,fun db=>⟨by unfold aF;simp only[aq] at hn;omega,j+1,by simp,⟨by omega,?_⟩,by omega⟩⟩
        ·refine⟨k3,?_⟩;rw[mT,uu (by omega) (by rw[List.getElem_map,<- Vq,he])];rfl
        ·rw[mo,u2,beq_eq_false_iff_ne.2 (fun h=>db (by rw[Vq,h]))];rfl
       ·have qV:j=k:=by clear y hy hT;omega
        subst qV;refine⟨⟨by clear y hy hT;omega,aw,uj⟩,X.cs,⟨y9,rfl⟩,?_⟩;clear y;rw[u2,Bool.false_or] at mT;simp only[go_sem,Cc.cs];refine ab ((aP hT (fun V=>rfl)).mono ?_);clear hT;rintro r H' m4 cQ ⟨l4,rfl,rfl⟩;have k4:=aa k3 l4;have VD:=(hy.2 m4 k4).rd;clear hy;simp only[go_sem,Cc.cs];refine⟨fun b4=>⟨⟨by omega,aw,uj⟩,iZ VD,.string (bs X.name),gU VD 1 1 (dC rfl),?_⟩,fun b4=>⟨by unfold aF;simp only[aq] at hn;omega,(j+1,m4),⟨by simp,.inl rfl⟩,⟨k4,by simp only;omega,?_⟩,by simp only;omega⟩⟩
        ·refine⟨k4,?_⟩;rw[mT,ah b4]
        ·simp only;rw[mT,af (by rw[b4];decide)]
   ·clear y;rw[h3,List.drop_of_length_le (by omega),ff];exact⟨h1,rfl⟩
end Go.Proofs.YtimddhkipjedcaaGreatDoor.E

/- Several texts in one. -/
import Derived.Laws.MakeOwn
import Derived.Deep.LoopGhost
import Derived.Deep.Quiet
import Derived.ScopeJumps
import Derived.Shelf.Strings.Builder1
import Derived.Shelf.Strings.Builder2
import Derived.Shelf.Small.Strs
import Derived.Shelf.Strings.BuilderF
import Derived.Shelf.Strings.BuilderK
import Derived.Shelf.Utf8.RuneCount
import Derived.Shelf.Strings.Builder2Cap
import Derived.Shelf.Strconv.Itoa0
import Derived.Shelf.Strconv.Itoa1
import Derived.Shelf.LaysM
import Derived.Shelf.Strconv.Itoa2
import Derived.Shelf.Strconv.Itoa3
import Derived.Shelf.Strconv.ParseIntEmpty
import Derived.Shelf.Strconv.Clone
import Derived.Shelf.Strconv.SyntaxError
import Derived.Shelf.Strconv.Lower
import Derived.Shelf.Strconv.ParseUint10
import Derived.Shelf.Strconv.ParseUint10Empty
import Derived.Shelf.Strconv.RangeError
import Derived.Shelf.Strconv.ParseUintEmpty
import Derived.Shelf.Strconv.ParseUint10b64
import Derived.Shelf.Strconv.ParseUint10b32
import Derived.Shelf.Strconv.ParseUint10b16
import Derived.Shelf.Strconv.ParseUint10b8
import Derived.Shelf.Strings.Search1
import Derived.Shelf.Strings.Search2
import Derived.Shelf.Strings.Search3
import Derived.Shelf.Strings.Count
import Derived.Shelf.Strings.Shaped
import Derived.Shelf.Strings.LastIndex
import Derived.Shelf.Strings.Prefix
import Derived.Shelf.Strings.Split
import Derived.Shelf.Strings.Replace
import Derived.Shelf.Strings.SplitShaped
import Derived.Shelf.Unicode.Decode
import Derived.Shelf.Strings.RuneCount
import Derived.Shelf.Unicode.DecodeSlow
import Derived.Shelf.Unicode.DecodeAny
import Derived.Shelf.Strings.BuilderCap
import Derived.Shelf.Slices.Turned
import Derived.Ground.PaProg
import Derived.Shelf.Path.Small
import Derived.Test.YtimddhkipjedcaaGreatDoorProg
import Derived.Lib.Join
import Derived.Test.YtimddhkipjedcaaGreatDoorRows
import Derived.Test.YtimddhkipjedcaaGreatDoorCards
import Derived.Test.YtimddhkipjedcaaGreatDoorTie
import Derived.ProofKit
import Derived.OpenShut
import Derived.LaidMore
import Derived.Lay
import Derived.SevenTiedAt
import Derived.Stop.Joined
import Derived.Stop.LaidErr
import Derived.Lib.LaidTab
import Derived.Shelf.Vars
import Derived.Deep.Slices
import Derived.Deep.DeepHandedRow
import Derived.Carry
import Derived.Laws.StructEq
import Derived.Test.YtimddhkipjedcaaGreatDoorMrg1
set_option linter.unusedSimpArgs false
set_option linter.unusedVariables false
set_option maxHeartbeats 4000000
set_option maxRecDepth 20000
namespace Go.Proofs.YtimddhkipjedcaaGreatDoor.E
open Go
section
variable {C:Ctx} {n:Nat} {st:LS} {a:Act} {V:Vl} {D:Nat->Nat} {w:World} {P:Program} {p:bX} {c:Cfg}
theorem uG:∀(l:List SV) (K:List SV->LS->Prop) (m:Mem) (D:Nat->Nat),CW l K ⟨st.env,st.rho,st.bx,st.vc,st.nid,m⟩->SatW C st.bx st.vc st.nid m V D w->
  ∃l' m1 D1,K l' ⟨st.env,st.rho,st.bx,st.vc,st.nid,m1⟩/\SatW C st.bx st.vc st.nid m1 V D1 w/\l'.map (den V)=l.map (den V)
 |[],K,m,D,h,hW=>⟨[],m,D,h,hW,rfl⟩
 |s::r,K,m,D,h,hW=>by
  cases s with
  |agg cs=>
   obtain⟨ck,m1,D1,e1,e2,e3,_⟩:=ry (st:=st) cs _ m D h hW;obtain⟨l',m2,D2,f1,f2,f3⟩:=uG r _ m1 D1 e1 e2;exact⟨_,m2,D2,f1,f2,by simp only[bJ,f3,JX,e3]⟩
  |vec k u=>
   simp only[CW,oS] at h;obtain⟨b,hb,h⟩:=aO h;obtain⟨ad,cp,m1,D',h1,h2,h3,h4,h5⟩:=SatW.pub (st:=⟨st.env,st.rho,st.bx,st.vc,st.nid,m⟩) hW hb;obtain⟨l',m2,D2,f1,f2,f3⟩:=uG r _ m1 D' (h ad cp m1 h1 h2 h3) h5;refine⟨_,m2,D2,f1,f2,?_⟩;simp only[bJ,dW,List.nil_append,f3];congr 1
   exact h4.symm
  |v x=>
   obtain⟨l',m2,D2,f1,f2,f3⟩:=uG r _ m D h hW;exact⟨_,m2,D2,f1,f2,by simp only[bJ,dW,List.nil_append,f3]⟩
  |box k o=>
   obtain⟨l',m2,D2,f1,f2,f3⟩:=uG r _ m D h hW;exact⟨_,m2,D2,f1,f2,by simp only[bJ,dW,List.nil_append,f3]⟩
  |vp k u o=>
   obtain⟨l',m2,D2,f1,f2,f3⟩:=uG r _ m D h hW;exact⟨_,m2,D2,f1,f2,by simp only[bJ,dW,List.nil_append,f3]⟩
  |mp k=>
   obtain⟨l',m2,D2,f1,f2,f3⟩:=uG r _ m D h hW;exact⟨_,m2,D2,f1,f2,by simp only[bJ,dW,List.nil_append,f3]⟩
  |mv f k o=>
   obtain⟨l',m2,D2,f1,f2,f3⟩:=uG r _ m D h hW;exact⟨_,m2,D2,f1,f2,by simp only[bJ,dW,List.nil_append,f3]⟩
  |tup l0=>
   obtain⟨l',m2,D2,f1,f2,f3⟩:=uG r _ m D h hW;exact⟨_,m2,D2,f1,f2,by simp only[bJ,dW,List.nil_append,f3]⟩
theorem Bz (hS:Sat C n st a V D w) (hp:gz st.rho p) (hc:cI st.rho p=true):∀{l:List Operand} {ss:List SV},vi st p l=some ss->l.map a.eval=ss.map (den V)
 |[],ss,h=>by simp only[vi,dY] at h;subst h;rfl
 |x::r,ss,h=>by
  simp only[vi,Option.bind_eq_some_iff,Option.map_eq_some_iff] at h;obtain⟨s,hs,ss',hr,rfl⟩:=h;simp only[bJ,dL hS hp hc hs,Bz hS hp hc hr]
theorem Jd {o:Oper} {fo:Operand} {args:Array Operand} {ts:Array TypeId} {f:FuncId} (ho:o.op= .call {callee:= .value fo,args,argTypes:=ts}) (hf:a.eval fo= .func (.func f) #[] #[]) (au:jv P f=true):
  (execOp a.eval o).run P w= .ok (.enter f (args.map a.eval)) w:=by
 unfold jv at au;split at au
 ·rename_i fn gC;simp only[aG,Bool.not_eq_true'] at au;have hb:fn.body.isNone=false:=by cases h:fn.body<;>simp_all
  simp only[execOp,ho,resolve,hf,Deferred.ofValue,Sem.run_bind,Sem.run_pure,Result.andThen_ok,invoke,callFunc,run_program,gC,au.1,hb,Bool.false_eq_true,if_false];simp
 ·cases au
theorem YX {o:Oper} {fo:Operand} {args:Array Operand} {ts:Array TypeId} {f:FuncId} {x:Value} (ho:o.op= .call {callee:= .value fo,args,argTypes:=ts}) (hf:a.eval fo= .func (.func f) #[x] #[]) (au:jv P f=true):
  (execOp a.eval o).run P w= .ok (.enter f (#[x]++args.map a.eval)) w:=by
 unfold jv at au;split at au
 ·rename_i fn gC;simp only[aG,Bool.not_eq_true'] at au;have hb:fn.body.isNone=false:=by cases h:fn.body<;>simp_all
  simp only[execOp,ho,resolve,hf,Deferred.ofValue,Sem.run_bind,Sem.run_pure,Result.andThen_ok,invoke,callFunc,run_program,gC,au.1,hb,Bool.false_eq_true,if_false];simp
 ·cases au
theorem NC (hS:Sat C n st a V D w) {f:FuncId} {ss:List SV} {K:SV->LS->Prop} {R:Ending->World->Prop} (h:Dg (.mk (k:=(P,f,K)) (st,ss)))
  (hn:∀s ak V' D' w',K s ak->ak.rho=st.rho->Sat C n ak a V' D' w' ->Step st.nid st.vc ak.nid ak.vc V V' ->R (.returned (den V' s)) w'):Calls P f ⟨ss.map (den V)⟩ w R:=by
 simp only[Dg,KW] at h;obtain⟨gQ,h⟩:=h;simp only[HL,FnH] at h;have hW:=hS.w;have akY:HSat (lK (uN st.bx (o5 [] ss)) V) D w (gO st (uN st.bx (o5 [] ss))):=(EG _ hW.heap).app.1.into gQ.2.2.2;have:=h (lK (uN st.bx (o5 [] ss)) V) w D hW.wf hW.mle akY;rw[Q0 gQ.2.2.1] at this;refine this.mono fun e w2 ⟨r,V2,D2,H',m',he,h1,h2,h3,h4,h5,h6,h7,h8,h9,hback,hK⟩=> ?_
 obtain⟨V3,a1,a2,a3,a4⟩:=hW.call (r:=r) ⟨gQ.1,gQ.2.1,trivial,gQ.2.2.2⟩ hback h1 h2 h3 h4 h5 h6 h7 h8 h9;subst he;rw[<- a2];exact hn _ _ V3 D2 w2 hK rfl (hS.to a1 (Nat.le_add_right _ _) a4 a3) ⟨a1,Nat.le_add_right _ _,a4⟩
theorem NB (hS:Sat C n st a V D w) {f:FuncId} {ss:List SV} {b:Bool} {K:SV->LS->Prop} {R:Ending->World->Prop} (h:Df (.mk (k:=(P,f,st,ss,K)) b))
  (hn:∀s ak V' D' w',K s ak->ak.rho=st.rho->Sat C n ak a V' D' w' ->Step st.nid st.vc ak.nid ak.vc V V' ->R (.returned (den V' s)) w'):Calls P f ⟨ss.map (den V)⟩ w R:=by
 cases b with
 |true=>exact NC hS h hn
 |false=>
  obtain⟨l',m1,D1,e1,e2,e3⟩:=uG (st:=st) ss _ st.m D h hS.w;rw[<- e3];exact NC (st:=⟨st.env,st.rho,st.bx,st.vc,st.nid,m1⟩) ⟨hS.f,hS.ids,e2⟩ e1 hn
theorem Nn (hS:Sat C n st a V D w) {tx:TypeId} {sz:Nat} {y:SV} {K:Nat->List Value->Prop} (dp:0<sz) (h:wx (.mk (k:=(P,tx,sz,K)) (st,y))):∃m news,K m news/\Src P sz tx (den V y) m news w:=by
 unfold wx at h;split at h
 ·rename_i ak k u q;simp only[A.mk.injEq,Prod.mk.injEq] at q;obtain⟨rfl,rfl⟩:=q;obtain⟨e,he,h⟩:=aO h;obtain⟨b,hb,rfl,hK⟩:=aO h;refine⟨_,_,hK,?_⟩;obtain⟨hv,rfl,rfl⟩:=yk hS hb;obtain⟨hn,hl,hx⟩:=yc hv.1;show Src P b.sz tx (Hd.val _) b.n b.xs w;rcases Nat.eq_zero_or_pos b.n with h0 |h0
  ·have oo:b.xs=[]:=List.eq_nil_of_length_eq_zero (by rw[hl,h0,Nat.zero_mul]);unfold Hd.val;rw[hn,h0,oo];cases ha:(V.γ b.id b.ver).a with
   |none=>exact Src.ofNil w (oF he) _
   |some ad=>exact Src.ofSlice w (oF he) ad 0 _ [] (by simp) (fun j u hu=>by simp at hu) (fun u hu=>by cases hu)
  ·obtain⟨g,hg,hc⟩:=hx h0;unfold Hd.val;rw[hn,hg];exact Src.ofSlice w (oF he) ⟨g,0,none⟩ b.n _ b.xs hl (fun j u hu=>by rw[Ey];exact hc j u hu) hv.2.2.2
 ·rename_i ak x m cp q;simp only[A.mk.injEq,Prod.mk.injEq] at q;obtain⟨rfl,rfl⟩:=q;obtain⟨e,he,xs,h1,h2,hK⟩:=aO h;refine⟨_,_,hK,?_⟩;show Src P sz tx (.slice x m cp) m xs w;rcases Nat.eq_zero_or_pos m with h0 |h0
  ·subst h0;have oo:xs=[]:=List.eq_nil_of_length_eq_zero (by rw[h1.1,Nat.zero_mul]);subst oo;cases x with
   |none=>exact Src.ofNil w (oF he) _
   |some ad=>exact Src.ofSlice w (oF he) ad 0 _ [] (by simp) (fun j u hu=>by simp at hu) (fun u hu=>by cases hu)
  ·obtain⟨ad,rfl,hc⟩:=TV hS.mle h1 h0;exact Src.ofSlice w (oF he) ad m _ xs h1.1 hc h2
 ·rename_i ak s q;simp only[A.mk.injEq,Prod.mk.injEq] at q;obtain⟨rfl,rfl⟩:=q;obtain⟨h1,rfl,hK⟩:=h;refine⟨_,_,hK,?_⟩;rw[Ao];exact Src.ofString w h1 s
 ·cases h
theorem SR {b:Vc} {n:Nat} {xs:List Value}:(oa b n xs).id=b.id/\(oa b n xs).ver=b.ver+1:=by cases b;exact⟨rfl,rfl⟩
theorem Yh (hS:Sat C n st a V D w) {t tx e ty:TypeId} {s y:SV} {K:SV->LS->Prop} (he:iU P t=some e) (h:AS (.mk (k:=(P,e,tx,y,K)) (st,s))):
  ∃r ak V' D' w',(Builtin.append_ #[t,tx] ty #[den V s,den V y]).run P w= .ok (den V' r) w' /\K r ak/\ak.rho=st.rho/\Sat C n ak a V' D' w' /\Step st.nid st.vc ak.nid ak.vc V V' :=by
 unfold AS at h;split at h
 ·rename_i ak k u q;simp only[A.mk.injEq,Prod.mk.injEq] at q;obtain⟨rfl,rfl⟩:=q;obtain⟨b,hb,h1,h2,h3,h⟩:=aO h;obtain⟨z,hz,h4,h⟩:=aO h;obtain⟨m,news,⟨lD,hK⟩,hsrc⟩:=Nn hS h3 h;obtain⟨i,hi,hisz,hiby⟩:=JQ h3;obtain⟨zv,hzv,yS⟩:=Re hi hz;obtain⟨hv,uv,hbv⟩:=yk hS hb;have eA:=hv.1;rw[uv,hbv,h1,h2,<- hisz] at eA;rw[<- hisz] at hsrc;obtain⟨h',w',dJ,hown',hcase⟩:=NR (ty:=ty) (oF he) hi hzv (by rw[yS,h4,hisz]) eA hsrc (by rw[hiby];exact lD);have ze:=hv.2.2;have qK:∀y' ∈b.xs++news,y'.oneCell' =true:=fun y' hy=>(List.mem_append.1 hy).elim (ze.2 y') (hsrc.one y')
  have hU:=hS.w.updVc (w' :=w') (n:=b.n+m) (hd:=h') (xs:=b.xs++news) hb (Nat.mul_le_mul_right _ (Nat.le_add_right _ _))
   (by rcases hcase with ⟨rfl,_⟩ |⟨g,cur,ou,_,_,_,rfl,_⟩ |⟨cc,_,rfl⟩<;>rfl)
   (by rcases hcase with ⟨rfl,_⟩ |⟨g,cur,ou,_,_,_,rfl,_⟩ |⟨cc,_,rfl⟩<;>rfl)
   (by rcases hcase with ⟨rfl,_⟩ |⟨g,cur,ou,_,_,_,rfl,_⟩ |⟨cc,_,rfl⟩<;>rfl)
   (by rcases hcase with ⟨rfl,_⟩ |⟨g,cur,ou,_,_,_,rfl,_⟩ |⟨cc,_,rfl⟩<;>simp)
   (fun x hx db=>by
    rcases hcase with ⟨rfl,_⟩ |⟨g,cur,ou,_,hg,_,rfl,_⟩ |⟨cc,_,rfl⟩
    ·rfl
    ·exact setRow_other w g x _ (fun e=>db (e▸hg))
    ·exact zw w.drew _ x hx)
   (fun x hx=>by
    rcases hcase with ⟨rfl,_⟩ |⟨g,cur,ou,_,hg,hcur,rfl,hsame⟩ |⟨cc,_,rfl⟩
    ·exact uC rfl
    ·rw[hg] at hx;obtain rfl:g=x:=Option.some.inj hx;rw[hcur,setRow_heap w g cur _ e _ hcur];exact⟨_,_,_,rfl,fun j hj=>hsame j (by rw[hisz,<- h1];exact hj)⟩
    ·exact uC (zw w.drew _ x (JG eA hx).2))
   (by rw[h1,h2,<- hisz];exact hown')
   (fun x hx=>by
    rcases hcase with ⟨rfl,rfl⟩ |⟨g,cur,ou,iS,hg,_,rfl,_⟩ |⟨cc,iS,rfl⟩
    ·exact .inl hx
    ·rw[iS] at hx;cases hx;exact .inl hg
    ·rw[iS] at hx;cases hx;exact .inr (av _))
   qK
  obtain⟨V',ha,hγ,hW⟩:=hU;have Vu:∀k' u',k' <st.nid->cG st.vc k' u' ->cG (pZ st.vc k (oa b (b.n+m) (b.xs++news))) k' u' :=fun k' u' _=>NF hb (by rw[SR.1];exact uv) (by rw[SR.2,hbv];exact Nat.le_succ _) k' u'
  refine⟨_,_,V',D,w',?_,hK,rfl,hS.to ha (av _) Vu hW,⟨ha,av _,Vu⟩⟩;rw[show den V' (.vec k (u+1))=h'.val from by show Hd.val _=_;rw[hγ]];exact dJ
 ·rename_i ak q;simp only[A.mk.injEq,Prod.mk.injEq] at q;obtain⟨rfl,rfl⟩:=q;obtain⟨h3,h⟩:=h;obtain⟨z,hz,h4,h⟩:=aO h;obtain⟨m,news,⟨lD,hK⟩,hsrc⟩:=Nn hS h3 h;obtain⟨i,hi,hisz,hiby⟩:=JQ h3;obtain⟨zv,hzv,yS⟩:=Re hi hz;rw[<- hisz] at hsrc;have eA:w.ownsRow 0 e i.size (Hd.val ⟨none,0,0⟩) 0 []:=World.ownsRow_nil w 0 e i.size;obtain⟨h',w',dJ,hown',hcase⟩:=NR (ty:=ty) (oF he) hi hzv (by rw[yS,h4,hisz]) eA hsrc (by rw[hiby,Nat.zero_add];exact lD);rw[Nat.zero_add,List.nil_append,hisz] at hown';obtain⟨V',ha,hγ,hW⟩:=hS.w.addVc (w' :=w') (hd:=h')
   (by rcases hcase with ⟨rfl,_⟩ |⟨g,cur,ou,_,_,_,rfl,_⟩ |⟨cc,_,rfl⟩<;>rfl)
   (by rcases hcase with ⟨rfl,_⟩ |⟨g,cur,ou,_,_,_,rfl,_⟩ |⟨cc,_,rfl⟩<;>rfl)
   (by rcases hcase with ⟨rfl,_⟩ |⟨g,cur,ou,_,_,_,rfl,_⟩ |⟨cc,_,rfl⟩<;>rfl)
   (by rcases hcase with ⟨rfl,_⟩ |⟨g,cur,ou,_,_,_,rfl,_⟩ |⟨cc,_,rfl⟩<;>simp)
   (fun x hx=>by
    rcases hcase with ⟨rfl,_⟩ |⟨g,cur,ou,_,hg,_,rfl,_⟩ |⟨cc,_,rfl⟩
    ·rfl
    ·cases hg
    ·exact zw w.drew _ x hx)
   hown'
   (fun x hx=>by
    rcases hcase with ⟨rfl,rfl⟩ |⟨g,cur,ou,iS,hg,_,rfl,_⟩ |⟨cc,iS,rfl⟩
    ·cases hx
    ·cases hg
    ·rw[iS] at hx;cases hx;exact av _)
   h3 hsrc.one
  refine⟨_,_,V',D,w',?_,hK,rfl,hS.to ha (Nat.le_succ _) (fun k u hk hv=>uE rfl k u hk hv) hW,⟨ha,Nat.le_succ _,fun k u hk hv=>uE rfl k u hk hv⟩⟩;rw[show den V' (.vec st.nid 0)=h'.val from by show Hd.val _=_;rw[hγ]];exact dJ
 ·cases h
end
theorem NX (z:List Value) (h:0<z.length):∀len:Nat,(List.range (len * z.length)).map (fun i=>z[i % z.length]!)=(List.replicate len z).flatten
 |0=>by simp
 |len+1=>by
  rw[Nat.succ_mul,List.range_add,List.map_append,NX z h len,List.replicate_succ',List.flatten_append];congr 1
  simp only[List.map_map,List.flatten_cons,List.flatten_nil,List.append_nil];apply List.ext_getElem?
  intro j;simp only[List.getElem?_map,Function.comp];rcases Nat.lt_or_ge j z.length with hj |hj
  ·rw[List.getElem?_range hj,List.getElem?_eq_getElem hj];simp only[Option.map_some,dY,Function.comp];rw[Nat.add_comm,Nat.add_mul_mod_self_right,Nat.mod_eq_of_lt hj];simp [List.getElem!_eq_getElem?_getD,List.getElem?_eq_getElem hj]
  ·rw[List.getElem?_eq_none (by simpa using hj),List.getElem?_eq_none hj];rfl
theorem OX (z:List Value) (len:Nat) (h:0<z.length):(Array.range (len * z.length)).map (fun i=>(⟨z⟩:Array Value)[i % (⟨z⟩:Array Value).size]!)=⟨(List.replicate len z).flatten⟩:=by
 apply Array.ext'
 rw[<- NX z h len];simp
theorem abo {α β:Type} (f:α->β) (z:List α) (len:Nat):((List.replicate len z).flatten).map f=(List.replicate len (z.map f)).flatten:=by
 induction len with
 |zero=>rfl
 |succ k ih=>simp only[List.replicate_succ,List.flatten_cons,List.map_append,ih]
theorem Js (z:List Value) (len:Nat):((List.replicate len z).flatten).length=len * z.length:=by
 induction len with
 |zero=>simp
 |succ k ih=>simp only[List.replicate_succ,List.flatten_cons,aI,ih,Nat.succ_mul];omega
theorem Zx (z:List Value) {l c:Nat} (h:l<=c):((List.replicate c z).flatten).take (l * z.length)=(List.replicate l z).flatten:=by
 obtain⟨d,rfl⟩:=Nat.exists_eq_add_of_le h;rw[<- List.replicate_append_replicate,List.flatten_append,<- Js z l];exact List.take_left
theorem abn {z:List Value} {len:Nat} {u:Value} (h:u∈(List.replicate len z).flatten):u∈z:=by
 obtain⟨l,hl,hu⟩:=List.mem_flatten.1 h;rw[List.mem_replicate] at hl;exact hl.2▸hu
theorem Qk {nid:Nat} {vc:List Vc} {c:SV} (hc:mf nid vc c):∀(cs:List SV) (off:Nat),fO nid vc cs->fO nid vc (cs.set off c)
 |[],_,h=>h
 |_::_,0,h=>⟨hc,h.2⟩
 |_::cs,off+1,h=>⟨h.1,Qk hc cs off h.2⟩
theorem Qj {nid:Nat} {vc:List Vc}:∀(l cs:List SV) (off:Nat),fO nid vc l->fO nid vc cs->fO nid vc (lG cs off l)
 |[],_,_,_,h=>h
 |_::r,_,_,hl,h=>Qj r _ _ hl.2 (Qk hl.1 _ _ h)
section
variable {C:Ctx} {n:Nat} {st:LS} {a:Act} {V:Vl} {D:Nat->Nat} {w:World} {P:Program} {p:bX} {c:Cfg}
theorem Qa {sz:Nat} {st:LS} {p:bX} {z:List SV} (hz:z.length=sz):∀(l:List (Nat×Operand)) (i k:Nat) (pre cs:List SV),uW sz st p i l=some cs->pre.length=i * sz->cs.length=k * sz->0<sz->
  pK sz st p l (pre++(List.replicate k z).flatten)=some (pre++cs)
 |[],i,k,pre,cs,h,hp,hk,h0=>by
  simp only[uW,dY] at h;subst h;have:k=0:=by
   rcases Nat.eq_zero_or_pos k with h |h
   ·exact h
   ·have:=Nat.mul_pos h h0;simp only[bg] at hk;omega
  subst this;simp [pK]
 |(j,x)::r,i,k,pre,cs,h,hp,hk,h0=>by
  simp only[uW] at h;split at h
  ·rename_i e;subst e;simp only[Option.bind_eq_some_iff] at h;obtain⟨l,hl,h⟩:=h;split at h
   ·rename_i DZ;obtain⟨ck,gD,rfl⟩:=Option.map_eq_some_iff.1 h;have uq:0<k:=by
     rcases Nat.eq_zero_or_pos k with h |h
     ·subst h;simp only[aI,Nat.zero_mul] at hk;omega
     ·exact h
    obtain⟨k',rfl⟩:∃k',k=k' +1:=⟨k - 1,by omega⟩;have ky:(List.replicate (k' +1) z).flatten=z++(List.replicate k' z).flatten:=by rw[List.replicate_succ,List.flatten_cons]
    have fp:ck.length=k' * sz:=by
     rw[Nat.add_mul] at hk;simp only[aI,DZ] at hk;omega
    simp only[pK];have hb:((cU st p x).bind lQ)=some l:=by simpa [Option.bind_eq_some_iff] using hl
    rw[hb];simp only[Option.bind_some];rw[ah DZ,ah (by rw[aI,hp,ky,aI,hz];omega)];rw[ky,JE _ _ _ (by rw[aI,hp,aI,hz,DZ];omega)];have e1:(pre++(z++(List.replicate k' z).flatten)).take (j * sz)=pre:=by rw[<- hp];exact List.take_left' rfl
    have e2:(pre++(z++(List.replicate k' z).flatten)).drop (j * sz+l.length)=(List.replicate k' z).flatten:=by
     rw[<- List.append_assoc];exact List.drop_left' (by rw[aI,hp,hz,DZ])
    rw[e1,e2,Qa hz r (j+1) k' (pre++l) ck gD (by rw[aI,hp,DZ,Nat.add_mul];omega) fp h0,List.append_assoc]
   ·cases h
  ·cases h
theorem aaT {sz len:Nat} {st:LS} {p:bX} {z:List SV} {parts:List (Nat×Operand)} {cs:List SV} (hz:z.length=sz) (h0:0<sz) (h:CI sz st p parts len z (uW sz st p 0 parts)=some cs):pK sz st p parts (List.replicate len z).flatten=some cs:=by
 cases hs:uW sz st p 0 parts with
 |none=>rw[hs] at h;exact h
 |some ck=>
  rw[hs] at h;simp only[CI] at h;split at h
  ·rename_i hl;cases h;have:=Qa hz parts 0 len [] _ hs (by simp) hl h0;simpa using this
  ·exact h
theorem Ng (hS:Sat C n st a V D w) (hp:gz st.rho p) (hc:cI st.rho p=true) {sz:Nat}:
  ∀(parts:List (Nat×Operand)) (cs ck:List SV),pK sz st p parts cs=some ck->
   Instr.fill (fun i=>some (i * sz,sz)) ⟨cs.map (bL V)⟩ (parts.map fun x=>(x.1,a.eval x.2))=some ⟨ck.map (bL V)⟩/\ck.length=cs.length
 |[],cs,ck,h=>by simp only[pK,dY] at h;subst h;exact⟨rfl,rfl⟩
 |(i,x)::r,cs,ck,h=>by
  simp only[pK] at h;obtain⟨l,hl,h⟩:=vS h;obtain⟨s,hs,hl⟩:=vS hl;split at h
  ·rename_i dp;split at h
   ·rename_i vw;have qX:=dL hS hp hc hs;have cu:=Ez (V:=V) hl;have Da:(a.eval x).cells.size=l.length:=by rw[qX,cu];simp
    obtain⟨ih,ihl⟩:=Ng hS hp hc r _ ck h;refine⟨?_,by rw[ihl,PT]⟩;simp only[bJ,Instr.fill]
    rw[af (by
     simp only[Da,List.size_toArray,List.length_map,Bool.or_eq_true,bu,not_or,Decidable.not_not]
     exact⟨by simpa using dp,by omega⟩)]
    have KU:((a.eval x).cells.zipIdx.foldl (fun(cs:Array Value) (y:Value×Nat)=>cs.setIfInBounds (i * sz+y.2) y.1) ⟨cs.map (bL V)⟩)=⟨(lG cs (i * sz) l).map (bL V)⟩:=by
     rw[qX,cu,<- Array.foldl_toList];have:=Jq (V:=V) l cs (i * sz) 0;simp only[Nat.add_zero] at this;rw[<- this];simp [Array.toList_zipIdx]
    rw[<- ih,<- KU]
   ·cases h
  ·cases h
theorem WB (hS:Sat C n st a V D w) (hp:gz st.rho p) (hc:cI st.rho p=true) {t e:TypeId} {len:Nat} {parts:Array (Nat×Operand)} {z cs:List SV}
    (he:iU P t=some e) (hz:fC P e=some z) (uc:z.length=bZ P e) (h0:0<bZ P e) (vx:len * bZ P e<=16777216) (h:pK (bZ P e) st p parts.toList (List.replicate len z).flatten=some cs):
    (Instr.buildSlice t len (parts.map fun x=>(x.1,a.eval x.2))).run P w= .ok (.slice (some ⟨w.heap.size,0,none⟩) len len) (w.alloc (.cells ⟨cs.map (bL V)⟩ e))/\cs.length=len * bZ P e:=by
  obtain⟨AH,hlen⟩:=Ng hS hp hc _ _ _ h;have Ur:cs.length=len * bZ P e:=by
    rw[hlen];have:((List.replicate len z).flatten).length=len * z.length:=by
      induction len with
      |zero=>simp
      |succ k _=>simp
    rw[this,uc]
  refine⟨?_,Ur⟩;obtain⟨zv,hzv,hzc⟩:=Ig (V:=V) (w:=w) hz;have TK:(parts.map fun x=>(x.1,a.eval x.2)).toList=parts.toList.map fun x=>(x.1,a.eval x.2):=by simp
  simp only[Instr.buildSlice,Sem.run_bind,run_underlying (oF he),Result.andThen_ok,Ci h0]
  rw[af (by have:(2:Nat) ^ 24=16777216:=by decide
            omega)]
  rcases Nat.eq_zero_or_pos len with hl |hl
  · subst hl
    simp only[Nat.zero_mul,Array.range_zero',List.replicate_zero,List.flatten_nil] at h AH ⊢;have gD:cs=[]:=List.eq_nil_of_length_eq_zero (by simpa using Ur);subst gD;simp only[if_true,Sem.run_pure,Result.andThen_ok,TK,Sem.run_bind];simp only[List.map_nil] at AH;have:(#[]:Array Nat).map (fun i=>(#[]:Array Value)[i % (#[]:Array Value).size]!)= #[]:=by simp
    rw[this];rw[AH];simp [newRow]
  · have db:¬len * bZ P e=0:=by have:=Nat.mul_pos hl h0;omega
    rw[af db];simp only[Sem.run_bind,Sem.run_pure,Result.andThen_ok,hzv,hzc,TK];have ahA:(Array.range (len * bZ P e)).map (fun i=>(⟨z.map (bL V)⟩:Array Value)[i % (⟨z.map (bL V)⟩:Array Value).size]!)=⟨((List.replicate len z).flatten).map (bL V)⟩:=by
      have:=OX (z.map (bL V)) len (by simp;omega);simp only[List.length_map,uc] at this;rw[this,abo]
    rw[ahA,AH];simp [newRow]
theorem wy {o:Oper} {v:Value} {w' :World} {next:Act->World->Prop} {Q:Exit->Act->World->Prop} (h:(execOp a.eval o).run P w= .ok (.value v) w') (hn:next (a.put o.dst v) w'):o.wp P a w next Q:=by
 unfold Oper.wp;rw[h];exact hn
theorem PB {o:Oper} {w' :World} {next:Act->World->Prop} {Q:Exit->Act->World->Prop} (h:(execOp a.eval o).run P w= .ok .skip w') (hn:next (a.put o.dst undef) w'):o.wp P a w next Q:=by
 unfold Oper.wp;rw[h];exact hn
theorem Zt (hS:Sat C n st a V D w) (hp:gz st.rho p) (hc:cI st.rho p=true) {o:Oper} {op:Op} (ho:o.op=op) {K:SV->LS->Prop} (h:ph (.mk (k:=(c,P,op,K)) (st,p)))
  {next:Act->World->Prop} {Q:Exit->Act->World->Prop} (hn:∀s ak V' D' w',K s ak->ak.rho=st.rho->Sat C n ak a V' D' w' ->Step st.nid st.vc ak.nid ak.vc V V' ->next (a.put o.dst (den V' s)) w'):o.wp P a w next Q:=by
 unfold ph at h;split at h
 ·rename_i t ak p' q;cases q;obtain⟨cs,hz,bM,au,hK⟩:=aO h;obtain⟨zv,hzv,hzc⟩:=Ig (V:=V) (w:=w) hz;obtain⟨V',ha,hβ,hW⟩:=hS.w.addBx (t:=t) (If bM) au;have dJ:(Instr.alloc t true (.tuple #[])).run P w= .ok (.pointer (some ⟨w.heap.size,0,none⟩)) (w.alloc (.cells ⟨cs.map (bL V)⟩ t)):=by
   simp [Instr.alloc,hzv,newVar,newRow,hzc]
  refine wy (v:= .pointer (some ⟨w.heap.size,0,none⟩)) (by simp only[execOp,ho];exact kV dJ) ?_;have:=hn _ _ V' D _ hK rfl (hS.to ha (Nat.le_succ _) (fun _ _ _ h=>h) hW) ⟨ha,Nat.le_succ _,fun _ _ _ h=>h⟩;rwa [Ah,hβ] at this
 ·rename_i t x ak p' q;cases q;obtain⟨cs,gD,bM,au,hK⟩:=aO h;obtain⟨s,hs,gD⟩:=vS gD;obtain⟨V',ha,hβ,hW⟩:=hS.w.addBx (t:=t) (If bM) au;have cu:=Ez (V:=V) gD;have dJ:(Instr.box t (den V s)).run P w= .ok (.pointer (some ⟨w.heap.size,0,none⟩)) (w.alloc (.cells ⟨cs.map (bL V)⟩ t)):=by
   simp [Instr.box,newVar,newRow,cu]
  refine wy (v:= .pointer (some ⟨w.heap.size,0,none⟩)) (by simp only[execOp,ho,dL hS hp hc hs];exact kV dJ) ?_;have:=hn _ _ V' D _ hK rfl (hS.to ha (Nat.le_succ _) (fun _ _ _ h=>h) hW) ⟨ha,Nat.le_succ _,fun _ _ _ h=>h⟩;rwa [Ah,hβ] at this
 ·rename_i t x y ak p' q;cases q;obtain⟨sx,hx,h1⟩:=aO h;obtain⟨cs,gD,h2⟩:=aO h1;obtain⟨sy,hy,gD⟩:=vS gD;clear h h1;unfold GG at h2;split at h2
  ·rename_i ak k off q;simp only[A.mk.injEq,Prod.mk.injEq] at q;obtain⟨rfl,rfl⟩:=q;obtain⟨b,hb,bM,h0,dp,qK,au,vw,hK⟩:=aO h2;obtain⟨uv,fe⟩:=uS hb;obtain⟨ob,tV,hob⟩:=(hS.heap.bx b fe).1;have akN:=Q6 bM hob;subst akN;rw[uv] at tV;have apj:(cs.map (bL V))=cs.map (bL V):=rfl
   have hW:=hS.w.setBx (cs:=lG b.cs off cs) hb bM (by
    have ze:=(hS.w.ids.1 b fe).2
    exact Qj cs b.cs off au ze)
   have cu:=Ez (V:=V) gD;have jf:=run_storeCells_at P (V.β k) off b.ty (cs.map (bL V)) 0 ⟨b.cs.map (bL V)⟩ w tV (by simp;exact vw) (uQ qK);have dJ:(Instr.storeAt t (.pointer (some ⟨V.β k,off,none⟩)) (den V sy)).run P w= .ok () (w.setRow (V.β k) ⟨(lG b.cs off cs).map (bL V)⟩):=by
    have Da:(den V sy).cells.size=bZ P t:=by rw[cu];simpa using dp
    simp only[Instr.storeAt,Instr.sureAddr,Sem.run_bind,Sem.run_pure,Result.andThen_ok,storeVar,Ci h0];rw[af (by rw[Da];simp)];rw[cu];rw[JE _ _ _ vw];simp only[Nat.add_zero] at jf;simp only[List.map_append,List.map_take,List.map_drop];rw[<- List.length_map (f:=bL V)];exact jf
   refine PB (w' :=w.setRow (V.β k) ⟨(lG b.cs off cs).map (bL V)⟩) (by
    simp only[execOp,ho,dL hS hp hc hx,dL hS hp hc hy,Ah,Sem.run_bind,dJ,Result.andThen_ok,Sem.run_pure]) ?_
   exact hn _ _ V D _ hK rfl (hS.to (Agree.refl _ _ _) (av _) (fun _ _ _ h=>h) hW) ⟨Agree.refl _ _ _,av _,fun _ _ _ h=>h⟩
  ·cases h2
 ·rename_i t len parts ak p' q;cases q;obtain⟨e,he,h⟩:=aO h;obtain⟨z,hz,uc,h0,vx,h⟩:=aO h;obtain⟨cs,gD,h⟩:=aO h;have gD:=aaT uc h0 gD;obtain⟨l',m1,D1,e1,e2,e3,_⟩:=ry (st:=st) cs _ st.m D h hS.w;obtain⟨l,hl,qK,hK⟩:=aO e1;have j6:=EJ (V:=V) hl;obtain⟨dJ,hclen⟩:=WB hS hp hc he hz uc h0 vx gD;rw[<- e3,j6] at dJ;have lN:l.length=len * bZ P e:=by
   rw[<- j6,e3,List.length_map,hclen]
  obtain⟨V',ha,hγ,hW⟩:=SatW.addVc (w' :=w.alloc (.cells ⟨l⟩ e)) (hd:=⟨some ⟨w.heap.size,0,none⟩,len,len⟩) (e:=e) (sz:=bZ P e) (n:=len) (xs:=l) e2 rfl rfl rfl (by simp) (fun b hb=>zw w _ b hb)
   ⟨lN,.inr ⟨w.heap.size,len,⟨l⟩,rfl,aD _,heap_alloc_new w _,av _,by
    have:len<=len * bZ P e:=Nat.le_mul_of_pos_right _ h0
    simp only[maxLen];omega,by simpa using lN,by rw[<- lN];simp⟩⟩
   (fun g hg=>by simp only[Hd.blk,Option.map_some,dY] at hg;omega) h0
   (fun u hu=>by rw[<- j6] at hu;exact uQ qK u hu)
  refine wy (v:= .slice (some ⟨w.heap.size,0,none⟩) len len) (by simp only[execOp,ho];exact kV dJ) ?_;have:=hn _ _ V' D1 _ hK rfl (Sat.to (st:=⟨st.env,st.rho,st.bx,st.vc,st.nid,m1⟩) ⟨hS.f,hS.ids,e2⟩ ha (Nat.le_succ _) (fun k u hk hv=>uE rfl k u hk hv) hW) ⟨ha,Nat.le_succ _,fun k u hk hv=>uE rfl k u hk hv⟩;rwa [show den V' (.vec st.nid 0)= .slice (some ⟨w.heap.size,0,none⟩) len len from by show Hd.val _=_;rw[hγ];rfl] at this
 ·rename_i x y t tx ak p' q;cases q;obtain⟨sx,hx,h⟩:=aO h;obtain⟨sy,hy,h⟩:=aO h;obtain⟨e,he,h⟩:=aO h;obtain⟨r,ak,V',D',w',dJ,hK,gN,gF,ha⟩:=Yh (ty:=o.type) hS he h;rw[<- dL hS hp hc hx,<- dL hS hp hc hy] at dJ
  refine wy (v:=den V' r) (by
   simp only[execOp,ho,resolve,Sem.run_bind,Sem.run_pure,Result.andThen_ok,invoke,builtin]
   simp only[List.map_toArray,bJ,List.map_nil,dJ,Result.andThen_ok]) (hn _ _ V' D' w' hK gN gF ha)
 ·rename_i t l cp ak p' q;cases q;obtain⟨sl,hl,h1⟩:=aO h;obtain⟨sc,ba,h2⟩:=aO h1;obtain⟨e,he,h3⟩:=aO h2;obtain⟨z,hz,h4⟩:=aO h3;clear h h1 h2 h3;obtain⟨zs,yS,hz⟩:=vS hz;unfold G8 at h4;split at h4
  ·rename_i ak kl l' kc c' q;simp only[A.mk.injEq,Prod.mk.injEq] at q;obtain⟨rfl,rfl,rfl⟩:=q;obtain⟨VK,hlc,lD,uc,h0,qK,hK⟩:=h4;obtain⟨i,hi,hisz,hiby⟩:=JQ h0;have Lk:=yS;unfold fC at Lk;simp only[Option.map_eq_some_iff,Option.bind_eq_some_iff] at Lk;obtain⟨zv,⟨i',qg,hzv⟩,hzz⟩:=Lk;rw[hi] at qg;cases qg;have akD:zv.cells=⟨z⟩:=by
    have:=EJ (V:=V) hz;rw[<- hzz,AE] at this;rw[<- this]
   have ahK:0<=c' :=by omega
   have dJ:=run_make (P:=P) w t e i zv (oF he) hi hzv kl kc l' c' VK hlc (by
    have:=lD.1;rw[<- hiby] at this;have hh:((i.bytes * c'.toNat:Nat):Int)<=281474976710656:=by rw[Nat.mul_comm];omega
    rw[Int.natCast_mul,Int.toNat_of_nonneg ahK] at hh
    exact hh) (by have:=lD.2;simp only[maxLen] at this;omega)
   have afq:madeCells zv.cells (c'.toNat * i.size)=⟨(List.replicate c'.toNat z).flatten⟩:=by
    unfold madeCells;rw[akD,hisz,<- uc];exact OX z _ (by omega)
   rw[afq] at dJ;have hlen:((List.replicate l'.toNat z).flatten).length=l'.toNat * bZ P e:=by rw[Js,uc]
   obtain⟨V',ha,hγ,hW⟩:=SatW.addVc (w' :=w.alloc (.cells ⟨(List.replicate c'.toNat z).flatten⟩ e)) (hd:=⟨some ⟨w.heap.size,0,none⟩,l'.toNat,c'.toNat⟩) (e:=e) (sz:=bZ P e) (n:=l'.toNat) (xs:=(List.replicate l'.toNat z).flatten)
    hS.w rfl rfl rfl (by simp) (fun b hb=>zw w _ b hb)
    ⟨hlen,.inr ⟨w.heap.size,c'.toNat,⟨(List.replicate c'.toNat z).flatten⟩,rfl,aD _,heap_alloc_new w _,by omega,lD.2,by simp only[List.size_toArray,Js,uc],by
     show((List.replicate c'.toNat z).flatten).take (l'.toNat * bZ P e)=_
     rw[<- uc];exact Zx z (by omega)⟩⟩
    (fun g hg=>by simp only[Hd.blk,Option.map_some,dY] at hg;omega) h0
    (fun u hu=>by
     have:=uQ (V:=V) qK u;rw[AE] at this
     exact this (abn hu))
   refine wy (v:= .slice (some ⟨w.heap.size,0,none⟩) l'.toNat c'.toNat) (by
    simp only[execOp,ho,dL hS hp hc hl,dL hS hp hc ba,fq]
    exact kV dJ) ?_
   have:=hn _ _ V' D _ hK rfl (hS.to ha (Nat.le_succ _) (fun k u hk hv=>uE rfl k u hk hv) hW) ⟨ha,Nat.le_succ _,fun k u hk hv=>uE rfl k u hk hv⟩;rwa [show den V' (.vec st.nid 0)= .slice (some ⟨w.heap.size,0,none⟩) l'.toNat c'.toNat from by show Hd.val _=_;rw[hγ];rfl] at this
  ·cases h4
 ·rename_i t ak p' q;cases q;obtain⟨uo,h⟩:=h;obtain⟨V',ha,hβ,hW⟩:=hS.w.addBx (t:=(js P t).1) (cs:=[]) (o:= .map #[] 0) (by unfold nD;rw[af (Nat.not_lt.2 uo.1)];exact⟨#[],0,[],rfl,rfl,rfl,fun x hx=>by cases hx⟩) trivial;have dJ:(Instr.makeMap t (Option.map a.eval none)).run P w= .ok (.map (some w.heap.size)) (w.alloc (.map #[] 0)):=by
   simp [Instr.makeMap]
  refine wy (v:= .map (some w.heap.size)) (by simp only[execOp,ho];exact kV dJ) ?_;have:=hn _ _ V' D _ h rfl (hS.to ha (Nat.le_succ _) (fun _ _ _ h=>h) hW) ⟨ha,Nat.le_succ _,fun _ _ _ h=>h⟩;rwa [show den V' (.mp st.nid)= .map (some w.heap.size) from by show Value.map _=_;rw[hβ]] at this
 ·rename_i f r ak p' q;cases q;obtain⟨sr,hr,h1⟩:=aO h;clear h;unfold G7 at h1;split at h1
  ·rename_i ak k o' q;simp only[A.mk.injEq,Prod.mk.injEq] at q;obtain⟨rfl,rfl⟩:=q;have dJ:(Instr.makeFunc (.func f) (Array.map a.eval #[r]) (Array.map a.eval #[])).run P w= .ok (den V (.mv f k o')) w:=by
    have e:Array.map a.eval #[r]= #[den V (.box k o')]:=by
     apply Array.ext'
     simp only[Array.toList_map,bJ,List.map_nil];rw[dL hS hp hc hr]
    rw[e];simp [Instr.makeFunc];rfl
   refine wy (v:=den V (.mv f k o')) (by simp only[execOp,ho];exact kV dJ) ?_;exact hn _ _ V D _ h1 rfl (hS.to (Agree.refl _ _ _) (av _) (fun _ _ _ h=>h) hS.w) ⟨Agree.refl _ _ _,av _,fun _ _ _ h=>h⟩
  ·cases h1
 ·rename_i t m k x ak p' q;cases q;obtain⟨sm,hm,h1⟩:=aO h;obtain⟨sk,hk,h2⟩:=aO h1;obtain⟨sx,hx,h3⟩:=aO h2;clear h h1 h2;unfold GH at h3;split at h3
  ·rename_i ak j s v q;simp only[A.mk.injEq,Prod.mk.injEq] at q;obtain⟨rfl,rfl,qU,hpv⟩:=q;obtain⟨b,hb,bM,ht,iR,hvv,h4⟩:=aO h3;obtain⟨l,hl,hK⟩:=aO h4;have GV:=beq_iff_eq.1 bM;obtain⟨es,qj,l',e1,e2,e3,e4⟩:=Tg hS hb (by rw[GV];exact ht.1);rw[ES hl] at e2;subst e2;have Wi:=e4;rw[GV] at Wi;obtain⟨zn,A1,dJ,hes'⟩:=XF (P:=P) (w:=w) ht e1 e3 Wi (by rw[<- GV];exact iR) v;rw[P2] at hK;have aw:V.β j<w.heap.size:=(Array.getElem?_eq_some_iff.1 e1).1;have Lt:((ot (nG l' s v)).map SV.v).map (bL V)=ot (nG l' s v):=by rw[List.map_map];exact List.map_id'' (fun _=>rfl) _
   have akJ:fO st.nid st.vc ((ot (nG l' s v)).map SV.v):=by
    generalize ot (nG l' s v)=z
    induction z with
    |nil=>trivial
    |cons y z ih=>exact⟨trivial,ih⟩
   have hW:=hS.w.setOb (w' :={w with heap:=w.heap.setIfInBounds (V.β j) (.map zn A1)}) (o:= .map zn A1) (cs:=(ot (nG l' s v)).map SV.v) hb akJ
    (by unfold nD;rw[af (Nat.not_lt.2 (by rw[GV];exact ht.1)),Lt];exact⟨zn,A1,_,rfl,rfl,hes',RG iR hvv e4⟩) rfl rfl rfl (by simp) (MapKept.heap_set e1).1 (fun g hg=>(MapKept.heap_set e1).2 g hg)
   refine PB (w' :={w with heap:=w.heap.setIfInBounds (V.β j) (.map zn A1)}) (by
    simp only[execOp,ho,dL hS hp hc hm,dL hS hp hc hk,dL hS hp hc hx,Sem.run_bind];rw[show den V (.mp j)= .map (some (V.β j)) from rfl,IH qU,IH hpv,dJ]
    rfl) ?_
   exact hn _ _ V D _ hK rfl (hS.to (Agree.refl _ _ _) (av _) (fun _ _ _ h=>h) hW) ⟨Agree.refl _ _ _,av _,fun _ _ _ h=>h⟩
  ·cases h3
 ·rename_i fo args _ ak p' q;cases q;obtain⟨l,hl,h1⟩:=aO h;obtain⟨sf,hf,h2⟩:=aO h1;clear h h1;unfold C5 at h2;split at h2
  ·rename_i ak f q;simp only[A.mk.injEq,Prod.mk.injEq] at q;obtain⟨rfl,rfl⟩:=q;obtain⟨au,h3⟩:=h2;have dJ:=Jd (w:=w) ho (dL hS hp hc hf) au;unfold Oper.wp;rw[dJ];have rV:args.map a.eval=⟨l.map (den V)⟩:=by
    apply Array.ext'
    rw[Array.toList_map,Bz hS hp hc hl]
   rw[rV];refine NB (R:=fun | .returned v,qP=>next (a.put o.dst v) qP | .panicked chain,qP=>Q (.panic chain) a qP | .outgrown,_=>LetsOut Q) hS h3 ?_;intro s ak V' D' w' hK gN gF ha;exact hn s ak V' D' w' hK gN gF ha
  ·rename_i ak f k o' q;simp only[A.mk.injEq,Prod.mk.injEq] at q;obtain⟨rfl,rfl⟩:=q;obtain⟨au,h3⟩:=h2;have dJ:=YX (w:=w) ho (dL hS hp hc hf) au;unfold Oper.wp;rw[dJ];have rV: #[Value.pointer (some ⟨V.β k,o',none⟩)]++args.map a.eval=⟨(SV.box k o' ::l).map (den V)⟩:=by
    apply Array.ext'
    simp only[Array.toList_append,Array.toList_map,Bz hS hp hc hl,bJ];rfl
   rw[rV];refine NB (R:=fun | .returned v,qP=>next (a.put o.dst v) qP | .panicked chain,qP=>Q (.panic chain) a qP | .outgrown,_=>LetsOut Q) hS h3 ?_;intro s ak V' D' w' hK gN gF ha;exact hn s ak V' D' w' hK gN gF ha
  ·cases h2
 ·cases h
end
def nA (n:Nat) (o:Oper):Bool:=match o.dst with |some d=>decide (d<n) |none=>true
def RInv (ops:Array Oper) (L:Nat->Prop) (rho:List Gd):Prop:=∀g∈rho,L g.i/\(ops[g.i]?).bind (·.dst)=some g.slot
def dO (c:Cfg) (P:Program):Prop:=
 ∀f F,c.pure f=some F->jv P f=true/\∀m fy y,F m fy=some y->y.1->FnH P f (fy.map SV.v) ⟨[],[]⟩ m (fun r H' _=>r= .v y.2/\H' =⟨[],[]⟩)
theorem Bv {g:Gd} {rho:List Gd} {j:Nat} (h:g.i≠j):gP (g::rho) j=gP rho j:=by
 obtain⟨i,t,p,b⟩:=g;simp only[gP];rw[af h]
theorem EB {g:Gd} {rho:List Gd}:gP (g::rho) g.i=some g:=by
 obtain⟨i,t,p,b⟩:=g;simp only[gP,if_true]
theorem I7 {g:Gd} {rho:List Gd} {p:bX} (h:gz rho p):gz (g::rho) p:=fun x hx=>by
 obtain⟨g',iS⟩:=h x hx;by_cases e:g.i=x.1
 ·exact⟨g,by rw[<- e];exact EB⟩
 ·exact⟨g',by rw[Bv e];exact iS⟩
theorem Zv {g:Gd} {rho:List Gd} {j:Nat} {w:Bool} (h:g.i≠j):o7 (g::rho) j w=o7 rho j w:=by
 unfold o7;rw[Bv h]
theorem Oi {g:Gd} {rho:List Gd}:∀{p:bX},(∀x∈p,x.1≠g.i)->cI (g::rho) p=cI rho p
 |[],_=>rfl
 |(j,w)::p,h=>by
  simp only[cI];rw[Zv (fun e=>h (j,w) (b6 ..) e.symm),Oi fun x hx=>h x (bR _ hx)]
theorem aes {rho:List Gd} {i:Nat} (hi:∀g∈rho,g.i≠i) {p:bX} (h:gz rho p):∀x∈p,x.1≠i:=fun x hx e=>by
 obtain⟨g,hg⟩:=h x hx;obtain⟨h1,h2⟩:=Gm hg;exact hi g h2 (h1.trans e)
theorem NY:∀p:bX,qD p p=true
 |[]=>rfl
 |(j,w)::p=>by simp only[qD,if_true];exact NY p
theorem aas:∀p:bX,oy p p=true
 |[]=>rfl
 |x::p=>by simp only[oy];rw[ah (NY _)]
theorem ac9 {env:List Ev} {t:Nat} {q:bX} {s:SV} (h:gi env t q=some s):∃e∈env,oy e.p q=true/\gi env t e.p=some s:=by
 induction env with
 |nil=>cases h
 |cons x r ih=>
  obtain⟨t',p',s'⟩:=x;simp only[gi] at h;split at h
  ·rename_i ht;split at h
   ·rename_i yZ;refine⟨_,b6 ..,yZ,?_⟩;simp only[gi];rw[ah ht,ah (aas p')];exact h
   ·cases h
  ·rename_i ht;obtain⟨e,he,h1,h2⟩:=ih h;refine⟨e,bR _ he,h1,?_⟩;simp only[gi];rw[af ht];exact h2
theorem Pd {d:Nat}:∀{rho:List Gd},kK rho (some d)=false->∀g∈rho,g.slot≠d
 |[],_,_,hg=>by cases hg
 |⟨i,t,p,b⟩::r,h,g,hg=>by
  simp only[kK] at h;split at h
  ·cases h
  ·rename_i db;rcases List.mem_cons.1 hg with rfl |hg
   ·exact db
   ·exact Pd h g hg
section
variable {C:Ctx} {n:Nat} {st:LS} {a:Act} {V:Vl} {D:Nat->Nat} {w:World} {P:Program} {p:bX} {c:Cfg} {ops:Array Oper} {L:Nat->Prop} {i:Nat} {o:Oper}
theorem JF (hS:Sat C n st a V D w) {d:Nat} (hd:d<n) (v:Value):(a.put (some d) v).tmps[d]? =some v:=by
 have:=hS.f.size;simp only[Act.put];rw[Array.getElem?_setIfInBounds_self_of_lt (by omega)]
theorem OF {d t:Nat} (v:Value) (h:t≠d):(a.put (some d) v).tmps[t]? =a.tmps[t]? :=by
 simp only[Act.put];rw[Array.getElem?_setIfInBounds_ne (fun e=>h e.symm)]
theorem Sat.put (hS:Sat C n st a V D w) {d:Option Nat} (hd:∀x,d=some x->x<n) (hit:kK st.rho d=false) (hp:gz st.rho p) {s:SV} (hs:jA st.nid st.vc s) {v:Value}
  (hv:cI st.rho p=true->v=den V s):Sat C n (E.put st d p s) (a.put d v) V D w:=by
 cases d with
 |none=>exact hS
 |some d=>
  refine⟨⟨hS.f.defers,by simp only[Act.put,Array.size_setIfInBounds];exact hS.f.size,?_,?_,?_⟩,?_,hS.w⟩
  ·intro e he;rcases List.mem_cons.1 he with rfl |he
   ·exact hp
   ·exact hS.f.pth e he
  ·intro t q s' hq hl hc;simp only[E.put,gi] at hl;split at hl
   ·rename_i ht;subst ht;split at hl
    ·rename_i yZ;cases hl;rw[JF hS (hd _ rfl),hv (E6 yZ hc)]
    ·cases hl
   ·rename_i ht;rw[OF _ (fun e=>ht e.symm)];exact hS.f.env t q s' hq hl hc
  ·intro g hg;obtain⟨h1,h2,h3⟩:=hS.f.rho g hg;exact⟨h1,h2,by rw[OF _ (Pd hit g hg)];exact h3⟩
  ·intro e he;rcases List.mem_cons.1 he with rfl |he
   ·exact hs
   ·exact hS.ids e he
theorem Sat.note (hS:Sat C n st a V D w) (hp:gz st.rho p) {b:Bool} {d:Nat} (hi:∀g∈st.rho,g.i≠i) (ht:a.tmps[d]? =some (if cI st.rho p=true then .bool b else undef)):
  Sat C n ⟨st.env,⟨i,d,p,.sym b⟩::st.rho,st.bx,st.vc,st.nid,st.m⟩ a V D w:=by
 have hc:∀{q:bX},gz st.rho q->cI (⟨i,d,p,.sym b⟩::st.rho) q=cI st.rho q:=fun hq=>Oi (aes hi hq)
 refine⟨⟨hS.f.defers,hS.f.size,fun e he=>I7 (hS.f.pth e he),?_,?_⟩,hS.ids,hS.w⟩
 ·intro t q s hq hl xz;obtain⟨e,he,yZ,lu⟩:=ac9 hl;have Vt:=hS.f.pth e he;exact hS.f.env t e.p s Vt lu (by rw[<- hc Vt];exact E6 yZ xz)
 ·intro g hg;rcases List.mem_cons.1 hg with rfl |hg
  ·exact⟨EB,I7 hp,by rw[hc hp];exact ht⟩
  ·obtain⟨h1,h2,h3⟩:=hS.f.rho g hg;have:=hi g hg;exact⟨by rw[Bv (fun e=>this e.symm)];exact h1,I7 h2,by rw[hc h2];exact h3⟩
/-! Forks. -/
structure Fk (st ak:LS):Prop where
 eqs:ak.bx=st.bx/\ak.vc=st.vc/\ak.nid=st.nid/\ak.m=st.m
 cond:∀q,cI ak.rho q=cI st.rho q
 wf:∀q,gz st.rho q->gz ak.rho q
 hit:∀d,kK ak.rho d=kK st.rho d
 inv:∀ops (L:Nat->Prop),RInv ops L st.rho->RInv ops L ak.rho
theorem Fk.refl (st:LS):Fk st st:=⟨⟨rfl,rfl,rfl,rfl⟩,fun _=>rfl,fun _ h=>h,fun _=>rfl,fun _ _ h=>h⟩
theorem Fk.trans {st ak lV:LS} (h:Fk st ak) (h' :Fk ak lV):Fk st lV:=
 ⟨⟨h'.eqs.1.trans h.eqs.1,h'.eqs.2.1.trans h.eqs.2.1,h'.eqs.2.2.1.trans h.eqs.2.2.1,h'.eqs.2.2.2.trans h.eqs.2.2.2⟩,fun q=>(h'.cond q).trans (h.cond q),fun q x=>h'.wf q (h.wf q x),
  fun d=>(h'.hit d).trans (h.hit d),fun o i x=>h'.inv o i (h.inv o i x)⟩
theorem Step.same {nid jc:Nat} {vc fh:List Vc} (h1:jc=nid) (h2:fh=vc) (V:Vl):Step nid vc jc fh V V:=by
 subst h1 h2;exact⟨Agree.refl _ _ _,av _,fun _ _ _ h=>h⟩
theorem Step.trans {nid jc T9:Nat} {vc fh UC:List Vc} {V V' Wo:Vl} (h:Step nid vc jc fh V V') (h' :Step jc fh T9 UC V' Wo):Step nid vc T9 UC V Wo:=
 ⟨fun k hk=>⟨((h'.agr k (eP hk h.up)).1).trans (h.agr k hk).1,fun u hu=>((h'.agr k (eP hk h.up)).2 u (h.ver k u hk hu)).trans ((h.agr k hk).2 u hu)⟩,cX h.up h'.up,
  fun k u hk hu=>h'.ver k u (eP hk h.up) (h.ver k u hk hu)⟩
theorem Fk.step {st ak:LS} (h:Fk st ak) (V:Vl):Step st.nid st.vc ak.nid ak.vc V V:=Step.same h.eqs.2.2.1 h.eqs.2.1 V
def tY (j:Nat) (x:Bool) (g:Gd):Gd:=if g.i=j then⟨g.i,g.slot,g.p,.lit x⟩ else g
theorem Cq {j:Nat} {x:Bool}:∀{rho:List Gd},lZ rho j x=rho.map (tY j x)
 |[]=>rfl
 |⟨i,t,p,b⟩::r=>by
  simp only[lZ,bJ,tY];split
  ·rw[Cq]
  ·rw[Cq]
theorem F5 {j:Nat} {x:Bool} (g:Gd):(tY j x g).i=g.i/\(tY j x g).slot=g.slot/\(tY j x g).p=g.p:=by
 unfold tY;split<;>exact⟨rfl,rfl,rfl⟩
theorem Tn {f:Gd->Gd} (hf:∀g,(f g).i=g.i):∀{rho:List Gd} (k:Nat),gP (rho.map f) k=(gP rho k).map f
 |[],_=>rfl
 |g::r,k=>by
  by_cases e:g.i=k
  ·subst e;rw[EB,bJ,<- hf g,EB];rfl
  ·rw[Bv e,bJ,Bv (by rw[hf];exact e),Tn hf]
theorem F4 {rho:List Gd} {j:Nat} {x:Bool} (k:Nat):gP (lZ rho j x) k=(gP rho k).map (tY j x):=by
 rw[Cq];exact Tn (fun g=>(F5 g).1) k
theorem Ss {rho:List Gd} {j:Nat} {x:Bool} {g:Gd} (h:g∈lZ rho j x):∃g' ∈rho,g=tY j x g' :=by
 rw[Cq] at h;obtain⟨g',h1,h2⟩:=List.mem_map.1 h;exact⟨g',h1,h2.symm⟩
theorem Sn {f:Gd->Gd} (hf:∀g,(f g).slot=g.slot) {d:Option Nat}:∀{rho:List Gd},kK (rho.map f) d=kK rho d
 |[]=>rfl
 |g::r=>by
  cases d with
  |none=>rfl
  |some d=>
   have h1:∀(g:Gd) (r:List Gd),kK (g::r) (some d)=if g.slot=d then true else kK r (some d):=fun g r=>by cases g;rfl
   rw[bJ,h1,h1,hf,Sn hf]
theorem ad0 {j:Nat} {x:Bool} {d:Option Nat} {rho:List Gd}:kK (lZ rho j x) d=kK rho d:=by
 rw[Cq];exact Sn fun g=>(F5 g).2.1
theorem Sr {rho:List Gd} {j k:Nat} {x:Bool} {g g' :Gd} (hg:gP rho j=some g) (hb:g.b.val=x) (hk:gP rho k=some g'):(tY j x g').b.val=g'.b.val:=by
 unfold tY;split
 ·rename_i e;have:=(Gm hk).1;rw[this] at e;subst e;rw[hg] at hk;cases hk;exact hb.symm
 ·rfl
theorem abq {rho:List Gd} {j k:Nat} {x u:Bool} {g:Gd} (hg:gP rho j=some g) (hb:g.b.val=x):o7 (lZ rho j x) k u=o7 rho k u:=by
 unfold o7;rw[F4];cases hk:gP rho k with
 |none=>rfl
 |some g' =>simp only[Option.map_some,Sr hg hb hk]
theorem QQ {rho:List Gd} {j:Nat} {x:Bool} {g:Gd} (hg:gP rho j=some g) (hb:g.b.val=x):∀q:bX,cI (lZ rho j x) q=cI rho q
 |[]=>rfl
 |(k,u)::q=>by simp only[cI];rw[abq hg hb,QQ hg hb q]
theorem CO {rho:List Gd} {j:Nat} {x:Bool} {q:bX}:gz (lZ rho j x) q↔gz rho q:=by
 constructor
 ·intro h y hy;obtain⟨g,hg⟩:=h y hy;rw[F4] at hg;obtain⟨g',iS,_⟩:=Option.map_eq_some_iff.1 hg;exact⟨g',iS⟩
 ·intro h y hy;obtain⟨g,hg⟩:=h y hy;exact⟨_,by rw[F4,hg];rfl⟩
theorem abk (hS:Sat C n st a V D w) {j t:Nat} {q:bX} {b:GB} {i' :Nat} {x:Bool} (hg:gP st.rho j=some ⟨i',t,q,b⟩) (hb:b.val=x):
  Sat C n ⟨⟨t,q,.v (.bool x)⟩::st.env,lZ st.rho j x,st.bx,st.vc,st.nid,st.m⟩ a V D w/\Fk st ⟨⟨t,q,.v (.bool x)⟩::st.env,lZ st.rho j x,st.bx,st.vc,st.nid,st.m⟩:=by
 have hc:=QQ hg hb;obtain⟨hgi,hgm⟩:=Gm hg;obtain⟨h1,h2,h3⟩:=hS.f.rho _ hgm;refine⟨⟨⟨hS.f.defers,hS.f.size,?_,?_,?_⟩,?_,hS.w⟩,⟨rfl,rfl,rfl,rfl⟩,hc,fun q=>CO.2,fun _=>ad0,?_⟩
 ·intro e he;rcases List.mem_cons.1 he with rfl |he
  ·exact CO.2 h2
  ·exact CO.2 (hS.f.pth e he)
 ·intro t' q' s hq hl xz;simp only at hq xz;rw[hc] at xz;have hq:=CO.1 hq;simp only[gi] at hl;split at hl
  ·rename_i ht;subst ht;split at hl
   ·rename_i yZ;cases hl;simp only at h3;rw[h3,ah (E6 yZ xz),hb];rfl
   ·cases hl
  ·exact hS.f.env t' q' s hq hl xz
 ·intro g iS;obtain⟨g0,hg0,rfl⟩:=Ss iS;obtain⟨e1,e2,e3⟩:=hS.f.rho g0 hg0;obtain⟨f1,f2,f3⟩:=F5 (j:=j) (x:=x) g0;refine⟨by rw[f1,F4,e1];rfl,by rw[f3];exact CO.2 e2,?_⟩;simp only;rw[f2,f3,hc,Sr hg hb e1];exact e3
 ·intro e he;rcases List.mem_cons.1 he with rfl |he
  ·trivial
  ·exact hS.ids e he
 ·intro ops i hR g hg;obtain⟨g',h1,rfl⟩:=Ss hg;obtain⟨f1,f2,f3⟩:=F5 (j:=j) (x:=x) g';rw[f1,f2];exact hR g' h1
theorem Xt (hS:Sat C n st a V D w) {j:Nat} {u:Bool} {g:Gd} (hg:gP st.rho j=some g) {dead live:LS->Prop} (h:rW (.mk (k:=(j,u,dead,live)) (st,g))):
  ∃ak,Sat C n ak a V D w/\Fk st ak/\(o7 st.rho j u=true->live ak)/\(o7 st.rho j u=false->dead ak):=by
 have hv:=FK hg (w:=u);obtain⟨i',t,q,b⟩:=g;cases b with
 |lit b=>
  refine⟨st,hS,Fk.refl st,?_⟩;rw[hv];cases u<;>cases b<;>simp_all [rW,GB.val]
 |sym b=>
  obtain⟨h1,h2⟩:=abk hS hg (x:=b) rfl;refine⟨_,h1,h2,?_⟩;rw[hv];cases u<;>cases b<;>simp_all [rW,GB.val]
theorem Nv (hS:Sat C n st a V D w):∀{p:bX} {dead live:LS->Prop},F3 p dead live st->∃ak,Sat C n ak a V D w/\Fk st ak/\(cI st.rho p=true->live ak)/\(cI st.rho p=false->dead ak)
 |[],dead,live,h=>⟨st,hS,Fk.refl st,fun _=>h,fun e=>by cases e⟩
 |(j,u)::p,dead,live,h=>by
  simp only[F3] at h;obtain⟨mb,s1,f1,l1,d1⟩:=Nv hS h;cases hc:cI st.rho p with
  |false=>exact⟨mb,s1,f1,fun e=>by simp [cI,hc] at e,fun _=>d1 hc⟩
  |true=>
   obtain⟨g,hg,h'⟩:=aO (l1 hc);obtain⟨cD,s2,f2,l2,d2⟩:=Xt s1 hg h';have:o7 mb.rho j u=o7 st.rho j u:=by
    have:=f1.cond [(j,u)];simpa [cI] using this
   rw[this] at l2 d2;exact⟨cD,s2,f1.trans f2,fun e=>l2 (by simpa [cI,hc] using e),fun e=>d2 (by simpa [cI,hc] using e)⟩
/-! The guard of an operation. -/
theorem Ir (hS:Sat C n st a V D w) (hR:RInv ops L st.rho) (h:pathOf st o.guard=some p):gz st.rho p/\Region.wanted o (yielded ops a.tmps)=cI st.rho p:=by
 unfold Region.wanted;cases hg:o.guard with
 |none=>rw[hg] at h;simp only[pathOf,dY] at h;subst h;exact⟨rG,rfl⟩
 |some x=>
  obtain⟨j,u⟩:=x;rw[hg] at h;simp only[pathOf,Option.map_eq_some_iff] at h;obtain⟨g,hj,rfl⟩:=h;obtain⟨hi,hm⟩:=Gm hj;obtain⟨h1,h2,h3⟩:=hS.f.rho g hm;have C9:=(hR g hm).2;rw[hi] at C9;refine⟨fun y hy=> ?_,?_⟩
  ·rcases List.mem_cons.1 hy with rfl |hy
   ·exact⟨g,hj⟩
   ·exact h2 y hy
  ·simp only[cI,FK hj,yielded,C9,Option.bind_some,h3];cases hc:cI st.rho g.p with
   |false=>simp [undef]
   |true=>cases u<;>cases g.b.val<;>simp
theorem RInv.mono {rho:List Gd} {L' :Nat->Prop} (h:RInv ops L rho) (hL:∀k,L k->L' k):RInv ops L' rho:=fun g hg=>⟨hL _ (h g hg).1,(h g hg).2⟩
theorem RInv.note {rho:List Gd} (h:RInv ops L rho) (iP:ops[i]? =some o) {d:Nat} (hd:o.dst=some d) {b:GB}:RInv ops (fun k=>L k\/k=i) (⟨i,d,p,b⟩::rho):=fun g hg=>by
 rcases List.mem_cons.1 hg with rfl |hg
 ·exact⟨.inr rfl,by simp only[iP,Option.bind_some];exact hd⟩
 ·exact⟨.inl (h g hg).1,(h g hg).2⟩
theorem mE {d:Option Nat} {s:SV}:(E.put st d p s).rho=st.rho/\(E.put st d p s).nid=st.nid/\(E.put st d p s).vc=st.vc:=by
 cases d<;>exact⟨rfl,rfl,rfl⟩
theorem X7 {s:SV} {x:Value} (h:pJ s=some x):den V s=x:=by
 cases s with
 |v y=>simp only[pJ,dY] at h;subst h;rfl
 |agg cs=>
  simp only[pJ,Option.map_eq_some_iff] at h;obtain⟨l,hl,rfl⟩:=h;rw[JX,EJ hl]
 |_=>simp [pJ] at h
theorem H7:∀{ss:List SV} {l:List Value},xT ss=some l->ss.map (den V)=l
 |[],l,h=>by simp only[xT,dY] at h;subst h;rfl
 |s::r,l,h=>by
  simp only[xT,Option.bind_eq_some_iff,Option.map_eq_some_iff] at h;obtain⟨x,hx,l',hl,rfl⟩:=h;simp only[bJ];rw[X7 hx,H7 hl]
theorem SatW.quiet {bx:List Bx} {vc:List Vc} {nid:Nat} {m:Mem} (h:SatW C bx vc nid m V D w) {w2:World} {D2:Nat->Nat} {V1:Vl} (wZ:Wf w2 D2) (qi:Frm (· ∈br V1 ⟨[],[]⟩) w D w2 D2) (hle:Mem.le ⟨w,D⟩ ⟨w2,D2⟩):
  SatW C bx vc nid m V D2 w2:=
 have hb:=wb h.heap
 ⟨h.heap.frame (fun _ _=>⟨rfl,rfl⟩) (fun _ _=>rfl) (fun g hg=>qi.same g (hb g hg) (by simp [br])),wZ,h.frm.trans qi (fun b hx=>by simp [br] at hx),h.own,h.baseB,h.baseV,h.ids,
  Mem.le_trans h.le0 hle,h.m0,Mem.le_trans h.mle hle⟩
theorem Qf {op:Op} {F:Mem->List Value->Option (Prop×Value)} (h:im c op= .pu F):∃f args ts,op= .call {callee:= .value (.func f),args,argTypes:=ts}/\c.pure f=some F:=by
 unfold im at h;split at h;all_goals first |cases h |skip
 refine⟨_,_,_,rfl,?_⟩;cases hf:c.pure _ with
 |none=>rw[hf] at h;cases h
 |some G=>rw[hf] at h;cases h;rfl
theorem X3 (hS:Sat C n st a V D w) (ei:dO c P) (hp:gz st.rho p) (hc:cI st.rho p=true) {F:Mem->List Value->Option (Prop×Value)} (hk:im c o.op= .pu F) {K:SV->Prop} (h:Ku (.mk (k:=(F st.m,qb st p,K)) (vi st p (z6 o.op))))
  {next:Act->World->Prop} {Q:Exit->Act->World->Prop} (hn:∀y D' w',K (.v y)->Sat C n st a V D' w' ->next (a.put o.dst y) w'):o.wp P a w next Q:=by
 obtain⟨f,args,ts,ho,hf⟩:=Qf hk;obtain⟨au,hF⟩:=ei f F hf;obtain⟨y,hy,hB,hK⟩:=aO h;rw[ho] at hy;simp only[z6,Option.bind_eq_some_iff] at hy;obtain⟨fy,⟨ss,yX,hvals⟩,hy⟩:=hy;have dJ:=Jd (w:=w) (a:=a) ho rfl au;unfold Oper.wp;rw[dJ];have rV:args.map a.eval=⟨(fy.map SV.v).map (den V)⟩:=by
  apply Array.ext'
  rw[Array.toList_map,Bz hS hp hc yX,H7 hvals];simp only[List.map_map];exact(List.map_id'' (fun x=>rfl) fy).symm
 rw[rV];refine(hF st.m fy y hy (hB hc) V w D hS.w.wf hS.w.mle ⟨fun b hb=>(by cases hb),fun b hb=>(by cases hb),by simp [br],by simp⟩).mono fun e w2 ⟨r,V2,D2,H',m',he,h1,h2,h3,h4,h5,h6,h7,h8,h9,hr,hH⟩=> ?_
 subst he;subst hr;exact hn y.2 D2 w2 hK ⟨hS.f,hS.ids,hS.w.quiet h1 h5 h7⟩
/-! One operation. -/
theorem H8 (st:LS) (i:Nat) (d:Option Nat) (p:bX) (mv:Bool) (s:SV):mL st i d p mv s=st\/∃d' b,d=some d' /\s= .v (.bool b)/\mL st i d p mv s=⟨st.env,⟨i,d',p,.sym b⟩::st.rho,st.bx,st.vc,st.nid,st.m⟩:=by
 unfold mL;split
 ·exact .inr ⟨_,_,rfl,rfl,rfl⟩
 ·exact .inl rfl
theorem H9 (st:LS) (i:Nat) (d:Option Nat) (p:bX) (mv:Bool):mM st i d p mv=st\/∃d',d=some d' /\mM st i d p mv=⟨st.env,⟨i,d',p,.sym false⟩::st.rho,st.bx,st.vc,st.nid,st.m⟩:=by
 unfold mM;split
 ·exact .inr ⟨_,rfl,rfl⟩
 ·exact .inl rfl
theorem zG {st:LS} {i:Nat} {d:Option Nat} {p:bX} {mv:Bool} {s:SV}:(mL (E.put st d p s) i d p mv s).nid=st.nid/\(mL (E.put st d p s) i d p mv s).vc=st.vc:=by
 rcases H8 (E.put st d p s) i d p mv s with e |⟨_,_,_,_,e⟩<;>rw[e]<;>cases d<;>exact⟨rfl,rfl⟩
theorem zH {st:LS} {i:Nat} {d:Option Nat} {p:bX} {mv:Bool} {s:SV}:(mM (E.put st d p s) i d p mv).nid=st.nid/\(mM (E.put st d p s) i d p mv).vc=st.vc:=by
 rcases H9 (E.put st d p s) i d p mv with e |⟨_,_,e⟩<;>rw[e]<;>cases d<;>exact⟨rfl,rfl⟩
theorem Ko (hd:nA n o=true):∀x,o.dst=some x->x<n:=fun x hx=>by
 simp only[nA,hx] at hd;exact of_decide_eq_true hd
theorem De (hS:Sat C n st a V D w) (hR:RInv ops L st.rho) (pr:¬L i) (iP:ops[i]? =some o) (hd:nA n o=true) (hit:kK st.rho o.dst=false) (hp:gz st.rho p) {s:SV} (hs:jA st.nid st.vc s) {v:Value}
  (hv:v=if cI st.rho p=true then den V s else undef) (mv:Bool):
  Sat C n (mL (E.put st o.dst p s) i o.dst p mv s) (a.put o.dst v) V D w/\RInv ops (fun k=>L k\/k=i) (mL (E.put st o.dst p s) i o.dst p mv s).rho:=by
 have vM:=Ko hd;have h1:=Sat.put hS (V:=V) vM hit hp hs (v:=v) (fun hc=>by rw[hv,ah hc]);rcases H8 (E.put st o.dst p s) i o.dst p mv s with e |⟨d,b,e1,e2,e⟩
 ·rw[e];exact⟨h1,by rw[mE.1];exact hR.mono fun _=> .inl⟩
 ·rw[e]
  refine⟨h1.note (by rw[mE.1];exact hp) (by rw[mE.1];exact fun g hg e=>pr (e▸(hR g hg).1)) ?_,by
   simp only[mE.1];exact hR.note iP e1⟩
  rw[e1,JF hS (vM _ e1),mE.1,hv,e2];rfl
theorem KV (hS:Sat C n st a V D w) (hR:RInv ops L st.rho) (pr:¬L i) (iP:ops[i]? =some o) (hd:nA n o=true) (hit:kK st.rho o.dst=false) (hp:gz st.rho p) (hc:cI st.rho p=false) (mv:Bool):
  Sat C n (mM (E.put st o.dst p (.v undef)) i o.dst p mv) (a.put o.dst undef) V D w/\RInv ops (fun k=>L k\/k=i) (mM (E.put st o.dst p (.v undef)) i o.dst p mv).rho:=by
 have vM:=Ko hd;have h1:=Sat.put hS (V:=V) vM hit hp (s:= .v undef) trivial (v:=undef) (fun _=>rfl);rcases H9 (E.put st o.dst p (.v undef)) i o.dst p mv with e |⟨d,e1,e⟩
 ·rw[e];exact⟨h1,by rw[mE.1];exact hR.mono fun _=> .inl⟩
 ·rw[e]
  refine⟨h1.note (by rw[mE.1];exact hp) (by rw[mE.1];exact fun g hg e=>pr (e▸(hR g hg).1)) ?_,by
   simp only[mE.1];exact hR.note iP e1⟩
  rw[e1,JF hS (vM _ e1),mE.1,hc];rfl
theorem AJ (hS:Sat C n st a V D w) (hR:RInv ops L st.rho) (hd:nA n o=true) (hit:kK st.rho o.dst=false) (hp:gz st.rho p) {s:SV} (hs:jA st.nid st.vc s) {v:Value} (hv:cI st.rho p=true->v=den V s):
  Sat C n (E.put st o.dst p s) (a.put o.dst v) V D w/\RInv ops (fun k=>L k\/k=i) (E.put st o.dst p s).rho:=
 ⟨Sat.put hS (Ko hd) hit hp hs hv,by rw[mE.1];exact hR.mono fun _=> .inl⟩
theorem OR (hS:Sat C n st a V D w) (ei:dO c P) (hR:RInv ops L st.rho) (pr:¬L i) (iP:ops[i]? =some o) (hd:nA n o=true) (Db:pathOf st o.guard=some p) {K:LS->Prop} (h:one (.mk (k:=(c,P,i,o,K)) (st,p)))
  {next:Act->World->Prop} {Q:Exit->Act->World->Prop} (hn:∀ak a' V' D' w',K ak->Sat C n ak a' V' D' w' ->RInv ops (fun k=>L k\/k=i) ak.rho->Step st.nid st.vc ak.nid ak.vc V V' ->next a' w'):
  if Region.wanted o (yielded ops a.tmps) then o.wp P a w next Q\/(o.asks P a w/\LetsOut Q) else next (a.put o.dst undef) w:=by
 obtain⟨hp,hw⟩:=Ir hS hR Db;have T5:∀(d:Option Nat) (p:bX) (s:SV),Step st.nid st.vc (E.put st d p s).nid (E.put st d p s).vc V V:=fun d p s=>Step.same mE.2.1 mE.2.2 V
 have stepG:∀(d:Option Nat) (p:bX) (s:SV) (mv:Bool),Step st.nid st.vc (mL (E.put st d p s) i d p mv s).nid (mL (E.put st d p s) i d p mv s).vc V V:=fun d p s mv=>Step.same zG.1 zG.2 V
 have agi:∀(d:Option Nat) (p:bX) (s:SV) (mv:Bool),Step st.nid st.vc (mM (E.put st d p s) i d p mv).nid (mM (E.put st d p s) i d p mv).vc V V:=fun d p s mv=>Step.same zH.1 zH.2 V
 rw[hw];simp only[one] at h;unfold Dm at h;split at h
 ·rename_i q dead he;simp only[A.mk.injEq,Prod.mk.injEq] at he;obtain⟨hq,hdead,hit⟩:=he;unfold yw at h;split at h
  ·rename_i ak p' q';cases q';have hc:=E4 hdead;rw[hc];simp only[Bool.false_eq_true,if_false];obtain⟨h1,h2⟩:=KV hS hR pr iP hd hit hp hc (oP o.op);exact hn _ _ _ _ _ h h1 h2 (agi _ _ _ _)
  ·rename_i ak p' q';cases q';obtain⟨s,⟨hs,hK⟩,dJ⟩:=IF hS hp (o:=o) rfl h;cases hc:cI st.rho p with
   |true=>
    simp only[if_true];obtain⟨h1,h2⟩:=De hS hR pr iP hd hit hp hs (v:=den V s) (by rw[hc];rfl) (oP o.op);exact .inl (wy (dJ hc) (hn _ _ _ _ _ hK h1 h2 (stepG _ _ _ _)))
   |false=>
    simp only[Bool.false_eq_true,if_false];obtain⟨h1,h2⟩:=De hS hR pr iP hd hit hp hs (v:=undef) (by rw[hc];rfl) (oP o.op);exact hn _ _ _ _ _ hK h1 h2 (stepG _ _ _ _)
  ·rename_i F ak p' q';cases q';cases hc:cI st.rho p with
   |true=>
    simp only[if_true];refine .inl (X3 hS ei hp hc hq h fun y D' w' hK gF=> ?_);obtain⟨h1,h2⟩:=AJ (i:=i) gF hR hd hit hp (s:= .v y) trivial (v:=y) (fun _=>rfl);exact hn _ _ _ _ _ hK h1 h2 (T5 _ _ _)
   |false=>
    simp only[Bool.false_eq_true,if_false];obtain⟨y,hy,hB,hK⟩:=aO h;obtain⟨h1,h2⟩:=AJ (i:=i) hS hR hd hit hp (s:= .v y.2) trivial (v:=undef) (fun e=>by rw[hc] at e;cases e);exact hn _ _ _ _ _ hK h1 h2 (T5 _ _ _)
  ·rename_i ak p' q';cases q';obtain⟨mb,s1,f1,l1,d1⟩:=Nv hS h;have Hk:=f1.wf _ hp;have Ls:kK mb.rho o.dst=false:=by rw[f1.hit];exact hit
   have ep:=f1.inv _ _ hR;cases hc:cI st.rho p with
   |true=>
    simp only[if_true];have D4:cI mb.rho p=true:=by rw[f1.cond];exact hc
    refine .inl (Zt s1 Hk D4 rfl (l1 hc) fun s ak V' D' w' ⟨hs,hK⟩ gN gF jf=> ?_);rw[<- gN] at Hk Ls ep;obtain⟨h1,h2⟩:=AJ (i:=i) gF ep hd Ls Hk hs (v:=den V' s) (fun _=>rfl);exact hn _ _ _ _ _ hK h1 h2 (by rw[mE.2.1,mE.2.2];exact(f1.step V).trans jf)
   |false=>
    simp only[Bool.false_eq_true,if_false];obtain⟨h1,h2⟩:=AJ (i:=i) s1 ep hd Ls Hk (s:= .v undef) trivial (v:=undef) (fun _=>rfl);exact hn _ _ _ _ _ (d1 hc) h1 h2 (by rw[mE.2.1,mE.2.2];exact f1.step V)
 ·cases h
/-! The whole region. -/
theorem Zo {y x:Nat} {l:List Nat} (h:jr (y::l) x=false):y≠x/\jr l x=false:=by
 simp only[jr] at h;split at h
 ·cases h
 ·rename_i e;exact⟨e,h⟩
theorem Fp:∀{env:List Ev} {dead:List Nat} {t:Nat} {s:SV},gi (nW dead env) t []=some s->jr dead t=false/\gi env t []=some s
 |[],dead,t,s,h=>by simp [nW,gi] at h
 |⟨t',[],s'⟩::r,dead,t,s,h=>by
  simp only[nW] at h;split at h
  ·rename_i hm;obtain⟨h1,h2⟩:=Fp h;refine⟨h1,?_⟩;simp only[gi];rw[af (fun e=>by rw[e,h1] at hm;cases hm)];exact h2
  ·rename_i hm;simp only[gi] at h ⊢;split at h
   ·rename_i e;subst e;rw[ah rfl];exact⟨by simpa using hm,h⟩
   ·rename_i e;rw[af e];exact Fp h
 |⟨t',x::q,s'⟩::r,dead,t,s,h=>by
  simp only[nW] at h;obtain⟨h1,h2⟩:=Fp h;obtain⟨h3,h4⟩:=Zo h1;refine⟨h4,?_⟩;simp only[gi];rw[af h3];exact h2
theorem BU:∀{env:List Ev} {dead:List Nat} {e:Ev},e∈nW dead env->e∈env/\e.p=[]
 |[],dead,e,h=>by simp [nW] at h
 |⟨t',[],s'⟩::r,dead,e,h=>by
  simp only[nW] at h;split at h
  ·obtain⟨h1,h2⟩:=BU h;exact⟨bR _ h1,h2⟩
  ·rcases List.mem_cons.1 h with rfl |h
   ·exact⟨b6 ..,rfl⟩
   ·obtain⟨h1,h2⟩:=BU h;exact⟨bR _ h1,h2⟩
 |⟨t',x::q,s'⟩::r,dead,e,h=>by
  simp only[nW] at h;obtain⟨h1,h2⟩:=BU h;exact⟨bR _ h1,h2⟩
theorem Ie (hS:Sat C n st a V D w):kp C n (clean st) a w:=by
 refine⟨rfl,V,D,⟨hS.f.defers,hS.f.size,fun e he=> ?_,fun t q s hq hl _=> ?_,fun g hg=>by cases hg⟩,fun e he=>hS.ids e (BU he).1,hS.w⟩
 ·rw[(BU he).2];exact rG
 ·have:q=[]:=by
   cases q with
   |nil=>rfl
   |cons x q=>obtain⟨g,hg⟩:=hq x (b6 ..);cases hg
  subst this;exact hS.f.env t [] s rG (Fp hl).2 rfl
end
section
variable {C:Ctx} {n:Nat} {P:Program} {c:Cfg} {ops:Array Oper}
theorem NH (ei:dO c P) {K:LS->Prop} {Q:Exit->Act->World->Prop} (hQ:∀ak a' w',K ak->kp C n ak a' w' ->Q .normal a' w'):
  ∀(l:List Oper) (i:Nat) (st:LS) (a:Act) (V:Vl) (D:Nat->Nat) (w:World),Dk c P l i K st->Sat C n st a V D w->RInv ops (· <i) st.rho->(∀j,l[j]? =ops[i+j]?)->(∀o∈l,nA n o=true)->wpList P ops Q l a w
 |[],i,st,a,V,D,w,h,hS,hR,hl,hd=>hQ _ _ _ h (Ie hS)
 |o::r,i,st,a,V,D,w,h,hS,hR,hl,hd=>by
  obtain⟨p,hp,h⟩:=aO h;have iP:ops[i]? =some o:=by have:=hl 0;simpa using this.symm
  unfold wpList;refine OR hS ei hR (Nat.lt_irrefl _) iP (hd o (b6 ..)) hp h fun ak a' V' D' w' hK gF vN _=> ?_
  exact NH ei hQ r (i+1) ak a' V' D' w' hK gF (vN.mono fun k hk=>by omega) (fun j=>by have:=hl (j+1);simpa [Nat.add_assoc,Nat.add_comm 1 j] using this) (fun o ho=>hd o (bR _ ho))
end
def jo (n:Nat):Code->Bool
 | .region _ ops _=>ops.toList.all (nA n)
 | .seq a b=>jo n a&&jo n b
 | .cond _ a b=>jo n a&&jo n b
 | .block _ a=>jo n a
 | .loop a=>jo n a
 | .scope a=>jo n a
 | .rangeFunc .. =>false
 |_=>true
theorem XG {V:Vl} {s:SV} {b:Bool} (h:tv s=some b):den V s= .bool b:=by
 cases s with
 |v x=>cases x<;>simp only[tv,dY,reduceCtorEq] at h;subst h;rfl
 |_=>simp [tv] at h
section
variable {P:Program} {n:Nat} {c:Cfg}
theorem afY {a b:Code} {K:LS->Prop} {Q:Exit->LS->Prop} {st:LS} (ha:WP P n a (kf K Q) st) (hb:∀st,K st->WP P n b Q st):WP P n (.seq a b) Q st:=by
 intro C a' w hE;refine wp_seq (wp_mono (ha C a' w hE) ?_);rintro e a2 w2 ⟨cD,cA,hq⟩;cases e with
 |normal=>exact hb cD hq C a2 w2 cA
 |exit id=>exact⟨cD,cA,hq⟩
 |goto l=>exact⟨cD,cA,hq⟩
 |ret=>exact⟨cD,cA,hq⟩
 |panic ch=>exact⟨cD,cA,hq⟩
 |outgrown=>exact⟨cD,cA,hq⟩
theorem aeh {x:Operand} {a b:Code} {Q:Exit->LS->Prop} {st:LS} {s:SV} {t:Bool} (hr:cU st [] x=some s) (hs:tv s=some t) (ha:t=true->WP P n a Q st) (hb:t=false->WP P n b Q st):WP P n (.cond x a b) Q st:=by
 intro C a' w hE;obtain⟨_,V,D,hS⟩:=id hE;have:=dL hS rG rfl hr;rw[XG hs] at this;exact wp_cond_split this (fun h=>ha h C a' w hE) (fun h=>hb h C a' w hE)
theorem ab9 {id:Nat} {a:Code} {Q:Exit->LS->Prop} {st:LS} (ha:WP P n a (qy id Q) st):WP P n (.block id a) Q st:=by
 intro C a' w hE;refine wp_block (wp_mono (ha C a' w hE) ?_);rintro e a2 w2 ⟨cD,cA,hq⟩;cases e with
 |exit id' =>
  simp only[qy] at hq;simp only[Exit.inBlock];split at hq
  ·rename_i h;rw[ah h];exact⟨cD,cA,hq⟩
  ·rename_i h;rw[af h];exact⟨cD,cA,hq⟩
 |normal=>exact⟨cD,cA,hq⟩
 |goto l=>exact⟨cD,cA,hq⟩
 |ret=>exact⟨cD,cA,hq⟩
 |panic ch=>exact⟨cD,cA,hq⟩
 |outgrown=>exact⟨cD,cA,hq⟩
theorem ZS (ei:dO c P) {id:Nat} {l:List Oper} {Q:Exit->LS->Prop} {st:LS} (hd:l.all (nA n)=true) (h:Dk c P l 0 (Q .normal) st):WP P n (.region id ⟨l⟩ false) Q st:=by
 rintro C a' w ⟨gN,V,D,hS⟩;refine wp_region_list ?_;refine NH (ops:=⟨l⟩) ei (fun ak a' w' hq hE=>⟨ak,hE,hq⟩) l 0 st a' V D w h hS ?_ (fun j=>by simp) (fun o ho=> ?_)
 ·rw[gN];intro g hg;cases hg
 ·exact List.all_eq_true.1 hd o ho
theorem XC (ei:dO c P):∀(x:Code) (Q:Exit->LS->Prop) (st:LS),jo n x=true->nE c P n x Q st->WP P n x Q st:=by
 intro x;induction x with
 |skip=>exact fun Q st _ h C a w hE=>wp_skip ⟨st,hE,h⟩
 |region id ops draw=>
  intro Q st hd h;obtain⟨l⟩:=ops;cases draw with
  |false=>exact ZS ei hd h
  |true=>exact h
 |seq a b iha ihb=>
  intro Q st hd h;simp only[jo,aG] at hd;have gen:nE c P n a (kf (nE c P n b Q) Q) st->WP P n (.seq a b) Q st:=fun h=>afY (iha _ st hd.1 h) fun ak h' =>ihb Q ak hd.2 h'
  cases a with
  |cond x t e=>
   simp only[nE] at h;split at h
   ·exact h
   ·exact gen h
  |_=>exact gen h
 |cond x a b iha ihb=>
  intro Q st hd h;simp only[jo,aG] at hd;obtain⟨t,ht,h1,h2⟩:=aO h;obtain⟨s,hs,ht⟩:=vS ht;exact aeh hs ht (fun e=>iha Q st hd.1 (h1 e)) (fun e=>ihb Q st hd.2 (h2 e))
 |block id a ih=>
  intro Q st hd h;exact ab9 (ih _ st hd h)
 |exit id=>exact fun Q st _ h C a w hE=>wp_exit ⟨st,hE,h⟩
 |ret=>exact fun Q st _ h C a w hE=>wp_ret ⟨st,hE,h⟩
 |loop a ih=>exact fun Q st _ h=>h
 |scope a ih=>exact fun Q st _ h=>h
 |rangeFunc f ps a b _ _=>exact fun Q st _ h=>h
 |label l=>exact fun Q st _ h C a w hE=>wp_label ⟨st,hE,h⟩
 |refuse _=>exact fun Q st _ h=>h
 |goto l=>exact fun Q st _ h C a w hE=>wp_goto ⟨st,hE,h⟩
theorem rz (ei:dO c P) {x:Code} {Q:Exit->LS->Prop} {st:LS} (hd:jo n x=true) (h:ed (.mk (k:=(c,P,n,x,Q)) st)):WP P n x Q st:=XC ei x Q st hd h
end
/-! A function. -/
section
variable {C:Ctx} {n:Nat} {st:LS} {a:Act} {V:Vl} {D:Nat->Nat} {w:World} {P:Program} {c:Cfg}
theorem YE (ad:Addr):(asAddr (.pointer (some ad))).run P w= .ok ad w:=rfl
def FW (tmps:Array Value):ResultVar->Sem Value
 | .tmp t=>pure (tmps.getD t undef)
 | .cell b t=>do loadVar t (<- asAddr (tmps.getD b undef))
theorem Je (hS:Sat C n st a V D w):∀{res:List ResultVar} {l:List SV},p7 P st res=some l->
  (res.mapM (FW a.tmps)).run P w= .ok (l.map (nM V)) w/\∀s∈l,den V s=nM V s
 |[],l,h=>by
  simp only[p7,dY] at h;subst h;exact⟨rfl,fun s hs=>by cases hs⟩
 | .tmp t::r,l,h=>by
  simp only[p7,Option.bind_eq_some_iff,Option.map_eq_some_iff] at h;obtain⟨s,⟨s0,kQ,hs⟩,l',lu,rfl⟩:=h;obtain⟨h1,h2⟩:=Je hS lu;have DX:=IN (V:=V) hs;have yX:s=s0:=by cases s0<;>simp_all [nY]
  subst yX;have ht:=hS.env t [] s rG kQ rfl;refine⟨?_,fun x hx=> ?_⟩
  ·simp only[List.mapM_cons,FW,Sem.run_bind,Sem.run_pure,Result.andThen_ok,h1,bJ];simp [Array.getD_eq_getD_getElem?,ht,DX]
  ·rcases List.mem_cons.1 hx with rfl |hx
   ·exact DX
   ·exact h2 x hx
 | .cell b t::r,l,h=>by
  simp only[p7,Option.bind_eq_some_iff,Option.map_eq_some_iff] at h;obtain⟨s,⟨s0,kQ,hs⟩,l',lu,rfl⟩:=h;obtain⟨h1,h2⟩:=Je hS lu;have DX:=IN (V:=V) hs;have yX:s=s0:=by cases s0<;>simp_all [nY]
  subst yX;unfold Gx at kQ;split at kQ
  ·rename_i k o hk;have ht:=hS.env b [] _ rG hk rfl;simp only[Option.bind_eq_some_iff] at kQ;obtain⟨bx,D5,kQ⟩:=kQ;split at kQ;case isFalse=>cases kQ
   rename_i bM;simp only[Option.bind_eq_some_iff] at kQ;obtain⟨ag,jD,htk⟩:=kQ;have ahC:pN (.mk (k:=(P,t,U true,fun s' =>s' =s)) (st,.box k o)):=by
    simp only[pN,D5,aQ,jD,htk,bM,true_and]
   obtain⟨r',rfl,hy⟩:=Nt hS ahC;have hy:=hy rfl;simp only[Ah,Instr.loadAt,Instr.sureAddr,Sem.run_bind,Sem.run_pure,Result.andThen_ok] at hy;refine⟨?_,fun x hx=> ?_⟩
   ·simp only[List.mapM_cons,FW,Sem.run_bind,Sem.run_pure,Result.andThen_ok,bJ];have:a.tmps.getD b undef= .pointer (some ⟨V.β k,o,none⟩):=by simp [Array.getD_eq_getD_getElem?,ht,Ah]
    rw[this,YE];simp only[Result.andThen_ok,hy,h1,DX]
   ·rcases List.mem_cons.1 hx with rfl |hx
    ·exact DX
    ·exact h2 x hx
  ·cases kQ
theorem WG (hS:Sat C n st a V D w) {fn:Func} {res:List ResultVar} (hr:fn.results=⟨res⟩) {l:List SV} (h:p7 P st res=some l):(results fn a.tmps).run P w= .ok (den V (yt l)) w:=by
 obtain⟨h1,h2⟩:=Je hS h
 have hf:results fn a.tmps=(do
   let vs <- fn.results.mapM (FW a.tmps)
   pure (if h:vs.size=1 then vs[0] else .tuple vs)):=by
  unfold results;congr 1
 rw[hf,hr];simp only[List.mapM_toArray,Sem.run_bind,Sem.run_map,h1,Result.andThen_ok,Sem.run_pure,List.size_toArray,List.length_map];cases l with
 |nil=>rfl
 |cons s r=>
  cases r with
  |nil=>
   simp only[aL,bg,Nat.zero_add,dite_true,bJ,List.map_nil,yt];simp [h2 s (b6 ..)]
  |cons s' r=>
   have:¬((s::s' ::r).length=1):=by simp
   simp only[dif_neg this];rfl
end
theorem Sy:∀{l:List SV} {i t:Nat} {q:bX} {s:SV},gi (vz i l) t q=some s->i<=t/\l[t - i]? =some s
 |[],i,t,q,s,h=>by simp [vz,gi] at h
 |x::r,i,t,q,s,h=>by
  simp only[vz,gi] at h;split at h
  ·rename_i e;subst e;split at h
   ·cases h;exact⟨av _,by simp⟩
   ·cases h
  ·rename_i e;obtain⟨h1,h2⟩:=Sy h;refine⟨by omega,?_⟩;have:t - i=(t - (i+1))+1:=by omega
   rw[this,List.getElem?_cons_succ];exact h2
theorem Jv:∀{l:List SV} {i:Nat} {e:Ev},e∈vz i l->e.p=[]/\e.s∈l
 |[],i,e,h=>by simp [vz] at h
 |x::r,i,e,h=>by
  rcases List.mem_cons.1 h with rfl |h
  ·exact⟨rfl,b6 ..⟩
  ·obtain⟨h1,h2⟩:=Jv h;exact⟨h1,bR _ h2⟩
theorem Qh {nid:Nat} {vc:List Vc}:∀{l:List SV},Dn nid vc l->∀s∈l,jA nid vc s
 |x::r,h,s,hs=>by
  rcases List.mem_cons.1 hs with rfl |hs
  ·exact h.1
  ·exact Qh h.2 s hs
theorem FD:∀{bx:List Bx} {b:Bx},b∈bx->b.id<oe bx
 |⟨k,t,cs⟩::r,b,h=>by
  simp only[oe];rcases List.mem_cons.1 h with rfl |h
  ·simp only;omega
  ·have:=FD h;omega
theorem FC:∀{vc:List Vc} {b:Vc},b∈vc->b.id<od vc
 |⟨k,u,e,z,n,xs⟩::r,b,h=>by
  simp only[od];rcases List.mem_cons.1 h with rfl |h
  ·simp only;omega
  ·have:=FC h;omega
section
variable {P:Program} {c:Cfg}
theorem Ft {V:Vl} {bx ru:List Bx} {vc fh:List Vc} (hb:∀b∈ru,b∈bx) (hv:∀b∈fh,b∈vc):∀g∈br V ⟨ru,fh⟩,g∈br V ⟨bx,vc⟩:=fun g hg=>by
 simp only[br,List.mem_append,List.mem_map,List.mem_filterMap] at hg ⊢;rcases hg with ⟨x,hx,e⟩ |⟨x,hx,e⟩
 ·exact .inl ⟨x,hb x hx,e⟩
 ·exact .inr ⟨x,hv x hx,e⟩
theorem X8 {L:List Nat} {bx:List Bx} {b:Bx} (h:b∈gI L bx):b∈bx:=by
 rw[BJ,List.mem_filter] at h;exact h.1
theorem TS {f:FuncId} {fn:Func} {code:Code} {res:List ResultVar} {args:List SV} {H:Hp} {m:Mem} {R:SV->Hp->Mem->Prop}
  (hf:P.funcs[f]? =some fn) (hb:fn.body=some code) (hr:fn.results=⟨res⟩) (hl:args.length<=fn.ntmps) (au:FY args H)
  (h:WP P fn.ntmps code (A0 P res (AW H) R) (DF args H m)):FnH P f args H m R:=by
 intro V w D kP hm hH;refine calls_of_wp hf hb ?_;have dp:((⟨args.map (den V)⟩:Array Value)++Array.replicate (fn.ntmps - (⟨args.map (den V)⟩:Array Value).size) undef).size=fn.ntmps:=by
  simp only[Array.size_append,List.size_toArray,List.length_map,Array.size_replicate];omega
 have hS:Sat ⟨w,D,(· ∈br V H),H,V,m⟩ fn.ntmps (DF args H m) {tmps:=(⟨args.map (den V)⟩:Array Value)++Array.replicate (fn.ntmps - (⟨args.map (den V)⟩:Array Value).size) undef,defers:=[]} V D w:=by
  refine⟨⟨rfl,dp,fun e he=> ?_,fun t q s hq lO _=> ?_,fun g hg=>by cases hg⟩,fun e he=>Qh au.1 _ (Jv he).2,?_⟩
  ·rw[(Jv he).1];exact rG
  ·obtain⟨_,h2⟩:=Sy lO;have aw:t<args.length:=(List.getElem?_eq_some_iff.1 h2).1;simp only[Nat.sub_zero] at h2;rw[Array.getElem?_append_left (by simpa using aw)];simp [h2]
  ·refine⟨hH,kP,Frm.refl _ _ _,fun b hb=> .inl hb,fun b hb=>⟨rfl,?_⟩,fun b hb=>⟨fun _ _=>rfl,?_,vU hH.uniq hb⟩,⟨fun b hb=>⟨?_,IL au.2 b hb⟩,fun b hb=> ?_⟩,Mem.le_refl _ kP,
    fun b=>⟨av _,fun h0=>⟨((hm b).2 h0).1,uC rfl⟩⟩,hm⟩
   ·exact eP (FD hb) (Nat.le_max_left _ _)
   ·exact eP (FC hb) (Nat.le_max_right _ _)
   ·exact eP (FD hb) (Nat.le_max_left _ _)
   ·exact eP (FC hb) (Nat.le_max_right _ _)
 refine wp_mono (h _ _ _ ⟨rfl,V,D,hS⟩) ?_;rintro e a2 w2 ⟨cD,⟨gN,V2,D2,hS2⟩,hq⟩;have fin:∀l:List SV,p7 P cD res=some l->R (yt l) ⟨gI (uN cD.bx (o5 (AW H) l)) cD.bx,fY (uN cD.bx (o5 (AW H) l)) cD.vc⟩ cD.m->
   a2.defers=[]/\∃v,(results fn a2.tmps).run P w2= .ok v w2/\∃(r:SV) (V' :Vl) (D' :Nat->Nat) (H' :Hp) (m' :Mem),
   Ending.returned v= .returned (den V' r)/\Wf w2 D' /\HSat V' D' w2 H' /\(∀b∈H.bx,V'.β b.id=V.β b.id)/\(∀b∈H.vc,∀u,u<=b.ver->V'.γ b.id u=V.γ b.id u)/\
   Frm (· ∈br V H) w D w2 D' /\(∀b∈br V' H',b∈br V H\/w.heap.size<=b)/\
   Mem.le ⟨w,D⟩ ⟨w2,D'⟩/\m.le m' /\m'.le ⟨w2,D'⟩/\R r H' m' :=by
  intro l hl hR;have hW:=hS2.w;refine⟨hS2.f.defers,_,WG hS2 hr hl,yt l,V2,D2,_,cD.m,rfl,hW.wf,(EG _ hW.heap).app.1,fun b hb=>(hW.baseB b hb).1,fun b hb=>(hW.baseV b hb).1,hW.frm,fun b hb=> ?_,hW.le0,hW.m0,hW.mle,hR⟩;exact hW.own b (Ft (fun x hx=>X8 hx) (fun x hx=>(vY hx).1) b hb)
 cases e with
 |normal=>obtain⟨l,hl,hR⟩:=aO hq;exact fin l hl hR
 |ret=>obtain⟨l,hl,hR⟩:=aO hq;exact fin l hl hR
 |exit id=>exact hq.elim
 |goto l=>exact hq.elim
 |panic ch=>exact hq.elim
 |outgrown=>exact hq.elim
theorem enter (cf:Cfg) (ei:dO cf P) {f:FuncId} {fn:Func} {code:Code} {res:List ResultVar} {args:List SV} {H:Hp} {m:Mem} {R:SV->Hp->Mem->Prop}
  (hf:P.funcs[f]? =some fn) (hb:fn.body=some code) (hr:fn.results=⟨res⟩) (hd:jo fn.ntmps code=true) (hl:Nat.ble args.length fn.ntmps=true) (au:FY args H)
  (h:ed (.mk (k:=(cf,P,fn.ntmps,code,A0 P res (AW H) R)) (DF args H m))):FnH P f args H m R:=
 TS hf hb hr (dC hl) au (rz ei hd h)
theorem FnH.mono {f:FuncId} {args:List SV} {H:Hp} {m:Mem} {R R' :SV->Hp->Mem->Prop} (h:FnH P f args H m R) (hR:∀r H' m',m.le m' ->R r H' m' ->R' r H' m'):FnH P f args H m R' :=
 fun V w D h1 h2 h3=>(h V w D h1 h2 h3).mono fun e w2 ⟨r,V',D',H',m',e1,e2,e3,e4,e5,e6,e7,e8,e9,jg,mq⟩=>⟨r,V',D',H',m',e1,e2,e3,e4,e5,e6,e7,e8,e9,jg,hR r H' m' e9 mq⟩
theorem tfi (p:Prop):(true=false->p)=True:=eq_true fun h=>by cases h
theorem fti (p:Prop):(false=true->p)=True:=eq_true fun h=>by cases h
theorem bo {f:FuncId} {args:List SV} {H:Hp} {m:Mem} {R:SV->Hp->Mem->Prop} (h:FnH P f args H m R):HL (.mk (k:=(P,f,R)) (args,H,m)):=h
theorem WP.mono {n:Nat} {x:Code} {Q Q' :Exit->LS->Prop} {st:LS} (h:WP P n x Q st) (hQ:∀e ak,Q e ak->Q' e ak):WP P n x Q' st:=
 fun C a w hE=>wp_mono (h C a w hE) fun e _ _ ⟨ak,h1,h2⟩=>⟨ak,h1,hQ e ak h2⟩
end
theorem ab {P:Program} {f:FuncId} {args:List SV} {H:Hp} {m:Mem} {R:SV->Hp->Mem->Prop} (h:FnH P f args H m R) (hk:jv P f=true:=by kernel_rfl):jv P f=true/\HL (.mk (k:=(P,f,R)) (args,H,m)):=⟨hk,bo h⟩
attribute [go_sem ↓] tfi fti reduceIte
theorem aR {P:Program} {cf:Cfg} (ei:dO cf P) {f:FuncId} {fn:Func} {code:Code} {res:List ResultVar} {args:List SV} {H:Hp} {m:Mem} {R:SV->Hp->Mem->Prop} (hf:P.funcs[f]? =some fn) (h:ed (.mk (k:=(cf,P,fn.ntmps,code,A0 P res (AW H) R)) (DF args H m))) (hb:fn.body=some code:=by rfl) (hr:fn.results=⟨res⟩:=by rfl) (hd:jo fn.ntmps code=true:=by kernel_rfl) (hl:Nat.ble args.length fn.ntmps=true:=by rfl) (au:FY args H:=by simp only[go_sem]):FnH P f args H m R:=enter cf ei hf hb hr hd hl au h
/-! The head of a loop. -/
theorem QA {st:LS}:∀{l:List Ev},AQ st l->∀e∈l,gi st.env e.t []=some e.s/\e.p=[]
 |⟨t,p,s⟩::r,h,e,he=>by
  rcases List.mem_cons.1 he with rfl |he
  ·exact⟨h.1,h.2.1⟩
  ·exact QA h.2.2 e he
theorem R9 {st:LS}:∀{l:List Ev},AQ st l->∀{t:Nat} {s:SV},gi l t []=some s->gi st.env t []=some s
 |⟨t',p',s'⟩::r,h,t,s,hl=>by
  simp only[gi] at hl;split at hl
  ·rename_i e;subst e;split at hl
   ·cases hl;exact h.1
   ·cases hl
  ·exact R9 h.2.2 hl
theorem aa5 {l:List Bx} {k:Nat} (h:iD l k=none):∀b∈l,b.id≠k:=by
 induction l with
 |nil=>intro b hb;cases hb
 |cons x r ih=>
  obtain⟨i',t',p'⟩:=x;simp only[iD] at h;split at h
  ·cases h
  ·rename_i e;intro b hb;rcases List.mem_cons.1 hb with rfl |hb
   ·exact e
   ·exact ih h b hb
theorem JN {st:LS}:∀{l:List Bx},sK st l->(∀b∈l,b∈st.bx)/\(l.map (·.id)).Nodup
 |[],_=>⟨fun b hb=>(by cases hb),List.nodup_nil⟩
 |⟨k,t,cs⟩::r,h=>by
  obtain⟨h1,h2,h3⟩:=h;obtain⟨i1,i2⟩:=JN h3;refine⟨fun b hb=> ?_,?_⟩
  ·rcases List.mem_cons.1 hb with rfl |hb
   ·exact(uS h1).2
   ·exact i1 b hb
  ·simp only[bJ,List.nodup_cons];refine⟨fun hm=> ?_,i2⟩;obtain⟨b,hb,e⟩:=List.mem_map.1 hm;exact aa5 h2 b hb e
theorem aa3 {l:List Vc} {k:Nat} {b:Vc} (h:nH l k=some b):b.id=k/\b∈l:=by
 induction l with
 |nil=>cases h
 |cons x r ih=>
  obtain⟨i',u',e',z',n',x'⟩:=x;simp only[nH] at h;split at h
  ·rename_i e;cases h;exact⟨e,b6 ..⟩
  ·exact⟨(ih h).1,bR _ (ih h).2⟩
theorem Zr {l:List Vc} {k:Nat} (h:nH l k=none):∀b∈l,b.id≠k:=by
 induction l with
 |nil=>intro b hb;cases hb
 |cons x r ih=>
  obtain⟨i',u',e',z',n',x'⟩:=x;simp only[nH] at h;split at h
  ·cases h
  ·rename_i e;intro b hb;rcases List.mem_cons.1 hb with rfl |hb
   ·exact e
   ·exact ih h b hb
theorem JM {st:LS}:∀{l:List Vc},sJ st l->(∀b∈l,b∈st.vc)/\(l.map (·.id)).Nodup
 |[],_=>⟨fun b hb=>(by cases hb),List.nodup_nil⟩
 |⟨k,u,e,z,n,xs⟩::r,h=>by
  obtain⟨h1,h2,h3⟩:=h;obtain⟨i1,i2⟩:=JM h3;refine⟨fun b hb=> ?_,?_⟩
  ·rcases List.mem_cons.1 hb with rfl |hb
   ·exact(aa3 h1).2
   ·exact i1 b hb
  ·simp only[bJ,List.nodup_cons];refine⟨fun hm=> ?_,i2⟩;obtain⟨b,hb,e⟩:=List.mem_map.1 hm;exact Zr h2 b hb e
theorem zL {vc:List Vc} (hu:(vc.map (·.id)).Nodup) {k u:Nat}:cG vc k u↔∀b∈vc,b.id=k->u<=b.ver:=by
 induction vc with
 |nil=>simp [cG]
 |cons x r ih=>
  obtain⟨i',u',e',z',n',x'⟩:=x;simp only[bJ,List.nodup_cons] at hu;simp only[cG];split
  ·rename_i e;subst e;constructor
   ·intro h b hb e;rcases List.mem_cons.1 hb with rfl |hb
    ·exact h
    ·exact absurd (List.mem_map.2 ⟨b,hb,e⟩) hu.1
   ·exact fun h=>h _ (b6 ..) rfl
  ·rename_i e;rw[ih hu.2];constructor
   ·intro h b hb e';rcases List.mem_cons.1 hb with rfl |hb
    ·exact absurd e' e
    ·exact h b hb e'
   ·exact fun h b hb=>h b (bR _ hb)
theorem IM {α β:Type} {f:α->β}:∀{l:List α},(l.map f).Nodup->∀x∈l,∀y∈l,f x=f y->x=y
 |a::r,h,x,hx,y,hy,e=>by
  simp only[bJ,List.nodup_cons] at h;rcases List.mem_cons.1 hx with rfl |bP
  ·rcases List.mem_cons.1 hy with rfl |bt
   ·rfl
   ·exact absurd (List.mem_map.2 ⟨y,bt,e.symm⟩) h.1
  ·rcases List.mem_cons.1 hy with rfl |bt
   ·exact absurd (List.mem_map.2 ⟨x,bP,e⟩) h.1
   ·exact IM h.2 x bP y bt e
theorem IQ {α β γ:Type} {f:α->β} {g:α->γ}:∀{l:List α},(l.map g).Nodup->(∀x∈l,∀y∈l,f x=f y->x=y)->(l.map f).Nodup
 |[],_,_=>List.nodup_nil
 |a::r,h,hi=>by
  simp only[bJ,List.nodup_cons] at h ⊢;refine⟨fun hm=> ?_,IQ h.2 fun x hx y hy=>hi x (bR _ hx) y (bR _ hy)⟩;obtain⟨b,hb,e⟩:=List.mem_map.1 hm;have:=hi b (bR _ hb) a (b6 ..) e;subst this;exact h.1 (List.mem_map.2 ⟨b,hb,rfl⟩)
theorem HM {α β γ:Type} {f:α->Option β} {g:α->γ}:∀{l:List α},(l.map g).Nodup->(∀x∈l,∀y∈l,∀b,f x=some b->f y=some b->x=y)->(l.filterMap f).Nodup
 |[],_,_=>List.nodup_nil
 |a::r,h,hi=>by
  simp only[bJ,List.nodup_cons] at h;have ih:=HM (f:=f) h.2 fun x hx y hy=>hi x (bR _ hx) y (bR _ hy)
  rw[List.filterMap_cons];split
  ·exact ih
  ·rename_i b hb;refine List.nodup_cons.2 ⟨fun hm=> ?_,ih⟩;obtain⟨x,hx,e⟩:=List.mem_filterMap.1 hm;have:=hi x (bR _ hx) a (b6 ..) b e hb;subst this;exact h.1 (List.mem_map.2 ⟨x,hx,rfl⟩)
theorem Qo {nid:Nat} {vc:List Vc}:∀{l:List Ev},Dp nid vc l->∀e∈l,jA nid vc e.s
 |⟨t,p,s⟩::r,h,e,he=>by
  rcases List.mem_cons.1 he with rfl |he
  ·exact h.1
  ·exact Qo h.2 e he
theorem Qn {nid:Nat} {vc:List Vc}:∀{l:List Bx},AP nid vc l->∀b∈l,b.id<nid/\fO nid vc b.cs
 |⟨k,t,cs⟩::r,h,b,hb=>by
  rcases List.mem_cons.1 hb with rfl |hb
  ·exact⟨h.1,h.2.1⟩
  ·exact Qn h.2.2 b hb
theorem Qm {nid:Nat}:∀{l:List Vc},AO nid l->∀b∈l,b.id<nid
 |⟨k,_,_,_,_,_⟩::r,h,b,hb=>by
  rcases List.mem_cons.1 hb with rfl |hb
  ·exact h.1
  ·exact Qm h.2 b hb
section
variable {C:Ctx} {n:Nat} {st ak:LS} {a:Act} {V:Vl} {D:Nat->Nat} {w:World} {P:Program} {c:Cfg}
theorem Tp {m m' ku:Mem} (h:ae m m') (h' :m'.le ku):m.le ku:=by
 rcases h with rfl |h
 ·exact h'
 ·exact Mem.le_trans h h'
theorem Sat.weaken (hS:Sat C n st a V D w) (hM:Match st ak) (au:p8 ak) (hB:∀b∈C.H0.bx,b.id<ak.nid) (hV:∀b∈C.H0.vc,b.id<ak.nid) (hm:C.m0.le ak.m):Sat C n ak a V D w:=by
 obtain⟨h1,h2,h3,h4,h5⟩:=hM;obtain⟨sX,hbu⟩:=JN h3;obtain⟨gB,hvu⟩:=JM h4;have hW:=hS.w;have rf:=hW.heap.apart;have yB:=List.nodup_append.1 rf;refine⟨⟨hS.f.defers,hS.f.size,fun e he=> ?_,fun t q s hq hl _=> ?_,fun g hg=>by rw[h2] at hg;cases hg⟩,Qo au.1,?_⟩
 ·rw[(QA h1 e he).2];exact rG
 ·have:q=[]:=by
   cases q with
   |nil=>rfl
   |cons x q=>obtain⟨g,hg⟩:=hq x (b6 ..);rw[h2] at hg;cases hg
  subst this;exact hS.env t [] s rG (R9 h1 hl) rfl
 ·refine⟨⟨fun b hb=>hW.heap.bx b (sX b hb),fun b hb=>hW.heap.vc b (gB b hb),?_,hvu⟩,hW.wf,hW.frm,fun g hg=>hW.own g (Ft sX gB g hg),fun b hb=>⟨(hW.baseB b hb).1,hB b hb⟩,
   fun b hb=>⟨(hW.baseV b hb).1,hV b hb,?_⟩,⟨Qn au.2.1,Qm au.2.2⟩,hW.le0,hm,Tp h5 hW.mle⟩
  ·refine List.nodup_append.2 ⟨?_,?_,fun x hx y hy=> ?_⟩
   ·exact IQ hbu fun x hx y hy e=>IM yB.1 x (sX x hx) y (sX y hy) e
   ·exact HM hvu fun x hx y hy b e1 e2=>Fw (gB x hx) (gB y hy) e1 e2 yB.2.1
   ·refine yB.2.2 x ?_ y ?_
    ·obtain⟨z,hz,e⟩:=List.mem_map.1 hx;exact List.mem_map.2 ⟨z,sX z hz,e⟩
    ·obtain⟨z,hz,e⟩:=List.mem_filterMap.1 hy;exact List.mem_filterMap.2 ⟨z,gB z hz,e⟩
  ·refine(zL hvu).2 fun x hx e=> ?_
   exact(zL hW.heap.uniq).1 (hW.baseV b hb).2.2 x (gB x hx) e
theorem ew (ei:dO c P) {body:Code} {Q:Exit->LS->Prop} {X:Type} (S:X->LS) (I:X->Prop) (μ:X->Nat) (x0:X)
  (hd:jo n body=true) (hn:∀x,I x->st.nid<=(S x).nid) (hm:∀x,I x->ae st.m (S x).m) (au:∀x,p8 (S x)) (h0:Match st (S x0)) (hI:I x0)
  (round:∀x,I x->ed (.mk (k:=(c,P,n,body,kf (fun ak=>∃x',Match ak (S x')/\I x' /\μ x' <μ x) Q)) (S x))):kA (.mk (k:=(P,n,.loop body,Q)) st):=by
 rintro C a w ⟨gN,V,D,hS⟩;have hB:∀b∈C.H0.bx,b.id<st.nid:=fun b hb=>(hS.w.baseB b hb).2
 have hV:∀b∈C.H0.vc,b.id<st.nid:=fun b hb=>(hS.w.baseV b hb).2.1
 have DY:∀x,I x->C.m0.le (S x).m:=fun x hx=>by
  rcases hm x hx with e |h
  ·rw[<- e];exact hS.w.m0
  ·exact Mem.le_trans hS.w.m0 h
 have wJ:∀(mb:LS) (a1:Act) (w1:World) (x:X),kp C n mb a1 w1->Match mb (S x)->I x->kp C n (S x) a1 w1:=by
  rintro mb a1 w1 x ⟨_,V1,D1,hS1⟩ hM hx;exact⟨hM.2.1,V1,D1,hS1.weaken hM (au x) (fun b hb=>eP (hB b hb) (hn x hx)) (fun b hb=>eP (hV b hb) (hn x hx)) (DY x hx)⟩
 refine wp_loop_ghost (fun k a w=>∃x,I x/\μ x=k/\kp C n (S x) a w) (μ x0) ⟨x0,hI,rfl,wJ _ _ _ _ ⟨gN,V,D,hS⟩ h0 hI⟩ ?_;rintro k a1 w1 ⟨x,hx,rfl,hE⟩;refine wp_mono (rz ei hd (round x hx) C a1 w1 hE) ?_;rintro e a2 w2 ⟨cD,cA,hq⟩;cases e with
 |normal=>
  obtain⟨x',hM,bP,aw⟩:=hq;exact⟨μ x',aw,x',bP,rfl,wJ _ _ _ _ cA hM bP⟩
 |exit id=>exact⟨cD,cA,hq⟩
 |goto l=>exact⟨cD,cA,hq⟩
 |ret=>exact⟨cD,cA,hq⟩
 |panic ch=>exact⟨cD,cA,hq⟩
 |outgrown=>exact⟨cD,cA,hq⟩
end
theorem dA {P:Program} {c:Cfg} {n:Nat} {st:LS} (ei:dO c P) {body:Code} {Q:Exit->LS->Prop} {X:Type} (S:X->LS) (I:X->Prop) (μ:X->Nat) (x0:X) (hn:∀x,I x->st.nid<=(S x).nid) (hm:∀x,I x->ae st.m (S x).m) (h0:Match st (S x0)) (hI:I x0) (round:∀x,I x->ed (.mk (k:=(c,P,n,body,kf (fun ak=>∃x',Match ak (S x')/\I x' /\μ x' <μ x) Q)) (S x))) (hd:jo n body=true:=by kernel_rfl) (au:∀x,p8 (S x):=by intro _;simp only[go_sem]):kA (.mk (k:=(P,n,.loop body,Q)) st):=ew ei S I μ x0 hd hn hm au h0 hI round
def A.re {γ δ α:Type} {k:γ} (k' :δ):A k α->A k' α
 | .mk a=> .mk a
section
variable {P:Program} {op:BinOp} {t:TypeId} {k:IntKind} {u:Prop->Prop} {K:SV->Prop}
theorem xJ {o:Option SV} (h:aQ (.mk (k:=K) o)):∃s,K s/\aQ (.mk (k:=(· =s)) o):=by
 obtain⟨s,rfl,h⟩:=aO h;exact Exists.intro s (And.intro h rfl)
theorem BV:∀(x:A (k,u,K) Int),arith x->∃s,K s/\arith (x.re (k,u,(· =s))):=by
 rintro⟨n⟩ h;cases k<;>first
  |exact Exists.intro _ (And.intro h.2 (And.intro h.1 rfl))
  |exact Exists.intro _ (And.intro h rfl)
theorem ab0:∀(x:A (op,k,u,K) (Int×Int)),jO x->∃s,K s/\jO (x.re (op,k,u,(· =s))):=by
 rintro⟨a,b⟩ h;cases op;case add=>obtain⟨s,h1,h2⟩:=BV _ h;exact Exists.intro s (And.intro h1 h2)
 case sub=>obtain⟨s,h1,h2⟩:=BV _ h;exact Exists.intro s (And.intro h1 h2)
 case mul=>obtain⟨s,h1,h2⟩:=BV _ h;exact Exists.intro s (And.intro h1 h2)
 case quo=>obtain⟨s,h1,h2⟩:=BV _ h.2;exact Exists.intro s (And.intro h1 (And.intro h.1 h2))
 all_goals first
  |exact Exists.intro _ (And.intro h rfl)
  |exact Exists.intro _ (And.intro h.2 (And.intro h.1 rfl))
theorem abY:∀(x:A (op,u,K) (List UInt8×List UInt8)),sj x->∃s,K s/\sj (x.re (op,u,(· =s))):=by
 rintro⟨a,b⟩ h;cases op;all_goals first
  |exact h.elim
  |exact Exists.intro _ (And.intro h rfl)
  |exact Exists.intro _ (And.intro h.2 (And.intro h.1 rfl))
theorem Fz:∀(x:A (op,K) Bool),qO x->∃s,K s/\qO (x.re (op,(fun s0:SV=>s0=s))):=by
 rintro⟨a⟩ h;cases op;all_goals first
  |exact h.elim
  |exact Exists.intro _ (And.intro h rfl)
theorem abZ:∀(x:A (P,op,t,u,K) (SV×SV)),qN x->∃s,K s/\qN (x.re (P,op,t,u,(· =s))):=by
 intro x h;unfold qN at h;split at h
 ·obtain⟨s,h1,h2⟩:=ab0 _ h.2;exact Exists.intro s (And.intro h1 (And.intro h.1 h2))
 ·obtain⟨s,h1,h2⟩:=abY _ h;exact Exists.intro s (And.intro h1 h2)
 ·obtain⟨s,h1,h2⟩:=Fz _ h.2;exact Exists.intro s (And.intro h1 (And.intro h.1 h2))
 ·obtain⟨h1,h2,h3⟩:=h;obtain⟨b,hb,h3⟩:=aO h3;obtain⟨s,h4,h5⟩:=Fz _ h3;exact Exists.intro s (And.intro h4 (And.intro h1 (And.intro h2 (by rw[hb];exact h5))))
 ·obtain⟨h1,h2,h3⟩:=h;obtain⟨b,hb,h3⟩:=aO h3;obtain⟨s,h4,h5⟩:=Fz _ h3;exact Exists.intro s (And.intro h4 (And.intro h1 (And.intro h2 (by rw[hb];exact h5))))
 ·exact h.elim
theorem Y3:∀(x:A (P,op,t,u,K) SV),wA x->∃s,K s/\wA (x.re (P,op,t,u,(· =s))):=by
 intro x h;unfold wA at h;split at h
 ·obtain⟨s,h1,h2⟩:=Fz _ h.2.2;exact Exists.intro s (And.intro h1 (And.intro h.1 (And.intro h.2.1 h2)))
 ·exact h.elim
theorem Zc {md:PM}:∀(x:A (md,K) (Bool×SV×SV)),vd x->∃s,K s/\vd (x.re (md,(fun s0:SV=>s0=s))):=by
 intro x h;unfold vd at h;split at h;all_goals first
  |exact h.elim
  |exact Exists.intro _ (And.intro h rfl)
theorem aay:∀(x:A (u,K) SV),vj x->∃s,K s/\vj (x.re (u,(fun s0:SV=>s0=s))):=by
 intro x h;unfold vj at h;split at h;all_goals first
  |exact h.elim
  |exact Exists.intro _ (And.intro h rfl)
  |exact Exists.intro _ (And.intro h.2 (And.intro h.1 rfl))
theorem acE {op:UnOp}:∀(x:A (op,u,K) SV),vD x->∃s,K s/\vD (x.re (op,u,(fun s0:SV=>s0=s))):=by
 intro x h;unfold vD at h;split at h
 ·exact Exists.intro _ (And.intro h rfl)
 ·obtain⟨s,h1,h2⟩:=BV _ h;exact Exists.intro s (And.intro h1 h2)
 ·exact h.elim
theorem Y7:∀(x:A (u,K) (LS×CvK×SV)),rS x->∃s,K s/\rS (x.re (u,(fun s0:SV=>s0=s))):=by
 intro x h;unfold rS at h;split at h
 ·exact Exists.intro _ (And.intro h rfl)
 ·exact Exists.intro _ (And.intro h rfl)
 ·obtain⟨b,hb,l,h1,h2⟩:=aO h;refine Exists.intro _ (And.intro h2 ?_);show aQ _;rw[hb];exact⟨l,h1,rfl⟩
 ·obtain⟨l,h1,h2⟩:=h;exact Exists.intro _ (And.intro h2 (Exists.intro l (And.intro h1 rfl)))
 ·exact h.elim
theorem aaF:∀(x:A (u,K) (LS×SV×Nat)),tP x->∃s,K s/\tP (x.re (u,(fun s0:SV=>s0=s))):=by
 intro x h;unfold tP at h;split at h
 ·exact Exists.intro _ (And.intro h rfl)
 ·obtain⟨b,hb,h1,h2⟩:=aO h;refine Exists.intro _ (And.intro h2 ?_);show aQ _;rw[hb];exact⟨h1,rfl⟩
 ·exact Exists.intro _ (And.intro h.2 (And.intro h.1 rfl))
 ·exact h.elim
theorem aaE:∀(x:A (P,u,K) (LS×TypeId×SV×SV)),vn x->∃s,K s/\vn (x.re (P,u,(fun s0:SV=>s0=s))):=by
 intro x h;unfold vn at h;split at h
 ·exact Exists.intro _ (And.intro h.2.2 (And.intro h.1 (And.intro h.2.1 rfl)))
 ·obtain⟨b,hb,h0,h1,h2⟩:=aO h;refine Exists.intro _ (And.intro h2 ?_);show aQ _;rw[hb];exact⟨h0,h1,rfl⟩
 ·exact h.elim
theorem acH:∀(x:A (P,t,u,K) (SV×SV)),xd x->∃s,K s/\xd (x.re (P,t,u,(fun s0:SV=>s0=s))):=by
 intro x h;unfold xd at h;split at h
 ·exact Exists.intro _ (And.intro h.2.2 (And.intro h.1 (And.intro h.2.1 rfl)))
 ·exact h.elim
theorem acF:∀(x:A (P,t,u,K) (SV×Option SV×Option SV)),vE x->∃s,K s/\vE (x.re (P,t,u,(fun s0:SV=>s0=s))):=by
 intro x h;unfold vE at h;split at h
 ·obtain⟨h0,h⟩:=h;obtain⟨l,hl,h⟩:=aO h;obtain⟨m,hm,h⟩:=aO h;refine Exists.intro _ (And.intro h.2 ?_);refine And.intro h0 ?_;show aQ _;rw[hl];show aQ _;rw[hm];exact And.intro h.1 rfl
 ·obtain⟨l,hl,h⟩:=aO h;obtain⟨m,hm,h⟩:=aO h;obtain⟨e,he,h0,h1,h2⟩:=aO h;refine Exists.intro _ (And.intro h2 ?_);show aQ _;rw[hl];show aQ _;rw[hm];show aQ _;rw[he];exact And.intro h0 (And.intro h1 rfl)
 ·exact h.elim
theorem acG {m:Mem} {y:Value}:∀(x:A (m,y,u,K) (Option Nat)),yN x->∃s,K s/\yN (x.re (m,y,u,(fun s0:SV=>s0=s))):=by
 rintro⟨x⟩ h;cases x with
 |none=>obtain⟨c,h1,h2⟩:=h;exact Exists.intro _ (And.intro h2 (Exists.intro c (And.intro h1 rfl)))
 |some n=>obtain⟨c,h1,h2⟩:=h;exact Exists.intro _ (And.intro h2 (Exists.intro c (And.intro h1 rfl)))
theorem aax {b:Vc} {o:Nat}:∀(x:A (b,o,u,K) (Option Nat)),yu x->∃s,K s/\yu (x.re (b,o,u,(fun s0:SV=>s0=s))):=by
 rintro⟨x⟩ h;cases x with
 |none=>exact Exists.intro _ (And.intro h.2 (And.intro h.1 rfl))
 |some n=>exact Exists.intro _ (And.intro h.2.2 (And.intro h.1 (And.intro h.2.1 rfl)))
theorem aaC {l:List Value} {key:Value}:∀(x:A (l,key,K) (Bool×Option Value)),vm x->∃s,K s/\vm (x.re (l,key,(fun s0:SV=>s0=s))):=by
 intro x h;unfold vm at h;split at h
 ·exact Exists.intro _ (And.intro h rfl)
 ·rename_i z;cases hf:mP l key with
  |none=>exact Exists.intro _ (And.intro (h.2 hf) (And.intro (fun v hv=>by rw[hf] at hv;cases hv) (fun _=>rfl)))
  |some v=>exact Exists.intro _ (And.intro (h.1 v hf) (And.intro (fun v' hv=>by rw[hf] at hv;cases hv;rfl) (fun hv=>by rw[hf] at hv;cases hv)))
 ·rename_i z;cases hf:mP l key with
  |none=>exact Exists.intro _ (And.intro (h.2 hf) (And.intro (fun v hv=>by rw[hf] at hv;cases hv) (fun _=>rfl)))
  |some v=>exact Exists.intro _ (And.intro (h.1 v hf) (And.intro (fun v' hv=>by rw[hf] at hv;cases hv;rfl) (fun hv=>by rw[hf] at hv;cases hv)))
 ·cases h
theorem aaB {c:Bool}:∀(x:A (P,t,c,K) (LS×SV×Option Value)),vk x->∃s,K s/\vk (x.re (P,t,c,(fun s0:SV=>s0=s))):=by
 intro x h;unfold vk at h;split at h
 ·obtain⟨b,hb,bM,ht,hk,h⟩:=aO h;obtain⟨l,hl,h⟩:=aO h;obtain⟨s,h1,h2⟩:=aaC _ h;refine Exists.intro s (And.intro h1 ?_);simp only[A.re,vk,aQ,hb,hl,bM,true_and];exact⟨ht,hk,h2⟩
 ·cases h
theorem Y5:∀(x:A (P,t,u,K) (LS×SV)),pN x->∃s,K s/\pN (x.re (P,t,u,(fun s0:SV=>s0=s))):=by
 intro x h;unfold pN at h;split at h
 ·obtain⟨b,hb,bM,h⟩:=aO h;obtain⟨ag,jD,h⟩:=aO h;obtain⟨r,hr,h⟩:=aO h;refine Exists.intro _ (And.intro h ?_);simp only[A.re,pN,aQ,hb,jD,hr,bM,and_self]
 ·obtain⟨b,hb,h⟩:=aO h;obtain⟨ag,jD,h⟩:=aO h;obtain⟨s,h1,h2⟩:=aax _ h;refine Exists.intro _ (And.intro h1 ?_);show aQ _;rw[hb];show aQ _;rw[jD];exact h2
 ·obtain⟨ag,jD,h⟩:=aO h;obtain⟨s,h1,h2⟩:=acG _ h;refine Exists.intro _ (And.intro h1 ?_);show aQ _;rw[jD];exact h2
 ·exact h.elim
theorem aaG:∀(x:A K (SV×Nat)),vo x->∃s,K s/\vo (x.re (fun s0:SV=>s0=s)):=by
 intro x h;unfold vo at h;split at h
 ·exact xJ h
 ·exact xJ h
 ·exact h.elim
theorem aaD:∀(x:A (P,t,K) (LS×SV)),tO x->∃s,K s/\tO (x.re (P,t,(fun s0:SV=>s0=s))):=by
 intro x h;unfold tO at h;split at h
 ·exact Exists.intro _ (And.intro h.2 (And.intro h.1 rfl))
 ·obtain⟨e,he,h⟩:=aO h;refine Exists.intro _ (And.intro h ?_);show aQ _;rw[he];rfl
 ·obtain⟨e,he,h⟩:=aO h;obtain⟨b,hb,h⟩:=aO h;refine Exists.intro _ (And.intro h ?_);show aQ _;rw[he];show aQ _;rw[hb];rfl
 ·exact h.elim
theorem aaz:∀(x:A K (SV×SV)),wL x->∃s,K s/\wL (x.re (fun s0:SV=>s0=s)):=by
 intro x h;unfold wL at h;split at h
 ·exact Exists.intro _ (And.intro h rfl)
 ·exact h.elim
theorem aaA:∀(x:A K (SV×SV)),wM x->∃s,K s/\wM (x.re (fun s0:SV=>s0=s)):=by
 intro x h;unfold wM at h;split at h
 ·exact Exists.intro _ (And.intro h rfl)
 ·exact h.elim
theorem Y4:∀(x:A K (SV×SV×SV×SV)),wB x->∃s,K s/\wB (x.re (fun s0:SV=>s0=s)):=by
 intro x h;unfold wB at h;split at h
 ·exact Exists.intro _ (And.intro h rfl)
 ·exact h.elim
theorem Y2 {p:bX} {a b:Operand} {st:LS} {g:Gd}:∀(x:A (p,a,b,st,g,K) PM),vb x->∃s,K s/\vb (x.re (p,a,b,st,g,(fun s0:SV=>s0=s))):=by
 rintro⟨md⟩ h;unfold vb at h;split at h
 ·obtain⟨s,h1,h2⟩:=xJ h.2;exact Exists.intro s (And.intro h1 (And.intro h.1 h2))
 ·obtain⟨s,h1,h2⟩:=xJ h.2;exact Exists.intro s (And.intro h1 (And.intro h.1 h2))
 ·rename_i q;cases q;obtain⟨h0,h⟩:=h;obtain⟨x,hx,h⟩:=aO h;obtain⟨y,hy,h⟩:=aO h;obtain⟨s,h1,h2⟩:=Zc _ h;refine Exists.intro s (And.intro h1 (And.intro h0 ?_));rw[hx];show aQ _;rw[hy];exact h2
theorem RF {op:Op}:∀(x:A (P,op,K) (LS×bX)),qOp x->∃s,K s/\qOp (x.re (P,op,(fun s0:SV=>s0=s))):=by
 intro x h;unfold qOp at h;split at h
 ·exact xJ h
 ·exact xJ h
 ·obtain⟨g,hg,h⟩:=aO h;obtain⟨s,h1,h2⟩:=Y2 _ h;exact Exists.intro s (And.intro h1 (by simp only[A.re,qOp,aQ,hg];exact h2))
 ·obtain⟨x,hx,h⟩:=aO h;obtain⟨s,h1,h2⟩:=aay _ h;exact Exists.intro s (And.intro h1 (by simp only[A.re,qOp,aQ,hx];exact h2))
 ·obtain⟨x,hx,h⟩:=aO h;obtain⟨s,h1,h2⟩:=Y3 _ h;exact Exists.intro s (And.intro h1 (by simp only[A.re,qOp,aQ,hx];exact h2))
 ·rename_i Wn t x' y' ty ak p' db;obtain⟨x,hx,h⟩:=aO h;obtain⟨y,hy,h⟩:=aO h;obtain⟨s,h1,h2⟩:=abZ _ h;have bt:¬y' = .const .nilIface:=fun e=>by subst e;exact db _ _ rfl HEq.rfl
  exact Exists.intro s (And.intro h1 (by simp only[A.re,qOp,aQ,hx,hy,bt,false_implies,implies_true];exact h2))
 ·obtain⟨x,hx,h⟩:=aO h;obtain⟨s,h1,h2⟩:=acE _ h;exact Exists.intro s (And.intro h1 (by simp only[A.re,qOp,aQ,hx];exact h2))
 ·obtain⟨x,hx,h⟩:=aO h;obtain⟨s,h1,h2⟩:=Y7 _ h;exact Exists.intro s (And.intro h1 (by simp only[A.re,qOp,aQ,hx];exact h2))
 ·obtain⟨x,hx,h⟩:=aO h;obtain⟨y,hy,h⟩:=aO h;obtain⟨s,h1,h2⟩:=aaF _ h;exact Exists.intro s (And.intro h1 (by simp only[A.re,qOp,aQ,hx,hy];exact h2))
 ·obtain⟨x,hx,h⟩:=aO h;obtain⟨y,hy,h⟩:=aO h;obtain⟨s,h1,h2⟩:=xJ h;exact Exists.intro s (And.intro h1 (by simp only[A.re,qOp,aQ,hx,hy];exact h2))
 ·obtain⟨x,hx,h⟩:=aO h;obtain⟨y,hy,h⟩:=aO h;obtain⟨z,hz,h⟩:=aO h;obtain⟨s,h1,h2⟩:=aaE _ h;exact Exists.intro s (And.intro h1 (by simp only[A.re,qOp,aQ,hx,hy,hz];exact h2))
 ·obtain⟨x,hx,h⟩:=aO h;obtain⟨y,hy,h⟩:=aO h;obtain⟨s,h1,h2⟩:=acH _ h;exact Exists.intro s (And.intro h1 (by simp only[A.re,qOp,aQ,hx,hy];exact h2))
 ·obtain⟨x,hx,h⟩:=aO h;obtain⟨y,hy,h⟩:=aO h;obtain⟨z,hz,h⟩:=aO h;obtain⟨s,h1,h2⟩:=acF _ h;exact Exists.intro s (And.intro h1 (by simp only[A.re,qOp,aQ,hx,hy,hz];exact h2))
 ·obtain⟨x,hx,h⟩:=aO h;obtain⟨s,h1,h2⟩:=Y5 _ h;exact Exists.intro s (And.intro h1 (by simp only[A.re,qOp,aQ,hx];exact h2))
 ·obtain⟨x,hx,h⟩:=aO h;obtain⟨s,h1,h2⟩:=aaG _ h;exact Exists.intro s (And.intro h1 (by simp only[A.re,qOp,aQ,hx];exact h2))
 ·obtain⟨h0,h⟩:=h;obtain⟨z,hz,h⟩:=aO h;obtain⟨cs,gD,h⟩:=aO h;exact Exists.intro _ (And.intro h (by simp only[A.re,qOp,aQ,hz,gD];exact And.intro h0 trivial))
 ·obtain⟨x,hx,h⟩:=aO h;obtain⟨s,h1,h2⟩:=aaD _ h;exact Exists.intro s (And.intro h1 (by simp only[A.re,qOp,aQ,hx];exact h2))
 ·obtain⟨x,hx,h⟩:=aO h;obtain⟨y,hy,h⟩:=aO h;obtain⟨s,h1,h2⟩:=aaz _ h;exact Exists.intro s (And.intro h1 (by simp only[A.re,qOp,aQ,hx,hy];exact h2))
 ·obtain⟨x,hx,h⟩:=aO h;obtain⟨y,hy,h⟩:=aO h;obtain⟨s,h1,h2⟩:=aaB _ h;exact Exists.intro s (And.intro h1 (by simp only[A.re,qOp,aQ,hx,hy];exact h2))
 ·obtain⟨x,hx,h⟩:=aO h;obtain⟨y,hy,h⟩:=aO h;obtain⟨s,h1,h2⟩:=aaA _ h;exact Exists.intro s (And.intro h1 (by simp only[A.re,qOp,aQ,hx,hy];exact h2))
 ·obtain⟨x,hx,h⟩:=aO h;obtain⟨y,hy,h⟩:=aO h;obtain⟨z,hz,h⟩:=aO h;obtain⟨u,hu,h⟩:=aO h;obtain⟨s,h1,h2⟩:=Y4 _ h;exact Exists.intro s (And.intro h1 (by simp only[A.re,qOp,aQ,hx,hy,hz,hu];exact h2))
 ·exact h.elim
end
section
variable {n:Nat} {st:LS} {P:Program} {c:Cfg}
end
/-! Regions that draw their order, of quiet operations and pure calls. -/
def Kz:OpK->Bool
 | .ac=>false
 |_=>true
section
variable {C:Ctx} {n:Nat} {st:LS} {a:Act} {V:Vl} {D:Nat->Nat} {w:World} {P:Program} {p:bX} {c:Cfg} {ops:Array Oper} {L:Nat->Prop} {i:Nat} {o:Oper}
def Cl (C:Ctx) (bx:List Bx) (vc:List Vc) (nid:Nat) (m:Mem) (V:Vl) (w:World):Prop:=∃V' D',Agree nid vc V V' /\SatW C bx vc nid m V' D' w
theorem SatW.drew {bx:List Bx} {vc:List Vc} {nid:Nat} {m:Mem} (h:SatW C bx vc nid m V D w) (k:Nat):SatW C bx vc nid m V D {w with drawn:=k}:=
 ⟨⟨h.heap.bx,h.heap.vc,h.heap.apart,h.heap.uniq⟩,h.wf,⟨h.frm.os,h.frm.tape,h.frm.output,h.frm.size,h.frm.same⟩,h.own,h.baseB,h.baseV,h.ids,h.le0,h.m0,h.mle⟩
theorem Zi (hF:SatF n st.env st.rho a V) (se:∀e∈st.env,jA st.nid st.vc e.s) {w0:World} (GU:Cl C st.bx st.vc st.nid st.m V w0)
  (ei:dO c P) (hR:RInv ops L st.rho) (pr:¬L i) (iP:ops[i]? =some o) (hd:nA n o=true) (Bd:Kz (im c o.op)=true) (Db:pathOf st o.guard=some p) {K:LS->Prop} (h:one (.mk (k:=(c,P,i,o,K)) (st,p)))
  {next:Act->Prop} (hn:∀ak a',K ak->SatF n ak.env ak.rho a' V->(∀e∈ak.env,jA st.nid st.vc e.s)->ak.bx=st.bx/\ak.vc=st.vc/\ak.nid=st.nid/\ak.m=st.m->RInv ops (fun k=>L k\/k=i) ak.rho->next a'):
  if Region.wanted o (yielded ops a.tmps) then o.quiet P a (Cl C st.bx st.vc st.nid st.m V) next else next (a.put o.dst undef):=by
 obtain⟨V0,D0,ha0,hW0⟩:=GU;have CT:∀{V' :Vl} {D' :Nat->Nat} {w' :World},Agree st.nid st.vc V V' ->SatW C st.bx st.vc st.nid st.m V' D' w' ->Sat C n st a V' D' w' :=fun ha hW=>⟨hF.agree se ha,se,hW⟩
 have Bi:=CT ha0 hW0;obtain⟨hp,hw⟩:=Ir Bi hR Db;rw[hw];have back:∀{ak:LS} {a' :Act},Sat C n ak a' V0 D0 w0->ak.bx=st.bx/\ak.vc=st.vc/\ak.nid=st.nid/\ak.m=st.m->SatF n ak.env ak.rho a' V/\∀e∈ak.env,jA st.nid st.vc e.s:=by
  intro ak a' gF he;have hid:∀e∈ak.env,jA st.nid st.vc e.s:=by rw[<- he.2.1,<- he.2.2.1];exact gF.ids
  exact⟨gF.f.agree hid (fun k hk=>⟨((ha0 k hk).1).symm,fun u hu=>((ha0 k hk).2 u hu).symm⟩),hid⟩
 simp only[one] at h;unfold Dm at h;split at h
 ·rename_i q dead he;simp only[A.mk.injEq,Prod.mk.injEq] at he;obtain⟨hq,hdead,hit⟩:=he;have wT:∀(d:Option Nat) (p:bX) (s:SV),(E.put st d p s).bx=st.bx/\(E.put st d p s).vc=st.vc/\(E.put st d p s).nid=st.nid/\(E.put st d p s).m=st.m:=fun d p s=>by cases d<;>exact⟨rfl,rfl,rfl,rfl⟩
  have GQ:∀(d:Option Nat) (p:bX) (s:SV) (mv:Bool),(mL (E.put st d p s) i d p mv s).bx=st.bx/\(mL (E.put st d p s) i d p mv s).vc=st.vc/\(mL (E.put st d p s) i d p mv s).nid=st.nid/\(mL (E.put st d p s) i d p mv s).m=st.m:=fun d p s mv=>by
   rcases H8 (E.put st d p s) i d p mv s with e |⟨_,_,_,_,e⟩
   ·rw[e];exact wT d p s
   ·rw[e];exact wT d p s
  have UT:∀(d:Option Nat) (p:bX) (s:SV) (mv:Bool),(mM (E.put st d p s) i d p mv).bx=st.bx/\(mM (E.put st d p s) i d p mv).vc=st.vc/\(mM (E.put st d p s) i d p mv).nid=st.nid/\(mM (E.put st d p s) i d p mv).m=st.m:=fun d p s mv=>by
   rcases H9 (E.put st d p s) i d p mv with e |⟨_,_,e⟩
   ·rw[e];exact wT d p s
   ·rw[e];exact wT d p s
  unfold yw at h;split at h
  ·rename_i ak p' q';cases q';have hc:=E4 hdead;rw[hc];simp only[Bool.false_eq_true,if_false];obtain⟨h1,h2⟩:=KV Bi hR pr iP hd hit hp hc (oP o.op);obtain⟨h3,h4⟩:=back h1 (UT _ _ _ _);exact hn _ _ h h3 h4 (UT _ _ _ _) h2
  ·rename_i ak p' q';cases q';obtain⟨s,⟨hs,hK⟩,hdet⟩:=RF _ h;have dJ:∀w',Cl C st.bx st.vc st.nid st.m V w' ->cI st.rho p=true->(execOp a.eval o).run P w' = .ok (.value (den V s)) w' :=by
    rintro w' ⟨V',D',ha,hW⟩ hc;obtain⟨s',e,hr⟩:=IF (CT ha hW) hp (o:=o) rfl hdet;subst e;rw[hr hc,E2 ha hs]
   cases hc:cI st.rho p with
   |true=>
    simp only[if_true];refine⟨den V s,fun w' Mj=> ?_,?_⟩
    ·unfold Oper.quietAt;rw[dJ w' Mj hc];exact⟨rfl,rfl⟩
    ·have e0:den V s=den V0 s:=(E2 ha0 hs).symm;obtain⟨h1,h2⟩:=De Bi hR pr iP hd hit hp hs (v:=den V s) (by rw[hc,e0];rfl) (oP o.op);obtain⟨h3,h4⟩:=back h1 (GQ _ _ _ _);exact hn _ _ hK h3 h4 (GQ _ _ _ _) h2
   |false=>
    simp only[Bool.false_eq_true,if_false];obtain⟨h1,h2⟩:=De Bi hR pr iP hd hit hp hs (v:=undef) (by rw[hc];rfl) (oP o.op);obtain⟨h3,h4⟩:=back h1 (GQ _ _ _ _);exact hn _ _ hK h3 h4 (GQ _ _ _ _) h2
  ·rename_i F ak p' q';cases q';obtain⟨y,hy,hB,hK⟩:=aO h;cases hc:cI st.rho p with
   |true=>
    simp only[if_true];obtain⟨f,args,ts,ho,hf⟩:=Qf hq;obtain⟨au,hFF⟩:=ei f F hf;rw[ho] at hy;simp only[z6,Option.bind_eq_some_iff] at hy;obtain⟨fy,⟨ss,yX,hvals⟩,hy⟩:=hy;refine⟨y.2,?_,?_⟩
    ·rintro w' ⟨V',D',ha,hW⟩;have gF:=CT ha hW;have dJ:=Jd (w:=w') (a:=a) ho rfl au;unfold Oper.quietAt;rw[dJ];refine⟨rfl,?_⟩;have rV:args.map a.eval=⟨(fy.map SV.v).map (den V')⟩:=by
      apply Array.ext'
      rw[Array.toList_map,Bz gF hp hc yX,H7 hvals];simp only[List.map_map];exact(List.map_id'' (fun x=>rfl) fy).symm
     rw[rV];refine(hFF st.m fy y hy (hB hc) V' w' D' hW.wf hW.mle ⟨fun b hb=>(by cases hb),fun b hb=>(by cases hb),by simp [br],by simp⟩).mono fun e w2 ⟨r,V2,D2,H',m',he,h1,h2,h3,h4,h5,h6,h7,h8,h9,hr,hH⟩=> ?_
     subst he;subst hr;exact⟨rfl,V',D2,ha,hW.quiet h1 h5 h7⟩
    ·obtain⟨h1,h2⟩:=AJ (i:=i) Bi hR hd hit hp (s:= .v y.2) trivial (v:=y.2) (fun _=>rfl);obtain⟨h3,h4⟩:=back h1 (wT _ _ _);exact hn _ _ hK h3 h4 (wT _ _ _) h2
   |false=>
    simp only[Bool.false_eq_true,if_false];obtain⟨h1,h2⟩:=AJ (i:=i) Bi hR hd hit hp (s:= .v y.2) trivial (v:=undef) (fun e=>by rw[hc] at e;cases e);obtain⟨h3,h4⟩:=back h1 (wT _ _ _);exact hn _ _ hK h3 h4 (wT _ _ _) h2
  ·rw[hq] at Bd;cases Bd
 ·cases h
theorem Oq (ei:dO c P) {C:Ctx} {V:Vl} {w0:World} {bx:List Bx} {vc:List Vc} {nid:Nat} {m:Mem} (GU:Cl C bx vc nid m V w0) {K:LS->Prop} {Q:Act->Prop}
  (hQ:∀ak a',K (clean ak)->SatF n ak.env ak.rho a' V->(∀e∈ak.env,jA nid vc e.s)->ak.bx=bx/\ak.vc=vc/\ak.nid=nid/\ak.m=m->Q a'):
  ∀(l:List Oper) (i:Nat) (st:LS) (a:Act),Dk c P l i K st->SatF n st.env st.rho a V->(∀e∈st.env,jA nid vc e.s)->st.bx=bx/\st.vc=vc/\st.nid=nid/\st.m=m->RInv ops (· <i) st.rho->
   (∀j,l[j]? =ops[i+j]?)->(∀o∈l,nA n o=true/\Kz (im c o.op)=true)->wpQuiet P ops (Cl C bx vc nid m V) Q l a
 |[],i,st,a,h,hF,se,he,hR,hl,hd=>hQ _ _ h hF se he
 |o::r,i,st,a,h,hF,se,he,hR,hl,hd=>by
  obtain⟨p,hp,h⟩:=aO h;have iP:ops[i]? =some o:=by have:=hl 0;simpa using this.symm
  obtain⟨rfl,rfl,rfl,rfl⟩:=he;unfold wpQuiet;refine Zi hF se GU ei hR (Nat.lt_irrefl _) iP (hd o (b6 ..)).1 (hd o (b6 ..)).2 hp h fun ak a' hK vO Gt sV vN=> ?_
  exact Oq ei GU hQ r (i+1) ak a' hK vO Gt sV (vN.mono fun k hk=>by omega) (fun j=>by have:=hl (j+1);simpa [Nat.add_assoc,Nat.add_comm 1 j] using this) (fun o ho=>hd o (bR _ ho))
theorem lP (ei:dO c P) {id:Nat} {l:List Oper} {Q:Exit->LS->Prop} {st:LS} (hm:P.follows .mixedOrders=true) (hB:Region.lexB .any ⟨l⟩=true) (hd:l.all (fun o=>nA n o&&Kz (im c o.op))=true)
  (h:A7 (.mk (k:=(c,P,0,l,Q .normal)) st)):kA (.mk (k:=(P,n,.region id ⟨l⟩ true,Q)) st):=by
 rintro C a w ⟨gN,V,D,hS⟩;have cu:Cl C st.bx st.vc st.nid st.m V {w with drawn:=w.drawn+1}:=⟨V,D,Agree.refl _ _ _,hS.w.drew _⟩;refine wp_region_quiet (C:=Cl C st.bx st.vc st.nid st.m V) hm hB cu ?_;refine Oq (ops:=⟨l⟩) ei cu (K:=Q .normal) ?_ l 0 st a h hS.f hS.ids ⟨rfl,rfl,rfl,rfl⟩ ?_ (fun j=>by simp) (fun o ho=> ?_)
 ·rintro ak a' hK vO Gt ⟨e1,e2,e3,e4⟩ w' ⟨V',D',ha,hW⟩;refine⟨clean ak,?_,hK⟩;have gF:Sat C n ak a' V' D' w' :=⟨vO.agree Gt ha,by rw[e2,e3];exact Gt,by rw[e1,e2,e3,e4];exact hW⟩;exact Ie gF
 ·rw[gN];intro g hg;cases hg
 ·have:=List.all_eq_true.1 hd o ho;simpa using this
end
/-! Functions of values, listed. -/
def Bb:List (FuncId×(List Value->Option (Prop×Value)))->FuncId->Option (List Value->Option (Prop×Value))
 |[],_=>none
 |(g,F)::r,f=>if g=f then some F else Bb r f
def gL (own:FuncId->Bool) (L:List (FuncId×(List Value->Option (Prop×Value)))):Cfg:=⟨own,fun f=>(Bb L f).map fun F _=>F⟩
attribute [go_sem] Bb.eq_1 Bb.eq_2 gL.eq_1
theorem pure_nil {P:Program} {own:FuncId->Bool}:dO (gL own []) P:=fun f F h=>by cases h
theorem pure_cons {P:Program} {own:FuncId->Bool} {L:List (FuncId×(List Value->Option (Prop×Value)))} {g:FuncId} {F:List Value->Option (Prop×Value)} (au:jv P g=true)
  (h:∀fy y,F fy=some y->y.1->∀m,FnH P g (fy.map SV.v) ⟨[],[]⟩ m (fun r H' _=>r= .v y.2/\H' =⟨[],[]⟩)) (hL:dO (gL own L) P):dO (gL own ((g,F)::L)) P:=by
 intro f G hf;by_cases e:g=f
 ·subst e;simp only[gL,Bb,if_true,Option.map_some,dY] at hf;subst hf;exact⟨au,fun m fy y hy hB=>h fy y hy hB m⟩
 ·simp only[gL,Bb,af e] at hf;exact hL f G hf
/-! .. and functions of values and of what lies in memory. -/
def wW (ops:Array Oper):Nat->Nat->Nat->Bool
 |0,_,_=>false
 |f+1,j,i=>match ops[j]? with
  |some o=>o.after.toList.any fun e=>Region.binds .any e&&(e.on==i||wW ops f e.on i)
  |none=>false
def qm (ops:Array Oper) (j i:Nat):Prop:=∃f,wW ops f j i=true
def Closed (ops:Array Oper) (listed:Array Bool) (i:Nat):Prop:=∀k,listed.getD k false=true->qm ops k i->listed.getD i false=true
section
variable {P:Program} {ops:Array Oper} {Q:Exit->Act->World->Prop} {Cw:World->Prop}
theorem I9 {listed:Array Bool} {i:Nat} (h:listed.getD i true=false):listed.getD i false=false:=by
 rcases Nat.lt_or_ge i listed.size with h' |h'
 ·simp only[Array.getD,h',dite_true] at h ⊢;exact h
 ·simp [Array.getElem?_eq_none h'] at h
theorem Xe {listed:Array Bool} {i j:Nat} (hc:Closed ops listed i) (hi:listed.getD i false=false) (hj:j∈Region.ready .any ops listed):¬qm ops j i:=by
 rintro⟨f,hf⟩;obtain⟨_,o,ho,gu⟩:=mem_ready.1 hj;cases f with
 |zero=>cases hf
 |succ f=>
  simp only[wW,ho] at hf;obtain⟨e,he,h⟩:=List.any_eq_true.1 hf;simp only[aG,Bool.or_eq_true,beq_iff_eq] at h;have hl:=gu e (by simpa using he) h.1;rcases h.2 with h2 |h2
  ·rw[h2,hi] at hl;cases hl
  ·have:=hc _ hl ⟨f,h2⟩;rw[hi] at this;cases this
theorem Closed.set {listed:Array Bool} {i j:Nat} (hc:Closed ops listed i) (hj:¬qm ops j i):Closed ops (listed.setIfInBounds j true) i:=fun k hk hd=>by
 by_cases e:j=k
 ·subst e;exact absurd hd hj
 ·rw[getD_set_ne false e] at hk;exact getD_set_true (hc k hk hd)
theorem Closed.done {listed:Array Bool} {i:Nat} (h:listed.getD i false=true):Closed ops listed i:=fun _ _ _=>h
def YW (P:Program) (ops:Array Oper) (Cw:World->Prop) (o:Oper) (v:Value) (a:Act):Prop:=
 (Region.wanted o (yielded ops a.tmps)=true/\∀w,Cw w->(execOp a.eval o).run P w= .ok (.value v) w)\/(Region.wanted o (yielded ops a.tmps)=false/\v=undef)
theorem YW.same {o:Oper} {v:Value} {a a' :Act} (hy:YW P ops Cw o v a) (he:execOp a'.eval o=execOp a.eval o) (hw:Region.wanted o (yielded ops a'.tmps)=Region.wanted o (yielded ops a.tmps)):YW P ops Cw o v a' :=by
 unfold YW at *;rw[he,hw];exact hy
theorem YW.wpOp {i:Nat} {o:Oper} {v:Value} {a:Act} (hi:ops[i]? =some o) (hy:YW P ops Cw o v a) {K:Act->World->Prop} {w:World} (hw:Cw w) (h:K (a.put o.dst v) w):wpOp P ops Q i K a w:=by
 unfold Go.wpOp;simp only[hi];rcases hy with ⟨Mi,hv⟩ |⟨Mi,rfl⟩
 ·simp only[Mi,if_true,Oper.wp,hv w hw,Oper.upon];exact .inl h
 ·simp only[Mi,Bool.false_eq_true,if_false];exact h
theorem YF {j:Nat} {oi oj:Oper} {v:Value} (hj:ops[j]? =some oj) (rf:oi.apart ops oj=true) (hsi:∀cs b,oi.op≠ .select cs b) (Vy:∀cs b,oj.op≠ .select cs b)
  (hQ:∀c a w,¬Q (.panic c) a w) {K:Act->World->Prop} {a:Act} {w:World} (hy:YW P ops Cw oi v a) (h:wpOp P ops Q j K (a.put oi.dst v) w):
  wpOp P ops Q j (fun a' w' =>YW P ops Cw oi v a' /\K (a'.put oi.dst v) w') a w:=by
 obtain⟨h1,h2,h3⟩:=Oper.apart_spec rf;have vr:∀(a:Act),YW P ops Cw oi v a->∀u,YW P ops Cw oi v (a.put oj.dst u):=fun a hy u=>
  hy.same (execOp_put oi hsi a oj.dst u h3) (wanted_put oi a oj.dst u h3)
 have ag8:∀d,YW P ops Cw oi v {a with defers:=d::a.defers}:=fun d=>hy.same rfl rfl
 unfold wpOp at *;simp only[hj] at *;rw[wanted_put oj a oi.dst v h1] at h;split
 ·rename_i hw;simp only[hw,if_true] at h;rcases h with h |⟨Ut,hlets⟩
  case inr=>exact .inr ⟨by unfold Oper.asks at *;rw[execOp_put oj Vy a oi.dst v h1] at Ut;exact Ut,hlets⟩
  refine .inl ?_;unfold Oper.wp at *;rw[execOp_put oj Vy a oi.dst v h1] at h;generalize (execOp a.eval oj).run P w=r at *
  cases r with
  |ok n w' =>
   cases n<;>simp only[Oper.upon] at h ⊢;case value u=>exact⟨vr a hy u,by rw[<- Act.put_comm a v u h2];exact h⟩
   case skip=>exact⟨vr a hy _,by rw[<- Act.put_comm a v undef h2];exact h⟩
   case defer d=>
    refine⟨vr _ (ag8 d) _,?_⟩;rw[<- Act.put_comm _ v undef h2,<- Act.put_defers];exact h
   case enter f args=>
    refine Calls.mono h fun e qP he=> ?_
    cases e with
    |returned u=>exact⟨vr a hy u,by rw[<- Act.put_comm a v u h2];exact he⟩
    |panicked c=>exact absurd he (hQ _ _ _)
    |outgrown=>exact he
   case row row args=>exact Rows.mono h fun u qP he=>⟨vr a hy u,by rw[<- Act.put_comm a v u h2];exact he⟩
  |halt x w' =>
   cases x<;>simp only[Oper.upon] at h ⊢;case panic u=>exact absurd h (hQ _ _ _)
 ·rename_i hw;simp only[hw] at h;exact⟨vr a hy _,by rw[<- Act.put_comm a v undef h2];exact h⟩
def rJ (P:Program) (ops:Array Oper) (Q:Exit->Act->World->Prop):Nat->(Nat×(World->Prop)->Prop)->Array Bool->Act->World->Prop
 |0,_,listed,a,w=>Region.ready .any ops listed=[]/\Q .normal a w
 |fuel+1,I,listed,a,w=>
  (Region.ready .any ops listed=[]->Q .normal a w)/\
  ∀j∈Region.ready .any ops listed,wpOp P ops Q j (fun a' w' =>(∀x,I x->¬qm ops j x.1->x.2 w')/\rJ P ops Q fuel (fun x=>I x/\¬qm ops j x.1) (listed.setIfInBounds j true) a' w') a w
theorem ND:∀(fuel:Nat) (I:Nat×(World->Prop)->Prop) (listed:Array Bool) (a:Act) (w:World),rJ P ops Q fuel I listed a w->wpAny P .any ops Q fuel listed a w
 |0,_,_,_,_,h=>h
 |fuel+1,_,_,_,_,h=>⟨h.1,fun j hj=>wpOp_mono (fun a' w' h' =>ND fuel _ _ a' w' h'.2) (h.2 j hj)⟩
theorem Bt:∀(fuel:Nat) (I J:Nat×(World->Prop)->Prop) (_:∀i,J i->I i) (listed:Array Bool) (a:Act) (w:World),rJ P ops Q fuel I listed a w->rJ P ops Q fuel J listed a w
 |0,_,_,_,_,_,_,h=>h
 |fuel+1,I,J,hI,_,_,_,h=>⟨h.1,fun j hj=>wpOp_mono (fun a' w' h' =>⟨fun x h1 h2=>h'.1 x (hI x h1) h2,Bt fuel _ _ (fun x hx=>⟨hI x hx.1,hx.2⟩) _ a' w' h'.2⟩) (h.2 j hj)⟩
theorem hoist {i:Nat} {oi:Oper} {v:Value} (hi:ops[i]? =some oi) (GL:∀(j:Nat) (o:Oper) cs b,ops[j]? =some o->o.op≠ .select cs b) (hQ:∀c a w,¬Q (.panic c) a w):
  ∀(fuel:Nat) (I:Nat×(World->Prop)->Prop) (listed:Array Bool) (a:Act) (w:World),
   (∀j oj,ops[j]? =some oj->j≠i->listed.getD j true=false->(∀e∈oj.after,Region.binds .any e=true->e.on≠i)->oi.apart ops oj=true)->
   Closed ops listed i->i∈Region.ready .any ops listed->YW P ops Cw oi v a->Cw w->(∀x,I x->x.2 w)->
   rJ P ops Q fuel (fun x=>x=(i,Cw)\/I x) (listed.setIfInBounds i true) (a.put oi.dst v) w->rJ P ops Q (fuel+1) I listed a w:=by
 intro fuel;induction fuel with
 |zero=>
  intro I listed a w _ _ hr hy hC hI H;refine⟨fun h=>(by rw[h] at hr;cases hr),fun j hj=> ?_⟩;by_cases hji:j=i
  ·subst hji;exact hy.wpOp hi hC ⟨fun x h1 _=>hI x h1,H⟩
  ·have:=ready_mono hj hji;rw[H.1] at this;cases this
 |succ fuel ih=>
  intro I listed a w Gu cu hr hy hC hI H;refine⟨fun h=>(by rw[h] at hr;cases hr),fun j hj=> ?_⟩;by_cases hji:j=i
  ·subst hji;exact hy.wpOp hi hC ⟨fun x h1 _=>hI x h1,Bt _ _ _ (fun x hx=> .inr hx.1) _ _ _ H⟩
  ·have h1:=H.2 j (ready_mono hj hji);obtain⟨UP,oj,hoj,gu⟩:=mem_ready.1 hj;have UQ:=I9 (mem_ready.1 hr).1;have iQ:=Xe cu UQ hj;have AY:∀e∈oj.after,Region.binds .any e=true->e.on≠i:=fun e he hb heq=>by
    have h1:=gu e he hb;rw[heq,UQ] at h1;cases h1
   have h2:=YF hoj (Gu j oj hoj hji UP AY) (fun cs b=>GL i oi cs b hi) (fun cs b=>GL j oj cs b hoj) hQ hy h1;have afo:∀k ok,ops[k]? =some ok->k≠i->(listed.setIfInBounds j true).getD k true=false->
     (∀e∈ok.after,Region.binds .any e=true->e.on≠i)->oi.apart ops ok=true:=fun k ok hk hki Bc nd=>by
    refine Gu k ok hk hki ?_ nd;by_cases qV:j=k
    ·subst qV;exact UP
    ·rw[getD_set_ne true qV] at Bc;exact Bc
   refine wpOp_mono (fun a' w' h3=> ?_) h2;obtain⟨bt,hC',h3⟩:=h3;have akZ:=hC' (i,Cw) (.inl rfl) iQ;have fH:∀x,I x/\¬qm ops j x.1->x.2 w' :=fun x hx=>hC' x (.inr hx.1) hx.2
   refine⟨fun x h1 h2=>fH x ⟨h1,h2⟩,ih _ (listed.setIfInBounds j true) a' w' afo (cu.set iQ) (ready_mono hr (Ne.symm hji)) bt akZ fH ?_⟩;rw[Array.setIfInBounds_comm _ _ hji];refine Bt _ _ _ (fun x hx=> ?_) _ _ _ h3;rcases hx with rfl |hx
   ·exact⟨.inl rfl,iQ⟩
   ·exact⟨.inr hx.1,hx.2⟩
end
inductive Plan where
 |done
 |stop
 |hoist (i:Nat) (r:Plan)
 |alt (j:Nat) (ow:List Nat) (r next:Plan)
structure HX where
 i:Nat
 bx:List Bx
 vc:List Vc
 m:Mem
def sL:List Oper->Nat->Option Oper
 |[],_=>none
 |o::_,0=>some o
 |_::r,n+1=>sL r n
def ym (st:LS) (p:bX):List Operand->List Nat->List Nat
 |[],acc=>acc
 |x::r,acc=>rdIds1 st p r acc (cU st p x)
where rdIds1 (st:LS) (p:bX) (r:List Operand) (acc:List Nat):Option SV->List Nat
 |some s=>ym st p r (o5 acc [s])
 |none=>ym st p r acc
def mK:Op->List Operand
 | .load _ a=>[a]
 | .convert _ _ a=>[a]
 | .fieldAddr _ a _=>[a]
 | .indexAddr _ a _=>[a]
 | .call {args:=⟨[x]⟩,..}=>[x]
 | .move _=>[]
 | .assign _=>[]
 | .pick _ _ _=>[]
 | .nilCheck _=>[]
 | .binOp _ _ _ _ _=>[]
 | .unOp _ _ _=>[]
 | .field _ _ _=>[]
 | .index _ _ _=>[]
 | .slice _ _ _ _ _=>[]
 | .extract _ _=>[]
 | .build _ _=>[]
 |_=>[]
def qE (ow:List Nat):List HX->List HX
 |[]=>[]
 |⟨i,bx,vc,m⟩::r=>if jr ow i=true then⟨i,bx,vc,m⟩::qE ow r else qE ow r
def yO (st:LS):List HX->Prop
 |[]=>True
 |⟨_,bx,vc,m⟩::r=>sK st bx/\sJ st vc/\ae m st.m/\yO st r
def GK {P:Program} {o:Oper} {p:bX} {st:LS} {i:Nat} {K:LS->HX->Prop} (x:A (P,o,p,st,i,K) (OpK×Bool×Bool×List Nat)):Prop:=
 match x with
 | .mk (_,true,false,_)=>K (mM (put st o.dst p (.v undef)) i o.dst p (oP o.op)) ⟨i,[],[],st.m⟩
 | .mk (.qt,false,false,ks)=>qOp (.mk (k:=(P,o.op,fun s=>jA st.nid st.vc s/\K (mL (put st o.dst p s) i o.dst p (oP o.op) s) ⟨i,gI ks st.bx,fY ks st.vc,st.m⟩)) (⟨st.env,st.rho,gI ks st.bx,fY ks st.vc,st.nid,st.m⟩,p))
 |_=>False
def jf {c:Cfg} {P:Program} {o:Oper} {i:Nat} {K:LS->HX->Prop} (x:A (c,P,o,i,K) (LS×bX)):Prop:=
 match x with
 | .mk (st,p)=>GK (.mk (k:=(P,o,p,st,i,K)) (im c o.op,wG st.rho p,kK st.rho o.dst,ym st p (mK o.op) []))
def yq (c:Cfg) (P:Program) (l:List Oper) (K:LS->Prop):Plan->List HX->LS->Prop
 | .done,_,st=>K (clean st)
 | .stop,_,_=>True
 | .hoist i r,I,st=>aQ (.mk (k:=fun o:Oper=>aQ (.mk (k:=fun p:bX=>jf (.mk (k:=(c,P,o,i,fun ak X=>yq c P l K r (X::I) ak)) (st,p))) (pathOf st o.guard))) (sL l i))
 | .alt j ow r nx,I,st=>aQ (.mk (k:=fun o:Oper=>aQ (.mk (k:=fun p:bX=>one (.mk (k:=(c,P,j,o,fun ak=>yO ak (qE ow I)/\yq c P l K r (qE ow I) ak)) (st,p))) (pathOf st o.guard))) (sL l j))/\yq c P l K nx I st
def xa {c:Cfg} {P:Program} {l:List Oper} {K:LS->Prop} {pl:Plan} {I:List HX} (x:A (c,P,l,K,pl,I) LS):Prop:=match x with | .mk st=>yq c P l K pl I st
/-! Does the plan fit the region? -/
def mu (ops:Array Oper):Plan->Nat->List Nat->Array Bool->Option (List Nat)->Bool
 | .done,_,_,listed,none=>(Region.ready .any ops listed).isEmpty
 | .hoist i r,f+1,H,listed,none=>Region.free .any ops listed i&&(Region.ready .any ops listed).contains i&&mu ops r f (i::H) (listed.setIfInBounds i true) none
 | .alt j ow r nx,f+1,H,listed,none=>(Region.ready .any ops listed).contains j&&H.all (fun i=>jr ow i||wW ops ops.size j i)&&
   mu ops r f (H.filter (jr ow)) (listed.setIfInBounds j true) none&&mu ops nx (f+1) H listed (some ((Region.ready .any ops listed).filter (· != j)))
 | .alt j ow r nx,f+1,H,listed,some R=>R.contains j&&(Region.ready .any ops listed).contains j&&H.all (fun i=>jr ow i||wW ops ops.size j i)&&
   mu ops r f (H.filter (jr ow)) (listed.setIfInBounds j true) none&&mu ops nx (f+1) H listed (some (R.filter (· != j)))
 | .stop,_,_,_,some R=>R.isEmpty
 |_,_,_,_,_=>false
section
variable {ops:Array Oper}
def AllClosed (ops:Array Oper) (listed:Array Bool):Prop:=∀i,Closed ops listed i
theorem PZ {listed:Array Bool} {j:Nat} (hj:j∈Region.ready .any ops listed):j<listed.size:=by
 have h:=(mem_ready.1 hj).1;rcases Nat.lt_or_ge j listed.size with h' |h'
 ·exact h'
 ·simp [Array.getElem?_eq_none h'] at h
theorem Rq {listed:Array Bool} {j:Nat} (hj:j<listed.size):(listed.setIfInBounds j true).getD j false=true:=by simp [hj]
theorem YS {listed:Array Bool} {j k:Nat} (h:(listed.setIfInBounds j true).getD k false=true):k=j\/listed.getD k false=true:=by
 by_cases e:j=k
 ·exact .inl e.symm
 ·rw[getD_set_ne false e] at h;exact .inr h
theorem AllClosed.set {listed:Array Bool} {j:Nat} (hc:AllClosed ops listed) (hj:j∈Region.ready .any ops listed):AllClosed ops (listed.setIfInBounds j true):=by
 intro i k hk hd;refine getD_set_true ?_;rcases YS hk with rfl |hk
 ·obtain⟨_,o,ho,gu⟩:=mem_ready.1 hj;obtain⟨f,hf⟩:=hd;cases f with
  |zero=>cases hf
  |succ f=>
   simp only[wW,ho] at hf;obtain⟨e,he,h⟩:=List.any_eq_true.1 hf;simp only[aG,Bool.or_eq_true,beq_iff_eq] at h;have hl:=gu e (by simpa using he) h.1;rcases h.2 with h2 |h2
   ·rw[<- h2];exact hl
   ·exact hc i _ hl ⟨f,h2⟩
 ·exact hc i k hk hd
theorem JO:∀{l:List Oper} {i:Nat} {o:Oper},sL l i=some o->l[i]? =some o
 |[],_,_,h=>by cases h
 |o::r,0,o',h=>h
 |o::r,n+1,o',h=>by
  simp only[sL] at h;simpa using JO h
end
section
variable {C:Ctx} {n:Nat} {st:LS} {a:Act} {V:Vl} {D:Nat->Nat} {w:World} {P:Program} {p:bX} {c:Cfg} {ops:Array Oper} {L:Nat->Prop} {i:Nat} {o:Oper}
structure SX where
 h:HX
 nid:Nat
 vc:List Vc
 V:Vl
def SX.cl (C:Ctx) (x:SX) (w:World):Prop:=∃V' D',Agree x.nid x.vc x.V V' /\SatW C x.h.bx x.h.vc x.nid x.h.m V' D' w
structure SX.ok (C:Ctx) (st:LS) (V:Vl) (x:SX):Prop where
 step:Step x.nid x.vc st.nid st.vc x.V V
 hd:p8 ⟨[],[],x.h.bx,x.h.vc,x.nid,x.h.m⟩
 b:∀b∈C.H0.bx,b.id<x.nid
 v:∀b∈C.H0.vc,b.id<x.nid
 m:C.m0.le x.h.m
theorem Iq {L:List Nat}:∀{bx:List Bx},∀b∈gI L bx,b∈bx
 |[],_,h=>h
 |⟨k,t,cs⟩::r,b,h=>by
  simp only[gI] at h;split at h
  ·rcases List.mem_cons.1 h with rfl |h
   ·exact b6 ..
   ·exact bR _ (Iq b h)
  ·exact bR _ (Iq b h)
theorem SatW.pickW (h:SatW C st.bx st.vc st.nid st.m V D w) (ks:List Nat):SatW C (gI ks st.bx) (fY ks st.vc) st.nid st.m V D w:=by
 have nO:=(EG ks h.heap).app.1;have hv:∀b∈fY ks st.vc,b∈st.vc:=fun b hb=>(vY hb).1
 have hb:∀b∈gI ks st.bx,b∈st.bx:=fun b hb=>Iq b hb
 have Hh:∀{k u:Nat},cG st.vc k u->cG (fY ks st.vc) k u:=fun{k u} hh=>(zL nO.uniq).2 fun x hx e=>(zL h.heap.uniq).1 hh x (hv x hx) e
 have akM:∀s:SV,mf st.nid st.vc s->mf st.nid (fY ks st.vc) s:=fun s hs=>by
  cases s<;>first |exact hs |exact⟨hs.1,Hh hs.2⟩
 have akK:∀l:List SV,fO st.nid st.vc l->fO st.nid (fY ks st.vc) l:=fun l=>by
  induction l with
  |nil=>exact id
  |cons s r ih=>exact fun hs=>⟨akM s hs.1,ih hs.2⟩
 exact⟨nO,h.wf,h.frm,fun g hg=>h.own g (Ft hb hv g hg),h.baseB,fun b fe=>⟨(h.baseV b fe).1,(h.baseV b fe).2.1,Hh (h.baseV b fe).2.2⟩,
  ⟨fun b fe=>⟨(h.ids.1 b (hb b fe)).1,akK _ (h.ids.1 b (hb b fe)).2⟩,fun b fe=>h.ids.2 b (hv b fe)⟩,h.le0,h.m0,h.mle⟩
theorem RX {nid:Nat} {vc:List Vc}:∀{bx:List Bx},(∀b∈bx,b.id<nid/\fO nid vc b.cs)->AP nid vc bx
 |[],_=>trivial
 |⟨k,t,cs⟩::r,h=>⟨(h ⟨k,t,cs⟩ (b6 ..)).1,(h ⟨k,t,cs⟩ (b6 ..)).2,RX fun b hb=>h b (bR _ hb)⟩
theorem RW {nid:Nat}:∀{vc:List Vc},(∀b∈vc,b.id<nid)->AO nid vc
 |[],_=>trivial
 |⟨k,_,_,_,_,_⟩::r,h=>⟨h _ (b6 ..),RW fun b hb=>h b (bR _ hb)⟩
theorem Zu (hS:Sat C n st a V D w) (hR:RInv ops L st.rho) (pr:¬L i) (iP:ops[i]? =some o) (hd:nA n o=true) (Db:pathOf st o.guard=some p) {K:LS->HX->Prop} (h:jf (.mk (k:=(c,P,o,i,K)) (st,p))):
  ∃(v:Value) (x:SX) (ak:LS),x.h.i=i/\YW P ops (x.cl C) o v a/\x.cl C w/\x.ok C ak V/\ak.nid=st.nid/\ak.vc=st.vc/\K ak x.h/\Sat C n ak (a.put o.dst v) V D w/\RInv ops (fun k=>L k\/k=i) ak.rho:=by
 obtain⟨hp,hw⟩:=Ir hS hR Db;have UK:∀ks,p8 ⟨[],[],gI ks st.bx,fY ks st.vc,st.nid,st.m⟩:=fun ks=>by
  have:=(hS.w.pickW ks).ids;exact⟨trivial,RX this.1,RW this.2⟩
 have hB:∀b∈C.H0.bx,b.id<st.nid:=fun b hb=>(hS.w.baseB b hb).2
 have hV:∀b∈C.H0.vc,b.id<st.nid:=fun b hb=>(hS.w.baseV b hb).2.1
 simp only[jf] at h;unfold GK at h;split at h
 ·rename_i ks q;simp only[A.mk.injEq,Prod.mk.injEq] at q;obtain⟨hq,hdead,hit,_⟩:=q;have hc:=E4 hdead;obtain⟨h1,h2⟩:=KV hS hR pr iP hd hit hp hc (oP o.op);have cu:=hS.w.pickW [];have e1:gI [] st.bx=[]:=by
   generalize st.bx=l
   induction l with
   |nil=>rfl
   |cons x r ih=>obtain⟨_,_,_⟩:=x;simp only[gI,List.contains_nil,Bool.false_eq_true,if_false];exact ih
  have e2:fY [] st.vc=[]:=by
   generalize st.vc=l
   induction l with
   |nil=>rfl
   |cons x r ih=>obtain⟨_,_,_,_,_,_⟩:=x;simp only[fY,List.contains_nil,Bool.false_eq_true,if_false];exact ih
  rw[e1,e2] at cu;have hh:=UK [];rw[e1,e2] at hh;refine⟨undef,⟨⟨i,[],[],st.m⟩,st.nid,st.vc,V⟩,_,rfl,.inr ⟨by rw[hw];exact hc,rfl⟩,⟨V,D,Agree.refl _ _ _,cu⟩,⟨Step.same zH.1 zH.2 V,hh,hB,hV,hS.w.m0⟩,zH.1,zH.2,h,h1,h2⟩
 ·rename_i ks q;simp only[A.mk.injEq,Prod.mk.injEq] at q;obtain⟨hq,hdead,hit,hks⟩:=q;obtain⟨s,⟨hs,hK⟩,hdet⟩:=RF _ h;have se:∀e∈st.env,jA st.nid st.vc e.s:=hS.ids;have Hh:∀{k u:Nat},cG st.vc k u->cG (fY ks st.vc) k u:=fun{k u} hh=>
   (zL (hS.w.pickW ks).heap.uniq).2 fun x hx e=>(zL hS.w.heap.uniq).1 hh x (vY hx).1 e
  have CT:∀{V' :Vl} {D' :Nat->Nat} {w' :World},Agree st.nid st.vc V V' ->SatW C (gI ks st.bx) (fY ks st.vc) st.nid st.m V' D' w' ->
    Sat C n ⟨st.env,st.rho,gI ks st.bx,fY ks st.vc,st.nid,st.m⟩ a V' D' w' :=fun ha hW=>
   ⟨hS.f.agree se ha,fun e he=>Qi (av _) (fun k u _ hh=>Hh hh) (se e he),hW⟩
  have dJ:∀w',(SX.cl C ⟨⟨i,gI ks st.bx,fY ks st.vc,st.m⟩,st.nid,st.vc,V⟩ w')->cI st.rho p=true->(execOp a.eval o).run P w' = .ok (.value (den V s)) w' :=by
   rintro w' ⟨V',D',ha,hW⟩ hc;obtain⟨s',e,hr⟩:=IF (CT ha hW) hp (o:=o) rfl hdet;subst e;rw[hr hc,E2 ha hs]
  refine⟨if cI st.rho p=true then den V s else undef,⟨⟨i,gI ks st.bx,fY ks st.vc,st.m⟩,st.nid,st.vc,V⟩,_,rfl,?_,⟨V,D,Agree.refl _ _ _,hS.w.pickW ks⟩,⟨Step.same zG.1 zG.2 V,UK ks,hB,hV,hS.w.m0⟩,zG.1,zG.2,hK,De hS hR pr iP hd hit hp hs rfl (oP o.op)⟩;cases hc:cI st.rho p with
  |true=>exact .inl ⟨by rw[hw];exact hc,fun w' Mj=>by simpa using dJ w' Mj hc⟩
  |false=>exact .inr ⟨by rw[hw];exact hc,by simp⟩
 ·cases h
theorem RO {st:LS}:∀{I:List HX},yO st I->∀x∈I,sK st x.bx/\sJ st x.vc/\ae x.m st.m
 |[],_,_,h=>by cases h
 |⟨_,_,_,_⟩::r,h,x,hx=>by
  rcases List.mem_cons.1 hx with rfl |hx
  ·exact⟨h.1,h.2.1,h.2.2.1⟩
  ·exact RO h.2.2.2 x hx
theorem IV {ow:List Nat}:∀{S:List SX},qE ow (S.map (·.h))=(S.filter fun x=>jr ow x.h.i).map (·.h)
 |[]=>rfl
 |x::r=>by
  obtain⟨⟨i,bx,vc,m⟩,nid,fh,V⟩:=x;simp only[bJ,qE,List.filter_cons];split
  ·rw[IV];rfl
  ·exact IV
theorem abu {ow:List Nat} {S:List SX}:(S.filter fun x=>jr ow x.h.i).map (·.h.i)=(S.map (·.h.i)).filter (jr ow):=by
 rw[List.filter_map];rfl
theorem Tj {st ak:LS} (e:ak.bx=st.bx):∀{l:List Bx},sK st l->sK ak l
 |[],_=>trivial
 |⟨_,_,_⟩::_,h=>⟨by rw[e];exact h.1,h.2.1,Tj e h.2.2⟩
theorem Ti {st ak:LS} (e:ak.vc=st.vc):∀{l:List Vc},sJ st l->sJ ak l
 |[],_=>trivial
 |⟨_,_,_,_,_,_⟩::_,h=>⟨by rw[e];exact h.1,h.2.1,Ti e h.2.2⟩
theorem SX.still {x:SX} (hx:x.ok C st V) (hS:Sat C n st a V D w) (h1:sK st x.h.bx) (h2:sJ st x.h.vc) (h3:ae x.h.m st.m):x.cl C w:=by
 have hF:Sat C n ⟨[],[],st.bx,st.vc,st.nid,st.m⟩ a V D w:=
  ⟨⟨hS.f.defers,hS.f.size,fun e he=>(by cases he),fun t q s _ hl _=>(by cases hl),fun g hg=>(by cases hg)⟩,fun e he=>(by cases he),hS.w⟩
 have hM:Match ⟨[],[],st.bx,st.vc,st.nid,st.m⟩ ⟨[],[],x.h.bx,x.h.vc,x.nid,x.h.m⟩:=by
  refine⟨trivial,rfl,?_,?_,h3⟩
  ·exact Tj (st:=st) (ak:=⟨[],[],st.bx,st.vc,st.nid,st.m⟩) rfl h1
  ·exact Ti (st:=st) (ak:=⟨[],[],st.bx,st.vc,st.nid,st.m⟩) rfl h2
 exact⟨V,D,hx.step.agr,(hF.weaken hM hx.hd hx.b hx.v hx.m).w⟩
theorem aeg (ei:dO c P) {l:List Oper} {K:LS->Prop} {Q:Exit->Act->World->Prop} {listed:Array Bool} {S:List SX} {j f:Nat} {ow:List Nat} {r:Plan} (GR:∀o∈l,nA n o=true)
  (hj:j∈Region.ready .any ⟨l⟩ listed) (hH:(S.map (·.h.i)).all (fun i=>jr ow i||wW ⟨l⟩ l.length j i)=true)
  (h:aQ (.mk (k:=fun o:Oper=>aQ (.mk (k:=fun p:bX=>one (.mk (k:=(c,P,j,o,fun ak=>yO ak (qE ow (S.map (·.h)))/\yq c P l K r (qE ow (S.map (·.h))) ak)) (st,p))) (pathOf st o.guard))) (sL l j)))
  (hS:Sat C n st a V D w) (hR:RInv ⟨l⟩ (fun k=>listed.getD k false=true) st.rho) (hX:∀x∈S,x.ok C st V/\x.cl C w)
  (ih:∀ak a' V' D' w',yq c P l K r ((S.filter fun x=>jr ow x.h.i).map (·.h)) ak->Sat C n ak a' V' D' w' ->RInv ⟨l⟩ (fun k=>(listed.setIfInBounds j true).getD k false=true) ak.rho->
   (∀x∈S.filter (fun x=>jr ow x.h.i),x.ok C ak V' /\x.cl C w')->rJ P ⟨l⟩ Q f (fun y=>∃x∈S.filter (fun x=>jr ow x.h.i),y=(x.h.i,x.cl C)) (listed.setIfInBounds j true) a' w'):
  wpOp P ⟨l⟩ Q j (fun a' w' =>(∀y,(∃x∈S,y=(x.h.i,x.cl C))->¬qm ⟨l⟩ j y.1->y.2 w')/\rJ P ⟨l⟩ Q f (fun y=>(∃x∈S,y=(x.h.i,x.cl C))/\¬qm ⟨l⟩ j y.1) (listed.setIfInBounds j true) a' w') a w:=by
 obtain⟨o,ho,h⟩:=aO h;obtain⟨p,hp,h⟩:=aO h;have za:l[j]? =some o:=JO ho;have iP:(⟨l⟩:Array Oper)[j]? =some o:=by simpa using za
 have Bc:=I9 (mem_ready.1 hj).1;have AY:∀x∈S,¬qm ⟨l⟩ j x.h.i->jr ow x.h.i=true:=fun x hx iQ=>by
  have:=List.all_eq_true.1 hH x.h.i (List.mem_map.2 ⟨x,hx,rfl⟩);rcases Bool.or_eq_true_iff.1 this with h |h
  ·exact h
  ·exact absurd ⟨_,h⟩ iQ
 unfold wpOp;simp only[iP];refine OR hS ei hR (by rw[Bc];exact Bool.false_ne_true) iP (GR o (List.mem_of_getElem? za)) hp h fun ak a' V' D' w' ⟨VE,hK⟩ gF vN jf=> ?_
 rw[IV] at VE hK;have Hu:∀x∈S.filter (fun x=>jr ow x.h.i),x.ok C ak V' /\x.cl C w' :=fun x hx=>by
  have DR:=(hX x (List.mem_filter.1 hx).1).1;have au:x.ok C ak V' :=⟨DR.step.trans jf,DR.hd,DR.b,DR.v,DR.m⟩;obtain⟨h1,h2,h3⟩:=RO VE x.h (List.mem_map.2 ⟨x,hx,rfl⟩);exact⟨au,SX.still au gF h1 h2 h3⟩
 refine⟨?_,Bt _ _ _ ?_ _ _ _ (ih ak a' V' D' w' hK gF (vN.mono fun k hk=> ?_) Hu)⟩
 ·rintro y ⟨x,hx,rfl⟩ iQ;exact(Hu x (List.mem_filter.2 ⟨hx,AY x hx iQ⟩)).2
 ·rintro y ⟨⟨x,hx,rfl⟩,iQ⟩;exact⟨x,List.mem_filter.2 ⟨hx,AY x hx iQ⟩,rfl⟩
 ·rcases hk with hk |rfl
  ·exact getD_set_true hk
  ·exact Rq (PZ hj)
theorem X6 (ei:dO c P) {l:List Oper} {K:LS->Prop} {Q:Exit->Act->World->Prop} (hQ0:∀c a w,¬Q (.panic c) a w) (hQ:∀ak a' w',K ak->kp C n ak a' w' ->Q .normal a' w')
  (GL:Region.noSelect ⟨l⟩=true) (GR:∀o∈l,nA n o=true):
  ∀(pl:Plan) (fuel:Nat) (listed:Array Bool) (rem:Option (List Nat)) (st:LS) (a:Act) (V:Vl) (D:Nat->Nat) (w:World) (S:List SX),
   mu ⟨l⟩ pl fuel (S.map (·.h.i)) listed rem=true->AllClosed ⟨l⟩ listed->yq c P l K pl (S.map (·.h)) st->Sat C n st a V D w->RInv ⟨l⟩ (fun k=>listed.getD k false=true) st.rho->(∀x∈S,x.ok C st V/\x.cl C w)->
   match rem with
   |none=>rJ P ⟨l⟩ Q fuel (fun y=>∃x∈S,y=(x.h.i,x.cl C)) listed a w
   |some R=>∀f,fuel=f+1->∀j∈R,wpOp P ⟨l⟩ Q j (fun a' w' =>(∀y,(∃x∈S,y=(x.h.i,x.cl C))->¬qm ⟨l⟩ j y.1->y.2 w')/\rJ P ⟨l⟩ Q f (fun y=>(∃x∈S,y=(x.h.i,x.cl C))/\¬qm ⟨l⟩ j y.1) (listed.setIfInBounds j true) a' w') a w:=by
 intro pl;induction pl with
 |done=>
  intro fuel listed rem st a V D w S hc cu h hS hR hX;cases rem with
  |some R=>simp [mu] at hc
  |none=>
   simp only[mu,List.isEmpty_iff] at hc;have hq:=hQ _ _ _ h (Ie hS);cases fuel with
   |zero=>exact⟨hc,hq⟩
   |succ f=>exact⟨fun _=>hq,by rw[hc];intro j hj;cases hj⟩
 |stop=>
  intro fuel listed rem st a V D w S hc cu h hS hR hX;cases rem with
  |none=>simp [mu] at hc
  |some R=>
   simp only[mu,List.isEmpty_iff] at hc;subst hc;intro f _ j hj;cases hj
 |hoist i r ih=>
  intro fuel listed rem st a V D w S hc cu h hS hR hX;cases rem with
  |some R=>cases fuel<;>simp [mu] at hc
  |none=>
   cases fuel with
   |zero=>simp [mu] at hc
   |succ f=>
    simp only[mu,aG] at hc;obtain⟨⟨Gu,bW⟩,hc⟩:=hc;have bW:i∈Region.ready .any ⟨l⟩ listed:=by simpa using bW
    obtain⟨o,ho,h⟩:=aO h;obtain⟨p,hp,h⟩:=aO h;have za:l[i]? =some o:=JO ho;have iP:(⟨l⟩:Array Oper)[i]? =some o:=by simpa using za
    have Bc:=I9 (mem_ready.1 bW).1;obtain⟨v,x,ak,hxi,hy,hclw,au,hn,hv,hK,gF,vN⟩:=Zu hS hR (by rw[Bc];exact Bool.false_ne_true) iP (GR o (List.mem_of_getElem? za)) hp h;refine hoist iP (Region.noSelect_spec GL) hQ0 f _ listed a w (Region.free_spec iP Gu) (cu i) bW hy hclw ?_ ?_
    ·rintro y ⟨z,hz,rfl⟩;exact(hX z hz).2
    ·have:=ih f (listed.setIfInBounds i true) none ak (a.put o.dst v) V D w (x::S) (by simp only[bJ,hxi];exact hc) (cu.set bW) hK gF (vN.mono fun k hk=>by
      rcases hk with hk |rfl
      ·exact getD_set_true hk
      ·exact Rq (PZ bW)) (fun z hz=>by
      rcases List.mem_cons.1 hz with rfl |hz
      ·exact⟨au,hclw⟩
      ·obtain⟨h1,h2⟩:=hX z hz
       exact⟨⟨by rw[hn,hv];exact h1.step,h1.hd,h1.b,h1.v,h1.m⟩,h2⟩)
     refine Bt _ _ _ ?_ _ _ _ this;rintro y (rfl |⟨z,hz,rfl⟩)
     ·exact⟨x,b6 ..,by rw[hxi]⟩
     ·exact⟨z,bR _ hz,rfl⟩
 |alt j ow r nx ihr ihn=>
  intro fuel listed rem st a V D w S hc cu h hS hR hX;cases fuel with
  |zero=>cases rem<;>simp [mu] at hc
  |succ f=>
   obtain⟨h,sR⟩:=h;have key:∀(hj:j∈Region.ready .any ⟨l⟩ listed) (hH:(S.map (·.h.i)).all (fun i=>jr ow i||wW ⟨l⟩ l.length j i)=true) (MA:mu ⟨l⟩ r f ((S.map (·.h.i)).filter (jr ow)) (listed.setIfInBounds j true) none=true),
     wpOp P ⟨l⟩ Q j (fun a' w' =>(∀y,(∃x∈S,y=(x.h.i,x.cl C))->¬qm ⟨l⟩ j y.1->y.2 w')/\rJ P ⟨l⟩ Q f (fun y=>(∃x∈S,y=(x.h.i,x.cl C))/\¬qm ⟨l⟩ j y.1) (listed.setIfInBounds j true) a' w') a w:=by
    intro hj hH MA;refine aeg ei GR hj hH h hS hR hX fun ak a' V' D' w' hK gF vN Hu=> ?_
    exact ihr f (listed.setIfInBounds j true) none ak a' V' D' w' (S.filter fun x=>jr ow x.h.i) (by rw[abu];exact MA) (cu.set hj) hK gF vN Hu
   cases rem with
   |none=>
    simp only[mu,aG] at hc;obtain⟨⟨⟨h1,h2⟩,h3⟩,h4⟩:=hc;have hj:j∈Region.ready .any ⟨l⟩ listed:=by simpa using h1
    have wE:=ihn (f+1) listed (some _) st a V D w S h4 cu sR hS hR hX f rfl;refine⟨fun h0=>(by rw[h0] at hj;cases hj),fun k hk=> ?_⟩;by_cases e:k=j
    ·subst e;exact key hj h2 h3
    ·exact wE k (List.mem_filter.2 ⟨hk,by simpa using e⟩)
   |some R=>
    simp only[mu,aG] at hc;obtain⟨⟨⟨⟨h0,h1⟩,h2⟩,h3⟩,h4⟩:=hc;have hj:j∈Region.ready .any ⟨l⟩ listed:=by simpa using h1
    have wE:=ihn (f+1) listed (some _) st a V D w S h4 cu sR hS hR hX f rfl;rintro f' e k hk;obtain rfl:f=f' :=Nat.succ.inj e;by_cases e:k=j
    ·subst e;exact key hj h2 h3
    ·exact wE k (List.mem_filter.2 ⟨hk,by simpa using e⟩)
theorem bO (pl:Plan) (ei:dO c P) {id:Nat} {l:List Oper} {Q:Exit->LS->Prop} {st:LS} (hm:P.follows .mixedOrders=true)
  (hc:(mu ⟨l⟩ pl l.length [] (Array.replicate l.length false) none&&Region.noSelect ⟨l⟩&&l.all (nA n))=true)
  (h:xa (.mk (k:=(c,P,l,Q .normal,pl,[])) st)):kA (.mk (k:=(P,n,.region id ⟨l⟩ true,Q)) st):=by
 simp only[aG] at hc;obtain⟨⟨hc,hns⟩,hd⟩:=hc;rintro C a w ⟨gN,V,D,hS⟩;refine wp_mono (Q:=fun e a' w' =>match e with | .normal=>∃ak,kp C n ak a' w' /\Q .normal ak |_=>False) (wp_region_any hm (ND _ (fun y=>∃x∈([]:List SX),y=(x.h.i,x.cl C)) _ _ _ ?_)) ?_
 ·refine X6 ei (K:=Q .normal) (fun _ _ _ h=>h) (fun ak a' w' hq hE=>⟨ak,hE,hq⟩) hns (fun o ho=>List.all_eq_true.1 hd o ho) pl l.length (Array.replicate l.length false) none st a V D _ [] hc ?_ h
   ⟨hS.f,hS.ids,hS.w.drew _⟩ ?_ (fun x hx=>by cases hx)
  ·intro i k hk;exfalso;rcases Nat.lt_or_ge k l.length with h' |h'
   ·simp [h'] at hk
   ·simp [Nat.not_lt.2 h'] at hk
  ·rw[gN];intro g hg;cases hg
 ·intro e a' w' hq;cases e with
  |normal=>exact hq
  |_=>exact False.elim hq
end
section
variable {c:Cfg} {P:Program} {l:List Oper} {K:LS->Prop} {I:List HX} {st:LS}
theorem Z0:xa (.mk (k:=(c,P,l,K,Plan.done,I)) st)=K (clean st):=rfl
theorem ZZ:xa (.mk (k:=(c,P,l,K,Plan.stop,I)) st)=True:=rfl
theorem YH {i:Nat} {r:Plan}:xa (.mk (k:=(c,P,l,K,Plan.hoist i r,I)) st)=
  aQ (.mk (k:=fun o:Oper=>aQ (.mk (k:=fun p:bX=>jf (.mk (k:=(c,P,o,i,fun ak X=>xa (.mk (k:=(c,P,l,K,r,X::I)) ak))) (st,p))) (pathOf st o.guard))) (sL l i)):=rfl
theorem acm {j:Nat} {ow:List Nat} {r nx:Plan}:xa (.mk (k:=(c,P,l,K,Plan.alt j ow r nx,I)) st)=
  (aQ (.mk (k:=fun o:Oper=>aQ (.mk (k:=fun p:bX=>one (.mk (k:=(c,P,j,o,fun ak=>yO ak (qE ow I)/\xa (.mk (k:=(c,P,l,K,r,qE ow I)) ak))) (st,p))) (pathOf st o.guard))) (sL l j))/\
   xa (.mk (k:=(c,P,l,K,nx,I)) st)):=rfl
end
theorem aeV {x:ByteArray}:(Value.string x).oneCell' =true:=rfl
theorem aeX {k:IntKind} {x:Int}:(Value.int k x).oneCell' =true:=rfl
theorem acW {x:Bool}:(Value.bool x).oneCell' =true:=rfl
theorem aeW {x:Option Addr}:(Value.pointer x).oneCell' =true:=rfl
theorem ag3 {x:Option Addr} {n c:Nat}:(Value.slice x n c).oneCell' =true:=rfl
attribute [go_sem] aeV aeX acW aeW ag3
attribute [go_sem] jf.eq_1 GK.eq_1 GK.eq_2 ym.eq_1 ym.eq_2 ym.rdIds1.eq_1 ym.rdIds1.eq_2 mK.eq_1 mK.eq_2 mK.eq_3 mK.eq_4 mK.eq_5 mK.eq_6 mK.eq_7 mK.eq_8 mK.eq_9 mK.eq_10 mK.eq_11 mK.eq_12 mK.eq_13 mK.eq_14 mK.eq_15 mK.eq_16 Z0 ZZ YH acm sL.eq_1 sL.eq_2 sL.eq_3 qE.eq_1 qE.eq_2 yO.eq_1 yO.eq_2
theorem least {J:Nat->Prop}:∀n,J n->∃k,J k/\∀j,j<k->¬J j:=by
 intro n;induction n using Nat.strongRecOn with
 |_ n ih=>
  intro h;by_cases hj:∃j,j<n/\J j
  ·obtain⟨j,aw,hJ⟩:=hj;exact ih j aw hJ
  ·exact⟨n,h,fun j aw hJ=>hj ⟨j,aw,hJ⟩⟩
section
variable {P:Program} {a:Act} {w:World} {Q:Exit->Act->World->Prop}
theorem Wx {c rest:Code} (l:Nat) (J:Nat->Act->World->Prop) (hf:findLabel c l=some rest) (first:c.wp P (Exit.jump l (fun a' w' =>∃k,J k a' w') Q) a w)
  (pass:∀k a w,J k a w->rest.wp P (Exit.jump l (fun a' w' =>∃k',k' <k/\J k' a' w') Q) a w):(Code.scope c).wp P Q a w:=by
 classical
 refine wp_scope_jumps l (fun a w=>∃k,J k a w) (fun a w=>if h:∃k,J k a w/\∀j,j<k->¬J j a w then Classical.choose h else 0) hf first ?_
 rintro a w ⟨k0,h0⟩;have hex:∃k,J k a w/\∀j,j<k->¬J j a w:=least k0 h0;obtain⟨h1,h2⟩:=Classical.choose_spec hex;refine wp_mono (pass _ a w h1) ?_;intro e a' w' hq;cases e with
 |goto l' =>
  obtain⟨rfl,k',aw,hk⟩:=hq;refine⟨rfl,⟨k',hk⟩,?_⟩;have yz:∃k,J k a' w' /\∀j,j<k->¬J j a' w' :=least k' hk;simp only[dif_pos hex,dif_pos yz];rcases Nat.lt_or_ge (Classical.choose yz) (Classical.choose hex) with h |h
  ·exact h
  ·exact absurd hk ((Classical.choose_spec yz).2 k' (eP aw h))
 |_=>exact hq
end
section
variable {P:Program} {n:Nat} {c:Cfg} {st:LS}
theorem ab6 (ei:dO c P) {body rest:Code} {l:Nat} {Q:Exit->LS->Prop} {X:Type} (S:X->LS) (I:X->Prop) (μ:X->Nat) (hf:findLabel body l=some rest)
  (vM:jo n rest=true) (hn:∀x,I x->st.nid<=(S x).nid) (hm:∀x,I x->ae st.m (S x).m) (au:∀x,p8 (S x))
  (first:WP P n body (C6 l (fun ak=>∃x',Match ak (S x')/\I x') Q) st)
  (pass:∀x,I x->ed (.mk (k:=(c,P,n,rest,C6 l (fun ak=>∃x',Match ak (S x')/\I x' /\μ x' <μ x) Q)) (S x))):kA (.mk (k:=(P,n,.scope body,Q)) st):=by
 rintro C a w ⟨gN,V,D,hS⟩;have hB:∀b∈C.H0.bx,b.id<st.nid:=fun b hb=>(hS.w.baseB b hb).2
 have hV:∀b∈C.H0.vc,b.id<st.nid:=fun b hb=>(hS.w.baseV b hb).2.1
 have DY:∀x,I x->C.m0.le (S x).m:=fun x hx=>by
  rcases hm x hx with e |h
  ·rw[<- e];exact hS.w.m0
  ·exact Mem.le_trans hS.w.m0 h
 have wJ:∀(mb:LS) (a1:Act) (w1:World) (x:X),kp C n mb a1 w1->Match mb (S x)->I x->kp C n (S x) a1 w1:=by
  rintro mb a1 w1 x ⟨_,V1,D1,hS1⟩ hM hx;exact⟨hM.2.1,V1,D1,hS1.weaken hM (au x) (fun b hb=>eP (hB b hb) (hn x hx)) (fun b hb=>eP (hV b hb) (hn x hx)) (DY x hx)⟩
 refine Wx l (fun k a w=>∃x,I x/\μ x=k/\kp C n (S x) a w) hf ?_ ?_
 ·refine wp_mono (first C a w ⟨gN,V,D,hS⟩) ?_;rintro e a2 w2 ⟨cD,cA,hq⟩;cases e with
  |goto l' =>
   obtain⟨rfl,x',hM,bP⟩:=hq;exact⟨rfl,μ x',x',bP,rfl,wJ _ _ _ _ cA hM bP⟩
  |normal=>exact⟨cD,cA,hq⟩
  |exit id=>exact⟨cD,cA,hq⟩
  |ret=>exact⟨cD,cA,hq⟩
  |panic ch=>exact⟨cD,cA,hq⟩
  |outgrown=>exact⟨cD,cA,hq⟩
 ·rintro k a1 w1 ⟨x,hx,rfl,hE⟩;refine wp_mono (rz ei vM (pass x hx) C a1 w1 hE) ?_;rintro e a2 w2 ⟨cD,cA,hq⟩;cases e with
  |goto l' =>
   obtain⟨rfl,x',hM,bP,aw⟩:=hq;exact⟨rfl,μ x',aw,x',bP,rfl,wJ _ _ _ _ cA hM bP⟩
  |normal=>exact⟨cD,cA,hq⟩
  |exit id=>exact⟨cD,cA,hq⟩
  |ret=>exact⟨cD,cA,hq⟩
  |panic ch=>exact⟨cD,cA,hq⟩
  |outgrown=>exact⟨cD,cA,hq⟩
def Mb (Q:Exit->LS->Prop):Exit->LS->Prop
 | .goto _,_=>False
 |e,st=>Q e st
theorem ZR (ei:dO c P) {body:Code} {Q:Exit->LS->Prop} (hd:jo n body=true) (h:ed (.mk (k:=(c,P,n,body,Mb Q)) st)):kA (.mk (k:=(P,n,.scope body,Q)) st):=by
 intro C a w hE;refine wp_scope_straight (wp_mono (rz ei hd h C a w hE) ?_);rintro e a2 w2 ⟨cD,cA,hq⟩;cases e with
 |goto l=>exact hq.elim
 |normal=>exact⟨cD,cA,hq⟩
 |exit id=>exact⟨cD,cA,hq⟩
 |ret=>exact⟨cD,cA,hq⟩
 |panic ch=>exact⟨cD,cA,hq⟩
 |outgrown=>exact⟨cD,cA,hq⟩
theorem ZQ (ei:dO c P) {rest:Code} {l:Nat} {Q:Exit->LS->Prop} {X:Type} (S:X->LS) (I:X->Prop) (μ:X->Nat) (x0:X)
  (hd:jo n rest=true) (hn:∀x,I x->st.nid<=(S x).nid) (hm:∀x,I x->ae st.m (S x).m) (au:∀x,p8 (S x)) (h0:Match st (S x0)) (hI:I x0)
  (pass:∀x,I x->ed (.mk (k:=(c,P,n,rest,C6 l (fun ak=>∃x',Match ak (S x')/\I x' /\μ x' <μ x) Q)) (S x))):kA (.mk (k:=(P,n,.scope (.seq (.label l) rest),Q)) st):=by
 have qY:jo n (.seq .skip rest)=true:=by simp only[jo,Bool.true_and];exact hd
 have xy:jo n (.seq (.label l) rest)=true:=by simp only[jo,Bool.true_and];exact hd
 refine ab6 ei S I μ (rest:= .seq .skip rest) (by simp [findLabel]) qY hn hm au ?_ pass;rintro C a w ⟨gN,V,D,hS⟩
 have hE:kp C n (S x0) a w:=⟨h0.2.1,V,D,hS.weaken h0 (au x0) (fun b hb=>eP (hS.w.baseB b hb).2 (hn x0 hI)) (fun b hb=>eP (hS.w.baseV b hb).2.1 (hn x0 hI)) (by
  rcases hm x0 hI with e |h
  ·rw[<- e];exact hS.w.m0
  ·exact Mem.le_trans hS.w.m0 h)⟩
 have hw:WP P n (.seq (.label l) rest) _ (S x0):=rz ei xy (pass x0 hI);refine(WP.mono hw ?_) C a w hE;intro e ak hq;cases e with
 |goto l' =>
  obtain⟨rfl,x',hM,bP,_⟩:=hq;exact⟨rfl,x',hM,bP⟩
 |_=>exact hq
theorem ab7 (ei:dO c P) {id:Nat} {body:Code} {K:LS->Prop} {Q:Exit->LS->Prop} {X Y:Type} (S:X->LS) (I:X->Prop) (μ:X->Nat) (x0:X) (E:Y->LS) (J:Y->Prop)
  (hd:jo n body=true) (hn:∀x,I x->st.nid<=(S x).nid) (hm:∀x,I x->ae st.m (S x).m) (au:∀x,p8 (S x)) (h0:Match st (S x0)) (hI:I x0)
  (VG:∀y,J y->st.nid<=(E y).nid) (hmE:∀y,J y->ae st.m (E y).m) (akL:∀y,p8 (E y)) (out:∀y,J y->K (E y))
  (round:∀x,I x->ed (.mk (k:=(c,P,n,body,kf (fun ak=>∃x',Match ak (S x')/\I x' /\μ x' <μ x) (qy id (kf (fun ak=>∃y,Match ak (E y)/\J y) Q)))) (S x))):
  kA (.mk (k:=(P,n,.loop body,qy id (kf K Q))) st):=by
 have hW:WP P n (.loop body) (qy id (kf (fun ak=>∃y,Match ak (E y)/\J y) Q)) st:=ew ei S I μ x0 hd hn hm au h0 hI round;rintro C a w ⟨gN,V,D,hS⟩;have hK:∀cD a2 w2,kp C n cD a2 w2->(∃y,Match cD (E y)/\J y)->∃ak,kp C n ak a2 w2/\K ak:=by
  rintro cD a2 w2 ⟨_,V2,D2,hS2⟩ ⟨y,hM,hy⟩;refine⟨E y,⟨hM.2.1,V2,D2,hS2.weaken hM (akL y) (fun b hb=>eP (hS.w.baseB b hb).2 (VG y hy)) (fun b hb=>eP (hS.w.baseV b hb).2.1 (VG y hy)) ?_⟩,out y hy⟩;rcases hmE y hy with e |h
  ·rw[<- e];exact hS.w.m0
  ·exact Mem.le_trans hS.w.m0 h
 refine wp_mono (hW C a w ⟨gN,V,D,hS⟩) ?_;rintro e a2 w2 ⟨cD,cA,hq⟩;cases e with
 |normal=>
  obtain⟨G3,h1,h2⟩:=hK cD a2 w2 cA hq;exact⟨G3,h1,h2⟩
 |exit id' =>
  simp only[qy] at hq;split at hq
  ·rename_i e;obtain⟨G3,h1,h2⟩:=hK cD a2 w2 cA hq;exact⟨G3,h1,by simp only[qy];rw[ah e];exact h2⟩
  ·rename_i e;exact⟨cD,cA,by simp only[qy];rw[af e];exact hq⟩
 |goto l=>exact⟨cD,cA,hq⟩
 |ret=>exact⟨cD,cA,hq⟩
 |panic ch=>exact⟨cD,cA,hq⟩
 |outgrown=>exact⟨cD,cA,hq⟩
theorem z7 {x:Code} {Q:Exit->LS->Prop} (t:Nat) (e:TypeId) (sz:Nat) (h0:0<sz) (hl:gi st.env t []=some (.v (.slice none 0 0)))
  (h:kA (.mk (k:=(P,n,x,Q)) ⟨⟨t,[],.vec st.nid 0⟩::st.env,st.rho,st.bx,⟨st.nid,0,e,sz,0,[]⟩::st.vc,st.nid+1,st.m⟩)):kA (.mk (k:=(P,n,x,Q)) st):=by
 rintro C a w ⟨gN,V,D,hS⟩;obtain⟨V',ha,hγ,hW⟩:=hS.w.addVc (w' :=w) (hd:=⟨none,0,0⟩) (e:=e) (sz:=sz) (n:=0) (xs:=[]) rfl rfl rfl (av _) (fun _ _=>rfl) (World.ownsRow_nil w 0 e sz) (fun g hg=>by cases hg) h0 (fun u hu=>by cases hu);have gF:Sat C n _ a V' D w:=hS.to ha (Nat.le_succ _) (fun k u hk hv=>uE rfl k u hk hv) hW;refine h C a w ⟨gN,V',D,⟨gF.f.defers,gF.f.size,fun e' sV=> ?_,fun t' q s' hq lu hc=> ?_,gF.f.rho⟩,fun e' sV=> ?_,hW⟩
 ·rcases List.mem_cons.1 sV with rfl |sV
  ·exact rG
  ·exact gF.f.pth e' sV
 ·simp only[gi] at lu;split at lu
  ·rename_i ht;subst ht;split at lu
   ·cases lu;have:=hS.f.env t [] _ rG hl rfl;rw[this];show some (Value.slice none 0 0)=some (Hd.val (V'.γ st.nid 0));rw[hγ];rfl
   ·cases lu
  ·exact gF.f.env t' q s' hq lu hc
 ·rcases List.mem_cons.1 sV with rfl |sV
  ·exact⟨Nat.lt_succ_self _,by simp [cG]⟩
  ·exact gF.ids e' sV
end
attribute [go_sem] Mb.eq_1 Mb.eq_2
end Go.Proofs.YtimddhkipjedcaaGreatDoor.E
namespace Go.Proofs
open Go.Shelf
def Tryz.lays137_ren:Go.Shelf.Ren:=⟨fun |137=>183 |217=>222 |266=>244 |n=>n,fun |9=>9 |5=>5 |3=>3 |n=>n,fun |n=>n⟩
theorem Tryz.lays137:Go.Proofs.Lays.n137 Tryz.prog Tryz.lays137_ren:={
 mixed:=by kernel_rfl
 f137:=Tryz.func183.trans (congrArg some (by kernel_rfl))
 f217:=Tryz.func222.trans (congrArg some (by kernel_rfl))
 f266:=Tryz.func244.trans (congrArg some (by kernel_rfl))
 t3:=Tryz.underlying3
 a3:=Tryz.isAgg3
 z3:=Tryz.sizeOf3
 v3:=Tryz.zeroValue3
 t5:=Tryz.underlying5
 a5:=Tryz.isAgg5
 z5:=Tryz.sizeOf5
 v5:=Tryz.zeroValue5
 t9:=Tryz.underlying9
 a9:=Tryz.isAgg9
 z9:=Tryz.sizeOf9
 v9:=Tryz.zeroValue9}
open Go.RowKit in
theorem Tryz.strings_IndexByte (s:ByteArray) (c:Int) (w:World):
  Calls Tryz.prog 183 #[.string s,.int .u8 c] w fun e w' =>e= .returned (.int .i64 (Lib.indexByte s.data.toList c.toNat.toUInt8))/\w' =w:=Any.strings_IndexByte Tryz.lays137 s c w
def Tryz.lays155_ren:Go.Shelf.Ren:=⟨fun |155=>224 |154=>245 |138=>254 |165=>255 |143=>248 |166=>256 |197=>257 |169=>258 |195=>267 |218=>268 |240=>269 |241=>270 |219=>264 |260=>271 |276=>280 |277=>281 |217=>222 |225=>277 |224=>278 |267=>279 |266=>244 |314=>283 |n=>n,fun |9=>9 |3=>3 |4=>4 |72=>210 |0=>0 |76=>212 |105=>214 |21=>21 |5=>5 |70=>208 |20=>20 |37=>83 |75=>195 |127=>225 |164=>230 |46=>220 |119=>233 |139=>236 |138=>235 |146=>241 |51=>240 |80=>85 |n=>n,fun |1=>1 |3=>4 |4=>5 |n=>n⟩
theorem Tryz.lays155:Go.Proofs.Lays.n155 Tryz.prog Tryz.lays155_ren:={
 mixed:=by kernel_rfl
 f138:=Tryz.func254.trans (congrArg some (by kernel_rfl))
 f143:=Tryz.func248.trans (congrArg some (by kernel_rfl))
 f154:=Tryz.func245.trans (congrArg some (by kernel_rfl))
 f155:=Tryz.func224.trans (congrArg some (by kernel_rfl))
 f165:=Tryz.func255.trans (congrArg some (by kernel_rfl))
 f166:=Tryz.func256.trans (congrArg some (by kernel_rfl))
 f169:=Tryz.func258.trans (congrArg some (by kernel_rfl))
 f195:=Tryz.func267.trans (congrArg some (by kernel_rfl))
 f197:=Tryz.func257.trans (congrArg some (by kernel_rfl))
 f217:=Tryz.func222.trans (congrArg some (by kernel_rfl))
 f218:=Tryz.func268.trans (congrArg some (by kernel_rfl))
 f219:=Tryz.func264.trans (congrArg some (by kernel_rfl))
 f224:=Tryz.func278.trans (congrArg some (by kernel_rfl))
 f225:=Tryz.func277.trans (congrArg some (by kernel_rfl))
 f240:=Tryz.func269.trans (congrArg some (by kernel_rfl))
 f241:=Tryz.func270.trans (congrArg some (by kernel_rfl))
 f260:=Tryz.func271.trans (congrArg some (by kernel_rfl))
 f266:=Tryz.func244.trans (congrArg some (by kernel_rfl))
 f267:=Tryz.func279.trans (congrArg some (by kernel_rfl))
 f276:=Tryz.func280.trans (congrArg some (by kernel_rfl))
 f277:=Tryz.func281.trans (congrArg some (by kernel_rfl))
 f314:=Tryz.func283.trans (congrArg some (by kernel_rfl))
 t0:=Tryz.underlying0
 a0:=Tryz.isAgg0
 z0:=Tryz.sizeOf0
 v0:=Tryz.zeroValue0
 t3:=Tryz.underlying3
 a3:=Tryz.isAgg3
 z3:=Tryz.sizeOf3
 v3:=Tryz.zeroValue3
 t4:=Tryz.underlying4
 a4:=Tryz.isAgg4
 z4:=Tryz.sizeOf4
 v4:=Tryz.zeroValue4
 t5:=Tryz.underlying5
 a5:=Tryz.isAgg5
 z5:=Tryz.sizeOf5
 v5:=Tryz.zeroValue5
 t9:=Tryz.underlying9
 a9:=Tryz.isAgg9
 z9:=Tryz.sizeOf9
 v9:=Tryz.zeroValue9
 t20:=Tryz.underlying20
 a20:=Tryz.isAgg20
 z20:=Tryz.sizeOf20
 v20:=Tryz.zeroValue20
 t21:=Tryz.underlying21
 a21:=Tryz.isAgg21
 z21:=Tryz.sizeOf21
 v21:=Tryz.zeroValue21
 t37:=Tryz.underlying83
 a37:=Tryz.isAgg83
 z37:=Tryz.sizeOf83
 v37:=Tryz.zeroValue83
 t46:=Tryz.underlying220
 a46:=Tryz.isAgg220
 z46:=Tryz.sizeOf220
 v46:=Tryz.zeroValue220
 t51:=Tryz.underlying240
 a51:=Tryz.isAgg240
 z51:=Tryz.sizeOf240
 v51:=Tryz.zeroValue240
 t70:=Tryz.underlying208
 a70:=Tryz.isAgg208
 z70:=Tryz.sizeOf208
 v70:=Tryz.zeroValue208
 t72:=Tryz.underlying210
 a72:=Tryz.isAgg210
 z72:=Tryz.sizeOf210
 v72:=Tryz.zeroValue210
 t75:=Tryz.underlying195
 a75:=Tryz.isAgg195
 z75:=Tryz.sizeOf195
 v75:=Tryz.zeroValue195
 t76:=Tryz.underlying212
 a76:=Tryz.isAgg212
 z76:=Tryz.sizeOf212
 v76:=Tryz.zeroValue212
 t105:=Tryz.underlying214
 a105:=Tryz.isAgg214
 z105:=Tryz.sizeOf214
 v105:=Tryz.zeroValue214
 t119:=Tryz.underlying233
 a119:=Tryz.isAgg233
 z119:=Tryz.sizeOf233
 t127:=Tryz.underlying225
 a127:=Tryz.isAgg225
 z127:=Tryz.sizeOf225
 v127:=Tryz.zeroValue225
 t138:=Tryz.underlying235
 a138:=Tryz.isAgg235
 z138:=Tryz.sizeOf235
 v138:=Tryz.zeroValue235
 t139:=Tryz.underlying236
 a139:=Tryz.isAgg236
 z139:=Tryz.sizeOf236
 v139:=Tryz.zeroValue236
 t146:=Tryz.underlying241
 a146:=Tryz.isAgg241
 z146:=Tryz.sizeOf241
 v146:=Tryz.zeroValue241
 t164:=Tryz.underlying230
 a164:=Tryz.isAgg230
 z164:=Tryz.sizeOf230
 v164:=Tryz.zeroValue230
 g1:=by kernel_rfl
 g3:=by kernel_rfl
 g4:=by kernel_rfl}
theorem Tryz.Builder_Extra_155:Builder.Extra Tryz.prog Tryz.lays155_ren:={
 sizeBuilder:=by kernel_rfl
 liesBuilder:=by kernel_rfl
 t5:=Tryz.underlying5
 a5:=Tryz.isAgg5
 z5:=Tryz.sizeOf5
 v5:=Tryz.zeroValue5
 infoByte:=by kernel_rfl
 cellsByte:=by kernel_rfl
 sizeByte:=by kernel_rfl
 neB5:=by decide}
open Go.RowKit Go.Lib in
theorem Tryz.strings_ReplaceAll (s fb new:ByteArray) (m:Int) (w:World) (hs:s.size<4294967281) (hm:w.cell? ⟨1,0,none⟩=some (.int .i64 m)) (h1:1<=fb.size) (hlen:s.size+Lib.countB s fb * new.size<=140737488355328):
  Calls Tryz.prog 224 #[.string s,.string fb,.string new] w fun e w' =>
   e= .returned (.string ⟨(Lib.replaceAll s.data.toList fb.data.toList new.data.toList).toArray⟩)/\Below w.heap.size w w' :=Any.strings_ReplaceAll Tryz.lays155 Tryz.Builder_Extra_155 s fb new m w hs hm h1 hlen
def Tryz.lays144_ren:Go.Shelf.Ren:=⟨fun |144=>228 |143=>248 |219=>264 |217=>222 |225=>277 |224=>278 |267=>279 |266=>244 |314=>283 |n=>n,fun |9=>9 |4=>4 |3=>3 |5=>5 |46=>220 |146=>241 |51=>240 |n=>n,fun |1=>1 |n=>n⟩
theorem Tryz.lays144:Go.Proofs.Lays.n144 Tryz.prog Tryz.lays144_ren:={
 mixed:=by kernel_rfl
 f143:=Tryz.func248.trans (congrArg some (by kernel_rfl))
 f144:=Tryz.func228.trans (congrArg some (by kernel_rfl))
 f217:=Tryz.func222.trans (congrArg some (by kernel_rfl))
 f219:=Tryz.func264.trans (congrArg some (by kernel_rfl))
 f224:=Tryz.func278.trans (congrArg some (by kernel_rfl))
 f225:=Tryz.func277.trans (congrArg some (by kernel_rfl))
 f266:=Tryz.func244.trans (congrArg some (by kernel_rfl))
 f267:=Tryz.func279.trans (congrArg some (by kernel_rfl))
 f314:=Tryz.func283.trans (congrArg some (by kernel_rfl))
 t3:=Tryz.underlying3
 a3:=Tryz.isAgg3
 z3:=Tryz.sizeOf3
 v3:=Tryz.zeroValue3
 t4:=Tryz.underlying4
 a4:=Tryz.isAgg4
 z4:=Tryz.sizeOf4
 v4:=Tryz.zeroValue4
 t5:=Tryz.underlying5
 a5:=Tryz.isAgg5
 z5:=Tryz.sizeOf5
 v5:=Tryz.zeroValue5
 t9:=Tryz.underlying9
 a9:=Tryz.isAgg9
 z9:=Tryz.sizeOf9
 v9:=Tryz.zeroValue9
 t46:=Tryz.underlying220
 a46:=Tryz.isAgg220
 z46:=Tryz.sizeOf220
 v46:=Tryz.zeroValue220
 t51:=Tryz.underlying240
 a51:=Tryz.isAgg240
 z51:=Tryz.sizeOf240
 v51:=Tryz.zeroValue240
 t146:=Tryz.underlying241
 a146:=Tryz.isAgg241
 z146:=Tryz.sizeOf241
 v146:=Tryz.zeroValue241
 g1:=by kernel_rfl}
theorem Tryz.strings_Contains_one (s:ByteArray) (c:UInt8) (w:World):
  Calls Tryz.prog 228 #[.string s,.string ⟨#[c]⟩] w fun e w' =>e= .returned (.bool (decide (0<=Lib.indexByte s.data.toList c)))/\w' =w:=Any.strings_Contains_one Tryz.lays144 s c w
end Go.Proofs
namespace Go.Proofs.YtimddhkipjedcaaGreatDoor.E
open Go Go.RowKit
attribute [go_sem] or_true or_false true_or false_or dY exists_eq_left exists_eq_left' true_implies true_and and_true Bool.and_true Bool.true_and Bool.or_false Bool.false_or Bool.not_true Bool.not_false Bool.and_false Bool.false_and dW List.nil_append List.append_nil Qu Ay List.getElem?_cons_zero List.getElem?_cons_succ eq_self implies_true false_implies bu decide_eq_false_iff_not aG Bool.or_eq_true Bool.not_eq_true' Bool.and_eq_false_iff Bool.or_eq_false_iff Bool.not_eq_false' SV.v.injEq Value.int.injEq Value.bool.injEq Value.string.injEq List.contains_cons List.contains_nil beq_self_eq_true Nat.max_def Int.toNat_natCast Nat.mul_one Int.toNat_zero List.drop_zero Bx.mk.injEq Vc.mk.injEq List.cons.injEq List.take_length List.getElem?_nil List.getD_cons_zero List.getD_cons_succ not_false_eq_true av Nat.reduceBEq Nat.reduceAdd Nat.reduceMul Nat.reduceSub Nat.reduceEqDiff Nat.reduceLT Nat.reduceLeDiff Option.map Option.bind List.map List.length reduceCtorEq Option.toList Option.getD List.set List.drop List.take Int.reduceToNat
def cf0:Cfg:=⟨fun _=>false,fun _=>none⟩
theorem qR {P:Program}:dO cf0 P:=fun f F h=>by cases h
def dX (c:Int):Bool:=decide (97<=c)&&decide (c<=122)||decide (65<=c)&&decide (c<=90)||decide (c=95)||decide (c=36)
def eI (c:Int):Bool:=decide (48<=c)&&decide (c<=57)
def vF (F:Int->Bool):List Value->Option (Prop×Value)
 |[.int .u8 c]=>some (True,.bool (F c))
 |_=>none
theorem Ji {F:Int->Bool} {l:List Value} {y:Prop×Value} (h:vF F l=some y):∃c,l=[.int .u8 c]/\y=(True,.bool (F c)):=by
 unfold vF at h;split at h
 ·cases h;exact⟨_,rfl,rfl⟩
 ·cases h
theorem alK:eU Tryz.prog 9=some none:=by kernel_rfl
theorem alN:eU Tryz.prog 3=some none:=by kernel_rfl
theorem aiY:Tryz.prog.underlying 9=some .string:=by kernel_rfl
attribute [go_sem] alK alN aiY vF.eq_1
theorem ahT:iU Tryz.prog 55=some 9:=by kernel_rfl
theorem sz9:bZ Tryz.prog 9=1:=by kernel_rfl
theorem by9:oD Tryz.prog 9=16:=by kernel_rfl
theorem af3:fC Tryz.prog 9=some [.v (.string (bs []))]:=by kernel_rfl
theorem sz3:bZ Tryz.prog 3=1:=by kernel_rfl
attribute [go_sem] ahT sz9 by9 af3 sz3
abbrev gY:Cfg:=gL (fun _=>false) []
theorem aB:dO gY Tryz.prog:=pure_nil
def strs (l:List (List UInt8)):List Value:=l.map fun b=> .string (bs b)
theorem Cu {m:Mem} {a:Option Addr} {n:Nat} {xs:List Value} (h:aX m a n 1 xs) {i:Nat} (hi:i<n):∃hx:i<xs.length,Rd m (cO a i) [xs[i]]/\a≠none:=by
 have hl:xs.length=n:=by rw[h.1,Nat.mul_one]
 refine⟨by omega,?_,?_⟩
 ·obtain⟨ad,rfl,hs,hc⟩:=h.2 (by omega);obtain⟨e1,e2,e3⟩:=mA ad i hs;refine⟨ad.add i,rfl,e3,fun j hj=> ?_⟩;obtain rfl:j=0:=by simp at hj;omega
  obtain⟨h1,h2⟩:=hc i (by omega);refine⟨?_,by rw[e1,e2];exact h2⟩;rw[show(ad.add i).add 0=ad.add i from rfl,h1];simp [hl,hi]
 ·obtain⟨ad,rfl,_⟩:=h.2 (by omega);simp
theorem PK {l:List (List UInt8)} {s:List UInt8} {k:Nat} (h:k<l.length):(l.take (k+1)).contains s=((l.take k).contains s||decide (s=l[k])):=by
 rw[List.take_succ_eq_append_getElem h,Bool.eq_iff_iff];simp only[List.contains_iff_mem,List.mem_append,List.mem_singleton,Bool.or_eq_true,bu]
theorem index_spec (l:List (List UInt8)) (s:List UInt8) (a:Option Addr) (n c:Nat) (m:Mem) (h:aX m a n 1 (strs l)) (hn:n<=4611686018427387904):
  FnH Tryz.prog 202 [.v (.slice a n c),.v (.string (bs s))] ⟨[],[]⟩ m fun r H' _=>(∃i:Int,r= .v (.int .i64 i)/\(decide (0<=i)=l.contains s))/\H' =⟨[],[]⟩:=by
 have hl:l.length=n:=by have:=h.1;simpa [strs] using this
 refine aR qR Tryz.func202 ?_
 ·simp only[go_sem];refine dA qR (fun k:Nat=>⟨[⟨0,[],.v (.slice a n c)⟩,⟨1,[],.v (.string (bs s))⟩,⟨7,[],.v (.int .i64 n)⟩,⟨8,[],.v (.int .i64 k)⟩],[],[],[],0,m⟩)
   (fun k=>k<=n/\(l.take k).contains s=false) (fun k=>n - k) 0 (fun _ _=>av _) (fun _ _=> .inl rfl) ?_ ?_ ?_
  ·simp only[go_sem];rfl
  ·simp
  ·rintro k ⟨hk,hp⟩;simp only[go_sem];refine⟨fun aw=> ?_,fun cg=> ?_⟩
   ·have Ms:k<n:=by omega
    obtain⟨hx,hr,db⟩:=Cu h Ms;refine⟨⟨by omega,aw,db⟩,_,by simpa using hr,?_⟩;have cF:k<l.length:=by omega
    have e:(strs l)[k]= .string (bs l[k]):=by simp [strs]
    have ec:=PK (s:=s) cF;simp only[e];simp only[go_sem];refine⟨fun he=> ?_,fun he=>⟨by unfold aF;omega,k+1,by omega,⟨by omega,?_⟩,by omega⟩⟩
    ·have:s∈l:=by rw[he];exact List.getElem_mem cF
     simp [this]
    ·rw[ec,hp];simp [he]
   ·have:l.take k=l:=fj (by omega);rw[this] at hp;rw[hp];rfl
theorem zy (l:List (List UInt8)) (s:List UInt8) (a:Option Addr) (n c:Nat) (m:Mem) (h:aX m a n 1 (strs l)) (hn:n<=4611686018427387904):
  FnH Tryz.prog 144 [.v (.slice a n c),.v (.string (bs s))] ⟨[],[]⟩ m fun r H' _=>r= .v (.bool (l.contains s))/\H' =⟨[],[]⟩:=by
 refine aR aB Tryz.func144 ?_
 ·simp only[go_sem];refine ab ((index_spec l s a n c m h hn).mono ?_);rintro r H' m' hm ⟨⟨i,rfl,hi⟩,rfl⟩;simp only[go_sem];exact hi
def gG:List (List UInt8):=[[97,98,115,116,114,97,99,116],[97,115],[99,97,116,99,104],[99,108,97,115,115],[101,108,115,101],[101,120,116,101,110,100,115],[102,105,110,97,108],[105,102],[105,109,112,108,101,109,101,110,116,115],[105,110,116],[105,110,116,101,114,102,97,99,101],[105,115],[108,101,110],[108,111,110,103],[110,101,119],[110,117,108,108],[112,114,105,118,97,116,101],[112,114,111,116,101,99,116,101,100],[112,117,98,108,105,99],[114,101,116,117,114,110],[115,116,97,116,105,99],[115,117,112,101,114],[115,121,110,99],[116,104,105,115],[116,104,114,111,119],[116,114,121],[118,111,105,100],[119,104,105,108,101]]
def ji:List (List UInt8):=[[62,62,62],[60,60],[62,62],[61,61],[33,61],[60,61],[62,61],[38,38],[124,124],[123],[125],[40],[41],[91],[93],[59],[44],[46],[61],[43],[45],[42],[47],[37],[38],[124],[94],[33],[60],[62]]
theorem HQ (m:Mem):FnH Tryz.prog 209 [] ⟨[],[]⟩ m fun r H' m' =>r= .vec 0 0/\H' =⟨[],[⟨0,0,9,1,28,strs gG⟩]⟩/\m' =m:=by
 refine aR aB Tryz.func209 ?_
 ·simp only[go_sem];rfl
theorem Wy (m:Mem):FnH Tryz.prog 227 [] ⟨[],[]⟩ m fun r H' m' =>r= .vec 0 0/\H' =⟨[],[⟨0,0,9,1,30,strs ji⟩]⟩/\m' =m:=by
 refine aR aB Tryz.func227 ?_
 ·simp only[go_sem];rfl
def ft (B:List UInt8->Prop) (F:List UInt8->Value):List Value->Option (Prop×Value)
 |[.string a]=>some (B (tl a),F (tl a))
 |_=>none
attribute [go_sem] ft.eq_1
def qH (P:Program) (f:FuncId) (G:List Value->Option (Prop×Value)):Prop:=∀fy y,G fy=some y->y.1->∀m,FnH P f (fy.map SV.v) ⟨[],[]⟩ m (fun r H' _=>r= .v y.2/\H' =⟨[],[]⟩)
theorem Kv {P:Program} {f:FuncId} {F:Int->Bool} (h:∀c m,FnH P f [.v (.int .u8 c)] ⟨[],[]⟩ m fun r H' _=>r= .v (.bool (F c))/\H' =⟨[],[]⟩):qH P f (vF F):=fun fy y hy _ m=>by
 obtain⟨c,rfl,rfl⟩:=Ji hy;exact h c m
theorem fL {P:Program} {f:FuncId} {B:List UInt8->Prop} {F:List UInt8->Value} (h:∀a m,B a->FnH P f [.v (.string (bs a))] ⟨[],[]⟩ m fun r H' _=>r= .v (F a)/\H' =⟨[],[]⟩):qH P f (ft B F):=fun fy y hy hB m=>by
 unfold ft at hy;split at hy
 ·rename_i a;cases hy;have:=h (tl a) m hB;rwa [kG] at this
 ·cases hy
def wm (c:Int):Int:=if dX c then 1 else if eI c then 2 else 0
theorem ZF (c:Int):wm c=if 97<=c/\c<=122\/65<=c/\c<=90\/c=95\/c=36 then 1 else if 48<=c/\c<=57 then 2 else 0:=by
 simp [wm,dX,eI,or_assoc]
theorem Yy (c:Int) (m:Mem):FnH Tryz.prog 229 [.v (.int .u8 c)] ⟨[],[]⟩ m fun r H' _=>r= .v (.int .i64 (wm c))/\H' =⟨[],[]⟩:=by
 refine aR aB Tryz.func229 ?_
 ·simp only[go_sem];rw[ZF];split
  ·omega
  ·split<;>omega
def G6 (F:Int->Value):List Value->Option (Prop×Value)
 |[.int .u8 c]=>some (True,F c)
 |_=>none
attribute [go_sem] G6.eq_1
theorem aeP {P:Program} {f:FuncId} {F:Int->Value} (h:∀c m,FnH P f [.v (.int .u8 c)] ⟨[],[]⟩ m fun r H' _=>r= .v (F c)/\H' =⟨[],[]⟩):qH P f (G6 F):=fun fy y hy _ m=>by
 unfold G6 at hy;split at hy
 ·cases hy;exact h _ m
 ·cases hy
theorem I3 (c:Int):wm c=1↔dX c=true:=by
 unfold wm;split
 ·simp_all
 ·split<;>simp_all
theorem Pu (c:Int):wm c=2↔¬dX c=true/\eI c=true:=by
 unfold wm;split
 ·simp_all
 ·split<;>simp_all
def eD:Bool->List UInt8->Bool
 |start,[]=> !start
 |start,c::r=>if c.toNat=47/\start=false then eD true r else if dX c.toNat=true\/(eI c.toNat=true/\start=false) then eD false r else false
def fK (s:List UInt8):Bool:=decide (s.length<=64)&&eD true s
abbrev Wm:Cfg:=gL (fun _=>false) [(229,G6 fun c=> .int .i64 (wm c))]
theorem Vh:dO Wm Tryz.prog:=pure_cons (by kernel_rfl) (aeP Yy) pure_nil
theorem drop_at {s:List UInt8} {k:Nat} (h:k<s.length):s.drop k=s.getD k 0::s.drop (k+1):=by
 rw[List.drop_eq_getElem_cons h,List.getD_eq_getElem?_getD,List.getElem?_eq_getElem h];rfl
theorem Ia (s:List UInt8) (m:Mem) (hs:s.length<=4611686018427387904):FnH Tryz.prog 192 [.v (.string (bs s))] ⟨[],[]⟩ m fun r H' _=>r= .v (.bool (fK s))/\H' =⟨[],[]⟩:=by
  refine enter Wm Vh Tryz.func192 rfl rfl (by kernel_rfl) rfl ?_ ?_
  · simp only[go_sem]
  · simp only[go_sem]
    refine⟨fun h=> ?_,fun h=> ?_⟩
    · rcases h with rfl |h
      · rfl
      · have:¬s.length<=64:=by omega
        simp [fK,this]
    · refine ew Vh (fun x:Nat×Bool=>⟨[⟨0,[],.v (.string (bs s))⟩,⟨3,[],.v (.bool x.2)⟩,⟨14,[],.v (.int .i64 s.length)⟩,⟨15,[],.v (.int .i64 x.1)⟩],[],[],[],0,m⟩)
        (fun x=>x.1<=s.length/\eD true s=eD x.2 (s.drop x.1)) (fun x=>s.length - x.1) (0,true) (by kernel_rfl) (fun _ _=>av _) (fun _ _=> .inl rfl) (fun _=> ?_) ?_ ?_ ?_
      · simp only[go_sem]
      · simp only[go_sem]
        rfl
      · simp
      · rintro⟨k,st⟩ ⟨hk,hp⟩
        simp only at hk hp;simp only[go_sem];have hN:fK s=eD true s:=by
          have:s.length<=64:=by omega
          simp [fK,this]
        rw[hN];refine⟨fun aw=> ?_,fun cg=> ?_⟩
        · have cF:k<s.length:=by omega
          rw[drop_at cF] at hp;simp only[eD] at hp;have hI:aF (k+1):=by unfold aF;omega
          refine⟨⟨by omega,aw⟩,⟨by omega,aw⟩,fun h1=>⟨hI,(k+1,true),⟨rfl,rfl⟩,⟨cF,?_⟩,by simp only;omega⟩,fun h1=>⟨fun h2=>⟨fun _=>⟨hI,(k+1,false),⟨rfl,rfl⟩,⟨cF,?_⟩,by simp only;omega⟩,fun h3=>absurd h2 h3⟩,
            fun h2=>⟨fun h3=>⟨hI,(k+1,false),⟨rfl,rfl⟩,⟨cF,?_⟩,by simp only;omega⟩,fun h3=> ?_⟩⟩⟩
          · rw[hp,ah ⟨by omega,h1.2⟩]
          · rw[hp,af (by rintro⟨e,e'⟩;rcases h1 with h1 |h1;· omega
                         · rw[e'] at h1;cases h1),ah (.inl ((I3 _).1 h2))]
          · rw[hp,af (by rintro⟨e,e'⟩;rcases h1 with h1 |h1;· omega
                         · rw[e'] at h1;cases h1),ah (.inr ⟨((Pu _).1 h3.1).2,h3.2⟩)]
          · rw[hp,af (by rintro⟨e,e'⟩;rcases h1 with h1 |h1;· omega
                         · rw[e'] at h1;cases h1),af]
            rintro(e |⟨e,e'⟩)
            · exact h2 ((I3 _).2 e)
            · rcases h3 with h3 |h3
              · exact h3 ((Pu _).2 ⟨fun x=>h2 ((I3 _).2 x),e⟩)
              · rw[e'] at h3;cases h3
        · rw[hp,List.drop_of_length_le (by omega)]
          rfl
theorem WW (c:Int) (m:Mem):FnH Tryz.prog 242 [.v (.int .u8 c)] ⟨[],[]⟩ m fun r H' _=>r= .v (.bool (dX c))/\H' =⟨[],[]⟩:=by
 refine aR aB Tryz.func242 ?_
 ·simp only[go_sem];rfl
def rU (c:UInt8):Bool:=dX c.toNat||eI c.toNat
def oO:List UInt8->Bool
 |[]=>false
 |c::r=>dX c.toNat&&r.all rU
theorem J8:∀(p r:List UInt8),(∀c∈p,c.toNat≠47)->eD false (p++r)=(p.all rU&&eD false r)
 |[],r,_=>by simp
 |c::p,r,h=>by
  have h1:=h c (b6 ..);have ih:=J8 p r fun x hx=>h x (bR _ hx)
  simp only[dW,eD,List.all_cons,rU];rw[af (fun e=>h1 e.1)];cases e1:dX c.toNat<;>cases e2:eI c.toNat<;>simp [ih]
theorem acZ (p r:List UInt8) (h:∀c∈p,c.toNat≠47):eD true (p++47::r)=(oO p&&eD true r):=by
 cases p with
 |nil=>simp [eD,oO,dX,eI]
 |cons c p=>
  have h1:=h c (b6 ..);have ih:=J8 p (47::r) fun x hx=>h x (bR _ hx)
  simp only[dW,eD,oO];rw[af (fun e=>h1 e.1),ih];cases e1:dX c.toNat<;>simp [eD]
theorem R3 (p:List UInt8) (h:∀c∈p,c.toNat≠47):eD true p=oO p:=by
 cases p with
 |nil=>rfl
 |cons c p=>
  have h1:=h c (b6 ..);have ih:=J8 p [] fun x hx=>h x (bR _ hx)
  rw[List.append_nil] at ih;simp only[eD,oO];rw[af (fun e=>h1 e.1),ih];cases e1:dX c.toNat<;>simp [eD]
abbrev cf4:Cfg:=gL (fun _=>false) [(242,vF dX)]
theorem Vg:dO cf4 Tryz.prog:=pure_cons (by kernel_rfl) (Kv WW) pure_nil
theorem X9 (s:List UInt8) (m:Mem) (hs:s.length<=4611686018427387904):FnH Tryz.prog 216 [.v (.string (bs s))] ⟨[],[]⟩ m fun r H' _=>r= .v (.bool (oO s))/\H' =⟨[],[]⟩:=by
 refine aR Vg Tryz.func216 ?_
 ·simp only[go_sem];refine dA Vg (fun k:Nat=>⟨[⟨0,[],.v (.string (bs s))⟩,⟨3,[],.v (.int .i64 k)⟩],[],[],[],0,m⟩)
    (fun k=>k<=s.length/\(k=0\/oO s=(s.drop k).all rU)) (fun k=>s.length - k) 0 (fun _ _=>av _) (fun _ _=> .inl rfl) ?_ ?_ ?_
  ·simp only[go_sem];rfl
  ·simp
  ·rintro k ⟨hk,hp⟩;simp only[go_sem];have au:∀x:UInt8,rU x=true↔dX x.toNat=true\/¬(x.toNat:Int)<48/\¬57<(x.toNat:Int):=fun x=>by
    simp [rU,eI]
   have kQ:k=0->k<s.length->oO s=(dX (s.getD k 0).toNat&&(s.drop (k+1)).all rU):=by
    rintro rfl aw;have:=drop_at aw;rw[List.drop_zero] at this;rw[this];rfl
   refine⟨fun aw=>⟨⟨by omega,aw⟩,fun _=>⟨by omega,aw⟩,fun _=>⟨by omega,aw⟩,fun h=> ?_,fun h=>⟨by unfold aF;omega,k+1,by omega,⟨by omega,.inr ?_⟩,by omega⟩⟩,fun cg=> ?_⟩
   ·have cF:k<s.length:=by omega
    rcases Nat.eq_zero_or_pos k with h0 |h0
    ·rw[kQ h0 cF,h.1];rfl
    ·rcases hp with hp |hp
     ·omega
     ·rw[hp,drop_at cF,List.all_cons];have:rU (s.getD k 0)=false:=by
       rw[Bool.eq_false_iff];intro e;rcases(au _).1 e with e |e
       ·rw[e] at h;cases h.1
       ·omega
      rw[this];rfl
   ·have cF:k<s.length:=by omega
    rcases Nat.eq_zero_or_pos k with h0 |h0
    ·rw[kQ h0 cF];have:dX (s.getD k 0).toNat=true:=by
      rcases h with h |h
      ·exact h
      ·omega
     rw[this];rfl
    ·rcases hp with hp |hp
     ·omega
     ·rw[hp,drop_at cF,List.all_cons]
      have:rU (s.getD k 0)=true:=(au _).2 (by
       rcases h with h |h
       ·exact .inl h
       ·exact .inr ⟨h.1.2,h.2⟩)
      rw[this];rfl
   ·rcases Nat.eq_zero_or_pos s.length with h0 |h0
    ·rw[List.eq_nil_of_length_eq_zero h0];rfl
    ·rcases hp with hp |hp
     ·omega
     ·rw[hp,List.drop_of_length_le (by omega)];simpa using h0
def kd (s:List UInt8) (c:Int):Nat->Int
 |0=> -1
 |k+1=>if((s.getD k 0).toNat:Int)=c then k else kd s c k
theorem lastIdx_spec (s:List UInt8) (c:Int) (m:Mem) (hs:s.length<=4611686018427387904):FnH Tryz.prog 265 [.v (.string (bs s)),.v (.int .u8 c)] ⟨[],[]⟩ m fun r H' _=>r= .v (.int .i64 (kd s c s.length))/\H' =⟨[],[]⟩:=by
 refine aR aB Tryz.func265 ?_
 ·simp only[go_sem];refine⟨by unfold aF;omega,?_⟩;refine dA aB (fun k:Nat=>⟨[⟨0,[],.v (.string (bs s))⟩,⟨1,[],.v (.int .u8 c)⟩,⟨5,[],.v (.int .i64 (k - 1))⟩],[],[],[],0,m⟩)
    (fun k=>k<=s.length/\kd s c s.length=kd s c k) (fun k=>k) s.length (fun _ _=>av _) (fun _ _=> .inl rfl) ?_ ?_ ?_
  ·simp only[go_sem]
  ·simp
  ·rintro k ⟨hk,hp⟩;simp only[go_sem];refine⟨fun h0=>⟨⟨h0,by omega⟩,fun h=> ?_,fun h=>⟨by unfold aF;omega,k - 1,by omega,⟨by omega,?_⟩,by omega⟩⟩,fun h=> ?_⟩
   ·obtain⟨k,rfl⟩:∃j,k=j+1:=⟨k - 1,by omega⟩;have e:((k+1:Nat):Int) - 1=k:=by omega
    rw[e,Int.toNat_natCast] at h;rw[e];rw[hp];simp only[kd];rw[ah h]
   ·obtain⟨k,rfl⟩:∃j,k=j+1:=⟨k - 1,by omega⟩;have e:((k+1:Nat):Int) - 1=k:=by omega
    rw[e,Int.toNat_natCast] at h;rw[hp];simp only[kd];rw[af h];rfl
   ·obtain rfl:k=0:=by omega
    rw[hp];rfl
theorem W1 (s:List UInt8) (m:Mem) (hs:s.length<=4611686018427387904):FnH Tryz.prog 217 [.v (.string (bs s))] ⟨[],[]⟩ m fun r H' _=>r= .v (.int .i64 (kd s 47 s.length))/\H' =⟨[],[]⟩:=by
 refine aR aB Tryz.func217 ?_
 ·simp only[go_sem];refine⟨by unfold aF;omega,?_⟩;refine dA aB (fun k:Nat=>⟨[⟨0,[],.v (.string (bs s))⟩,⟨3,[],.v (.int .i64 (k - 1))⟩],[],[],[],0,m⟩)
    (fun k=>k<=s.length/\kd s 47 s.length=kd s 47 k) (fun k=>k) s.length (fun _ _=>av _) (fun _ _=> .inl rfl) ?_ ?_ ?_
  ·simp only[go_sem]
  ·simp
  ·rintro k ⟨hk,hp⟩;simp only[go_sem];refine⟨fun h0=>⟨⟨h0,by omega⟩,fun h=> ?_,fun h=>⟨by unfold aF;omega,k - 1,by omega,⟨by omega,?_⟩,by omega⟩⟩,fun h=> ?_⟩
   ·obtain⟨k,rfl⟩:∃j,k=j+1:=⟨k - 1,by omega⟩;have e:((k+1:Nat):Int) - 1=k:=by omega
    rw[e,Int.toNat_natCast] at h;rw[e];rw[hp];simp only[kd];rw[ah h]
   ·obtain⟨k,rfl⟩:∃j,k=j+1:=⟨k - 1,by omega⟩;have e:((k+1:Nat):Int) - 1=k:=by omega
    rw[e,Int.toNat_natCast] at h;rw[hp];simp only[kd];rw[af h];rfl
   ·obtain rfl:k=0:=by omega
    rw[hp];rfl
theorem WK (s:List UInt8) (c:Int) (m:Mem) (hs:s.length<=4611686018427387904):FnH Tryz.prog 249 [.v (.string (bs s)),.v (.int .u8 c)] ⟨[],[]⟩ m fun r H' _=>r= .v (.int .i64 (kd s c s.length))/\H' =⟨[],[]⟩:=by
 refine aR aB Tryz.func249 ?_
 ·simp only[go_sem];refine ab ((lastIdx_spec s c m hs).mono ?_);rintro r H' m' hm ⟨rfl,rfl⟩;simp only[go_sem]
theorem XJ (s:List UInt8) (m:Mem) (hs:s.length<=4611686018427387904):FnH Tryz.prog 230 [.v (.string (bs s))] ⟨[],[]⟩ m fun r H' _=>r= .v (.int .i64 (kd s 47 s.length))/\H' =⟨[],[]⟩:=by
 refine aR aB Tryz.func230 ?_
 ·simp only[go_sem];refine ab ((WK s 47 m hs).mono ?_);rintro r H' m' hm ⟨rfl,rfl⟩;simp only[go_sem]
theorem EU (s:List UInt8) (c:Int):∀k,-1<=kd s c k/\kd s c k<k
 |0=>⟨by simp [kd],by simp [kd]⟩
 |k+1=>by
  obtain⟨h1,h2⟩:=EU s c k;simp only[kd];split<;>omega
def v7 (s:List UInt8):List UInt8:=s.drop (kd s 47 s.length+1).toNat
theorem W2 (s:List UInt8) (m:Mem) (hs:s.length<=4611686018427387904):FnH Tryz.prog 193 [.v (.string (bs s))] ⟨[],[]⟩ m fun r H' _=>r= .v (.string (bs (v7 s)))/\H' =⟨[],[]⟩:=by
 refine aR aB Tryz.func193 ?_
 ·simp only[go_sem];refine ab ((XJ s m hs).mono ?_);rintro r H' m' hm ⟨rfl,rfl⟩;simp only[go_sem];obtain⟨h1,h2⟩:=EU s 47 s.length;refine⟨by unfold aF;omega,⟨by omega,by omega,by omega⟩,?_⟩;rfl
theorem WO (s:List UInt8) (m:Mem) (hs:s.length<=4611686018427387904):FnH Tryz.prog 171 [.v (.string (bs s))] ⟨[],[]⟩ m fun r H' _=>r= .v (.string (bs (v7 s)))/\H' =⟨[],[]⟩:=by
 refine aR aB Tryz.func171 ?_
 ·simp only[go_sem];refine ab ((W1 s m hs).mono ?_);rintro r H' m' hm ⟨rfl,rfl⟩;simp only[go_sem];obtain⟨h1,h2⟩:=EU s 47 s.length;refine⟨by unfold aF;omega,⟨by omega,by omega,by omega⟩,?_⟩;rfl
theorem abK {s:List UInt8} {f k:Nat} (hf:f<=k) (hk:k<=s.length):s.drop f=(s.take k).drop f++s.drop k:=by
 conv=>lhs;rw[<- List.take_append_drop k s]
 rw[List.drop_append_of_le_length (by rw[List.length_take];omega)]
theorem aat {s:List UInt8} {f k:Nat} (hf:f<=k) (hk:k<s.length):(s.take (k+1)).drop f=(s.take k).drop f++[s.getD k 0]:=by
 rw[List.take_succ_eq_append_getElem hk,List.drop_append_of_le_length (by rw[List.length_take];omega),List.getD_eq_getElem?_getD,List.getElem?_eq_getElem hk];rfl
abbrev cf5:Cfg:=gL (fun _=>false) [(216,ft (fun s=>s.length<=4611686018427387904) fun s=> .bool (oO s))]
theorem LZ:dO cf5 Tryz.prog:=pure_cons (by kernel_rfl) (fL fun s m h=>X9 s m h) pure_nil
theorem Nf (s:List UInt8) (m:Mem) (hs:s.length<=4611686018427387904):FnH Tryz.prog 170 [.v (.string (bs s))] ⟨[],[]⟩ m fun r H' _=>r= .v (.bool (fK s))/\H' =⟨[],[]⟩:=by
 refine aR LZ Tryz.func170 ?_
 ·simp only[go_sem];refine⟨fun h=> ?_,fun h=> ?_⟩
  ·have:¬s.length<=64:=by omega
   simp [fK,this]
  ·refine dA LZ (fun x:Nat×Nat=>⟨[⟨0,[],.v (.string (bs s))⟩,⟨3,[],.v (.int .i64 x.1)⟩,⟨4,[],.v (.int .i64 x.2)⟩],[],[],[],0,m⟩)
    (fun x=>x.1<=x.2/\x.2<=s.length/\(∀c∈(s.take x.2).drop x.1,c.toNat≠47)/\fK s=eD true (s.drop x.1)) (fun x=>s.length - x.2) (0,0) (fun _ _=>av _) (fun _ _=> .inl rfl) ?_ ?_ ?_
   ·simp only[go_sem];exact⟨rfl,rfl⟩
   ·have:s.length<=64:=by omega
    simp [fK,this]
   ·rintro⟨f,k⟩ ⟨hf,hk,nd,hp⟩;simp only at hf hk nd hp;simp only[go_sem];have hlen:∀l:List UInt8,(l.take k).length<=k:=fun l=>by rw[List.length_take];omega
    refine⟨fun aw=> ?_,fun cg=> ?_⟩
    ·have cF:k<s.length:=by omega
     have hI:aF (k+1):=by unfold aF;omega
     refine⟨⟨by omega,aw⟩,fun vP=> ?_,fun vP=>⟨hI,(f,k+1),⟨rfl,rfl⟩,⟨by simp only;omega,cF,?_,hp⟩,by simp only;omega⟩⟩
     ·have e47:s.getD k 0=47:=by
       have:(s.getD k 0).toNat=47:=by omega
       exact UInt8.toNat_inj.1 this
      have nO:fK s=(oO ((s.take k).drop f)&&eD true (s.drop (k+1))):=by
       rw[hp,abK hf hk,drop_at cF,e47];exact acZ _ _ nd
      refine⟨⟨by omega,by omega,by omega⟩,by simp only[dG,List.length_take];omega,fun h=> ?_,fun h=>⟨hI,hI,(k+1,k+1),⟨rfl,rfl⟩,⟨av _,cF,?_,?_⟩,by simp only;omega⟩⟩
      ·rw[nO,h];rfl
      ·rw[List.drop_of_length_le (by simp;omega)];intro c hc;cases hc
      ·rw[nO,h];rfl
     ·simp only;rw[aat hf cF];intro c hc;rcases List.mem_append.1 hc with hc |hc
      ·exact nd c hc
      ·rw[List.mem_singleton.1 hc];omega
    ·obtain rfl:k=s.length:=by omega
     refine⟨⟨by omega,by omega,by omega⟩,by simp only[dG,List.length_take];omega,?_⟩;rw[hp];have:=R3 _ nd;rw[List.take_length] at this;exact this.symm
theorem Tb:∀(s:List UInt8) (b:Bool),eD b s=true->s=[]\/((s.getD (s.length - 1) 0).toNat≠47/\eD b s=true)
 |[],_,_=> .inl rfl
 |c::r,b,h=>by
  refine .inr ⟨?_,h⟩;simp only[eD] at h;cases r with
  |nil=>
   intro e;have e:c.toNat=47:=e;rw[e] at h;cases b<;>simp [eD,dX,eI] at h
  |cons d r=>
   have go:∀b',eD b' (d::r)=true->((c::d::r).getD ((c::d::r).length - 1) 0).toNat≠47:=fun b' hb=>by
    rcases Tb (d::r) b' hb with e |e
    ·cases e
    ·simpa using e.1
   split at h
   ·exact go _ h
   ·split at h
    ·exact go _ h
    ·cases h
theorem OB {s:List UInt8} (h:fK s=true):0<(v7 s).length:=by
 simp only[fK,aG] at h;rcases Tb s true h.2 with rfl |⟨e,_⟩
 ·simp [eD] at h
 ·have hl:0<s.length:=by
   cases s with
   |nil=>simp [eD] at h
   |cons c r=>simp
  unfold v7;rw[dG];obtain⟨n,hn⟩:∃n,s.length=n+1:=⟨s.length - 1,by omega⟩;rw[hn] at e ⊢;simp only[Nat.add_sub_cancel] at e;have h2:=EU s 47 n;have:kd s 47 (n+1)=kd s 47 n:=by
   simp only[kd];rw[af (by omega)]
  rw[this];omega
def dh (s:List UInt8):Bool:=fK s&&decide (65<=((v7 s).getD 0 0).toNat)&&decide (((v7 s).getD 0 0).toNat<=90)
abbrev BL (s:List UInt8):Prop:=s.length<=4611686018427387904
abbrev HH:Cfg:=gL (fun _=>false) [(192,ft BL fun s=> .bool (fK s)),(170,ft BL fun s=> .bool (fK s)),(193,ft BL fun s=> .string (bs (v7 s))),(171,ft BL fun s=> .string (bs (v7 s)))]
theorem sH:dO HH Tryz.prog:=pure_cons (by kernel_rfl) (fL Ia) (pure_cons (by kernel_rfl) (fL Nf) (pure_cons (by kernel_rfl) (fL W2) (pure_cons (by kernel_rfl) (fL WO) pure_nil)))
theorem BC (s:List UInt8) (m:Mem) (hs:BL s):FnH Tryz.prog 134 [.v (.string (bs s))] ⟨[],[]⟩ m fun r H' _=>r= .v (.bool (dh s))/\H' =⟨[],[]⟩:=by
 refine aR sH Tryz.func134 ?_
 ·simp only[go_sem];refine⟨hs,fun h=>by simp [dh,h],fun h=>⟨hs,⟨by omega,by have:=OB h;omega⟩,?_⟩⟩;rw[dh,h,Bool.true_and];have e1:∀n:Nat,decide ((65:Int)<=n)=decide (65<=n):=fun n=>by rw[decide_eq_decide];omega
  have e2:∀n:Nat,decide ((n:Int)<=90)=decide (n<=90):=fun n=>by rw[decide_eq_decide];omega
  rw[e1,e2]
theorem Gb {P:Program} {f:FuncId} {args:List Value} {m:Mem} {R:Value->Prop} (h:∀w D,Wf w D->m.le ⟨w,D⟩->Calls P f ⟨args⟩ w fun e w' =>∃y,e= .returned y/\R y/\Below w.heap.size w w'):
  FnH P f (args.map SV.v) ⟨[],[]⟩ m fun r H' m' =>(∃y,r= .v y/\R y)/\H' =⟨[],[]⟩/\m' =m:=by
 intro V w D kP hle hH;have ha:(args.map SV.v).map (den V)=args:=by rw[List.map_map];exact List.map_id'' (fun _=>rfl) args
 rw[ha];refine(h w D kP hle).mono ?_;rintro e w' ⟨y,rfl,hy,hb⟩;have aw:∀b,0<D b->b<w.heap.size:=fun b hb=>by
  rcases Nat.lt_or_ge b w.heap.size with h |h
  ·exact h
  ·have:=kP b h;omega
 have UO:Mem.le ⟨w,D⟩ ⟨w',D⟩:=fun b=>⟨av _,fun h0=>⟨aw b h0,uC (hb.block b (aw b h0))⟩⟩
 exact⟨.v y,V,D,⟨[],[]⟩,m,rfl,fun b pq=>kP b (cX hb.size pq),⟨fun b hb=>(by cases hb),fun b hb=>(by cases hb),by simp [br],by simp⟩,fun b hb=>(by cases hb),fun b hb=>(by cases hb),
  ⟨hb.os,hb.tape,hb.output,hb.size,fun b pq _=>⟨hb.block b pq,rfl⟩⟩,fun b hb=>(by simp [br] at hb),UO,fun b=>⟨av _,fun h=>⟨((hle b).2 h).1,uC rfl⟩⟩,Mem.le_trans hle UO,⟨y,rfl,hy⟩,rfl,rfl⟩
theorem Aw {m m' :Mem} {a:Option Addr} {n sz:Nat} {xs:List Value} (hle:m.le m') (h:aX m a n sz xs):aX m' a n sz xs:=by
 refine⟨h.1,fun h0=> ?_⟩;obtain⟨ad,rfl,hs,hc⟩:=h.2 h0;refine⟨ad,rfl,hs,fun j hj=> ?_⟩;obtain⟨h1,h2⟩:=hc j hj;obtain⟨e1,e2,e3⟩:=mA ad j hs;have hx:xs[j]? =some (xs[j]'(by rw[h.1];exact hj)):=List.getElem?_eq_getElem _;exact⟨(EP hle e3 (by rw[e1,e2];exact h2) (h1.trans hx)).trans hx.symm,eP h2 (hle _).1⟩
theorem aiH {m m' :Mem} {x:Value} {cs:List Value} (hle:m.le m') (h:Rd m x cs):Rd m' x cs:=by
 obtain⟨ad,rfl,hs,hc⟩:=h;refine⟨ad,rfl,hs,fun j hj=> ?_⟩;obtain⟨h1,h2⟩:=hc j hj;obtain⟨e1,e2,e3⟩:=mA ad j hs;have hx:cs[j]? =some (cs[j]'hj):=List.getElem?_eq_getElem _;exact⟨(EP hle e3 (by rw[e1,e2];exact h2) (h1.trans hx)).trans hx.symm,eP h2 (hle _).1⟩
def opsL:List (List UInt8):=[[124,124],[38,38],[124],[94],[38],[61,61],[33,61],[60],[60,61],[62],[62,61],[60,60],[62,62],[62,62,62],[43],[45],[42],[47],[37]]
def Glob (m:Mem):Prop:=(∀w D,m.le ⟨w,D⟩->(∃k,w.cell? ⟨1,0,none⟩=some (.int .i64 k))/\Lib.TabIs Tryz.prog w "internal/strconv.uint64pow10" .u64 Lib.pow10Tab)/\
 ∃ad c,Rd m (.pointer (some ⟨0,0,none⟩)) [.slice (some ad) 19 c]/\19<=c/\aX m (some ad) 19 1 (strs opsL)
theorem Glob.up {m m' :Mem} (h:Glob m) (hm:m.le m'):Glob m' :=
 ⟨fun w D hw=>h.1 w D (Mem.le_trans hm hw),h.2.elim fun ad h=>h.elim fun c h=>⟨ad,c,aiH hm h.1,h.2.1,Aw hm h.2.2⟩⟩
theorem acr (b:ByteArray):(tl b).length=b.size:=by simp [tl]
theorem qv (l:List UInt8):(bs l).size=l.length:=by rw[<- acr,Ay]
theorem WT (s fb new:List UInt8) (m:Mem) (hg:Glob m) (hs:s.length<=2147483648) (ho:1<=fb.length) (hn:new.length<=16):
  FnH Tryz.prog 224 [.v (.string (bs s)),.v (.string (bs fb)),.v (.string (bs new))] ⟨[],[]⟩ m fun r H' m' =>(r= .v (.string (bs (Lib.replaceAll s fb new))))/\H' =⟨[],[]⟩/\m' =m:=by
 refine(Gb (args:=[.string (bs s),.string (bs fb),.string (bs new)]) (R:=fun y=>y= .string (bs (Lib.replaceAll s fb new))) fun w D kP hle=> ?_).mono ?_
 ·obtain⟨k,hk⟩:=(hg.1 w D hle).1;have hc:=Lib.countB_mul_le (bs fb) (by rw[qv];exact ho) s.length (bs s) (by rw[qv];omega);have h1:Lib.countB (bs s) (bs fb)<=s.length:=by
   rw[qv] at hc;exact cX (Nat.le_mul_of_pos_right _ ho) hc
  have h2:Lib.countB (bs s) (bs fb) * (bs new).size<=s.length * 16:=by rw[qv];exact Nat.mul_le_mul h1 hn
  refine(Tryz.strings_ReplaceAll (bs s) (bs fb) (bs new) k w (by rw[qv];omega) hk (by rw[qv];exact ho) (by rw[qv s];omega)).mono ?_;rintro e w' ⟨rfl,hb⟩;exact⟨_,rfl,by rw[<- Qu];rfl,hb⟩
 ·rintro r H' m' hm ⟨⟨y,rfl,rfl⟩,h1,h2⟩;exact⟨rfl,h1,h2⟩
theorem M4 (s:List UInt8) (c:Int) (m:Mem):FnH Tryz.prog 183 [.v (.string (bs s)),.v (.int .u8 c)] ⟨[],[]⟩ m fun r H' _=>r= .v (.int .i64 (Lib.indexByte s c.toNat.toUInt8))/\H' =⟨[],[]⟩:=by
 refine(Gb (args:=[.string (bs s),.int .u8 c]) (R:=fun y=>y= .int .i64 (Lib.indexByte s c.toNat.toUInt8)) fun w D kP hle=> ?_).mono ?_
 ·refine(Tryz.strings_IndexByte (bs s) c w).mono ?_;rintro e w' ⟨rfl,rfl⟩;exact⟨_,rfl,rfl,Below.refl _ _⟩
 ·rintro r H' m' hm ⟨⟨y,rfl,rfl⟩,h1,h2⟩;exact⟨rfl,h1⟩
theorem aer:fC Tryz.prog 50=some [.v (.int .i64 0),.v (.string (bs [])),.v (.int .i64 0),.v (.int .i64 0)]:=by kernel_rfl
theorem aiG:eU Tryz.prog 50=some (some 4):=by kernel_rfl
theorem aje:bZ Tryz.prog 50=4:=by kernel_rfl
theorem alz:oD Tryz.prog 50=40:=by kernel_rfl
theorem adZ:dc Tryz.prog 50 0=some (0,none,1):=by kernel_rfl
theorem adY:dc Tryz.prog 50 1=some (1,none,1):=by kernel_rfl
theorem adX:dc Tryz.prog 50 2=some (2,none,1):=by kernel_rfl
theorem adW:dc Tryz.prog 50 3=some (3,none,1):=by kernel_rfl
theorem ais:oc Tryz.prog 50=true:=by kernel_rfl
theorem ak8:rl Tryz.prog 3 5= .int .u8:=by kernel_rfl
theorem ah1:rl Tryz.prog 83 9= .b2s:=by kernel_rfl
attribute [go_sem] ak8 ah1 aer aiG aje alz adZ adY adX adW ais
structure Tk where
 k:Int
 s:List UInt8
 n:Int
 at_:Int
abbrev Tk.cells (t:Tk):List SV:=[.v (.int .i64 t.k),.v (.string (bs t.s)),.v (.int .i64 t.n),.v (.int .i64 t.at_)]
abbrev Tk.sv (t:Tk):SV:= .agg t.cells
def mU:List UInt8:=[48,49,50,51,52,53,54,55,56,57,97,98,99,100,101,102]
theorem ahS:iU Tryz.prog 83=some 5:=by kernel_rfl
theorem sz5:bZ Tryz.prog 5=1:=by kernel_rfl
theorem by5:oD Tryz.prog 5=1:=by kernel_rfl
theorem af4:fC Tryz.prog 5=some [.v (.int .u8 0)]:=by kernel_rfl
theorem alL:eU Tryz.prog 5=some none:=by kernel_rfl
attribute [go_sem] ahS sz5 by5 af4 alL
theorem Cg (a b:List UInt8):j0 (a++b)=j0 a++j0 b:=by simp [j0]
theorem PY (fb new:List UInt8):∀(k:Nat) (s:List UInt8),(Lib.replaceK fb new k s).length<=s.length+k * new.length
 |0,s=>by simp [Lib.replaceK]
 |k+1,s=>by
  rw[Lib.replaceK];split
  ·exact Nat.le_add_right _ _
  ·have ih:=PY fb new k (s.drop ((Lib.index s fb).toNat+fb.length));simp only[aI,List.length_take,dG] at ih ⊢;rw[Nat.add_mul];omega
theorem RB (s fb new:List UInt8) (ho:1<=fb.length) (hs:s.length<=1000000000):(Lib.replaceAll s fb new).length<=s.length+s.length * new.length:=by
 unfold Lib.replaceAll Lib.replace;split
 ·exact Nat.le_add_right _ _
 ·refine cX (PY _ _ _ _) ?_;have hn:Lib.replaceNum s fb (-1)=Lib.count s fb:=by simp [Lib.replaceNum]
  have hc:=Lib.countB_mul_le (bs fb) (by rw[qv];exact ho) s.length (bs s) (by rw[qv];exact av _);have hcc:Lib.countB (bs s) (bs fb)=Lib.count s fb:=rfl;rw[hcc,qv,qv] at hc;have:Lib.count s fb<=s.length:=cX (Nat.le_mul_of_pos_right _ ho) hc;rw[hn];exact Nat.add_le_add_left (Nat.mul_le_mul_right _ this) _
theorem ahU:iU Tryz.prog 45=some 50:=by kernel_rfl
attribute [go_sem] ahU
def cw (ts:List Tk):List Value:=(ts.map fun t=>[Value.int .i64 t.k,.string (bs t.s),.int .i64 t.n,.int .i64 t.at_]).flatten
theorem O1 {a b c:Mem} (h:ae a b) (h' :b.le c):ae a c:=by
 rcases h with rfl |h
 ·exact .inr h'
 ·exact .inr (Mem.le_trans h h')
theorem ak7:rl Tryz.prog 5 3= .int .i64:=by kernel_rfl
attribute [go_sem] ak7
def ko (c:UInt8):List UInt8:=
 if c.toNat=34\/c.toNat=92 then[92,c] else if c.toNat=10 then[92,110] else if c.toNat<32\/126<c.toNat then[92,120,mU.getD (c.toNat / 16) 0,mU.getD (c.toNat % 16) 0] else[c]
def uM (s:List UInt8):List UInt8:=34::(s.map ko).flatten++[34]
theorem abE (c:UInt8):(ko c).length<=4:=by
 unfold ko;split
 ·simp
 ·split
  ·simp
  ·split<;>simp
theorem Ic:∀(s:List UInt8),((s.map ko).flatten).length<=4 * s.length
 |[]=>by simp
 |c::r=>by
  have h1:=abE c;have h2:=Ic r;simp only[bJ,List.flatten_cons,aI,aL];omega
def fg (t:Tk):Option (List UInt8):=
 if t.k=1 then(if t.n=0/\fK t.s=true/\gG.contains t.s=false then some (Lib.replaceAll t.s [47] [58,58]) else none)
 else if t.k=2 then(if t.n=0/\gG.contains t.s=true then some t.s else none)
 else if t.k=3 then(if(t.s=[]/\0<=t.n)/\t.n<2147483648 then some (Lib.itoa t.n) else none)
 else if t.k=4 then(if t.s=[]/\0<=t.n then some (Lib.itoa t.n++[76]) else none)
 else if t.k=5 then(if t.n=0/\t.s.length<=1024 then some (uM t.s) else none)
 else if t.k=6 then(if t.n=0/\ji.contains t.s=true then some t.s else none)
 else none
def U9 (o:Option (List UInt8)) (r:SV):Prop:=
 match o with
 |some x=>r= .tup [.v (.string (bs x)),.v (.int .i64 0)]
 |none=>r= .tup [.v (.string (bs [])),.v (.int .i64 1)]
def ox (t:Tk):Prop:=t.s.length<=2000000/\aF t.n
theorem Is:∀(k:Nat) (u:Nat),u<10 ^ k->Lib.nDigits u<=k+1:=by
 intro k;induction k with
 |zero=>intro u hu;rw[Lib.nDigits_small (by simp at hu;omega)];omega
 |succ k ih=>
  intro u hu;by_cases h:u<10
  ·rw[Lib.nDigits_small h];omega
  ·rw[Lib.nDigits_big h];have:=ih (u / 10) (by rw[Nat.div_lt_iff_lt_mul (by omega)];rw[Nat.pow_succ] at hu;exact hu);omega
theorem QG {n:Int} (h:aF n):(Lib.itoa n).length<=21:=by
 unfold Lib.itoa;have h1:=h.1;have h2:=h.2;split
 ·rw[aL,Lib.decDigits_length];have:=Is 19 n.natAbs (by omega);omega
 ·rw[Lib.decDigits_length];have:=Is 19 n.toNat (by omega);omega
def jX:List Tk->Option (List (List UInt8))
 |[]=>some []
 |t::r=>match fg t with |none=>none |some x=>match jX r with |none=>none |some y=>some (x::y)
def ld (ts:List Tk):List UInt8×Int:=
 if 5000<ts.length then([],5) else
  match jX ts with
  |none=>([],1)
  |some l=>if 20000<(Lib.join l [32]).length then([],8) else(Lib.join l [32],0)
theorem CA (ts:List Tk):(cw ts).length=ts.length * 4:=by
 induction ts with
 |nil=>rfl
 |cons t r ih=>simp only[cw,bJ,List.flatten_cons,aI,aL,bg] at ih ⊢;omega
theorem dH {m:Mem} {a:Option Addr} {n sz:Nat} {xs:List Value} (h:aX m a n sz xs) {i:Nat} (hi:i<n):Rd m (cO a (i * sz)) ((xs.drop (i * sz)).take sz)/\a≠none:=by
 have hl:=h.1;have hm:(i+1) * sz<=n * sz:=Nat.mul_le_mul_right _ hi;rw[Nat.succ_mul] at hm;obtain⟨ad,rfl,hs,hc⟩:=h.2 (by omega);refine⟨?_,by simp⟩;obtain⟨e1,e2,e3⟩:=mA ad (i * sz) hs;refine⟨ad.add (i * sz),rfl,e3,fun j hj=> ?_⟩;rw[List.length_take,dG] at hj;obtain⟨h1,h2⟩:=hc (i * sz+j) (by omega);obtain⟨f1,f2,f3⟩:=mA (ad.add (i * sz)) j e3;obtain⟨g1,g2,g3⟩:=mA ad (i * sz+j) hs;have My:(ad.add (i * sz)).add j=ad.add (i * sz+j):=by
  cases hA:(ad.add (i * sz)).add j;cases hB:ad.add (i * sz+j);rw[hA] at f1 f2 f3;rw[hB] at g1 g2 g3;simp only at f1 f2 f3 g1 g2 g3;rw[f1,f2,f3,g1,g2,g3,e1,e2,Nat.add_assoc]
 refine⟨?_,by rw[e1,e2,Nat.add_assoc];exact h2⟩;rw[My,h1,List.getElem?_take_of_lt (by omega),List.getElem?_drop]
def kq (t:Tk):List Value:=[Value.int .i64 t.k,.string (bs t.s),.int .i64 t.n,.int .i64 t.at_]
theorem T3:∀{ts:List Tk} {i:Nat} (hi:i<ts.length),((cw ts).drop (i * 4)).take 4=kq ts[i]
 |[],i,hi=>by simp at hi
 |t::r,0,hi=>by simp [cw,kq]
 |t::r,i+1,hi=>by
  have e:(cw (t::r)).drop ((i+1) * 4)=(cw r).drop (i * 4):=by
   rw[show(i+1) * 4=i * 4+1+1+1+1 by omega];simp [cw]
  rw[e,T3 (by simpa using hi)];rfl
theorem abm {t:Tk} (ht:ox t) {x:List UInt8} (h:fg t=some x):x.length<=10000000:=by
 have h1:=ht.1;have h2:=QG ht.2;unfold fg at h;split at h
 ·split at h
  ·cases h;have:=RB t.s [47] [58,58] (by simp) (by omega);simp only[aL,bg] at this;omega
  ·cases h
 ·split at h
  ·split at h
   ·cases h;omega
   ·cases h
  ·split at h
   ·split at h
    ·cases h;omega
    ·cases h
   ·split at h
    ·split at h
     ·cases h;simp only[aI,aL,bg];omega
     ·cases h
    ·split at h
     ·split at h
      ·cases h;have:=Ic t.s;simp only[uM,dW,aL,aI,bg];omega
      ·cases h
     ·split at h
      ·split at h
       ·cases h;omega
       ·cases h
      ·cases h
theorem Nh (sep:List UInt8) (B:Nat):∀(l:List (List UInt8)),(∀x∈l,x.length<=B)->(Lib.joinTail sep l).length<=l.length * (B+sep.length)
 |[],_=>by simp [Lib.joinTail]
 |x::r,h=>by
  have:=Nh sep B r fun y hy=>h y (bR _ hy)
  have h1:=h x b6;simp only[Lib.joinTail,bJ,List.flatten_cons,aI,aL,Nat.succ_mul] at this ⊢;omega
theorem abc (sep:List UInt8) (B:Nat) (l:List (List UInt8)) (h:∀x∈l,x.length<=B):(Lib.join l sep).length<=l.length * (B+sep.length):=by
 cases l with
 |nil=>simp [Lib.join_nil]
 |cons x r=>
  rw[Lib.join_cons,aI,aL,Nat.succ_mul];have:=Nh sep B r fun y hy=>h y (bR _ hy)
  have h1:=h x b6;omega
def Dl (acc:List (List UInt8)) (o:Option (List (List UInt8))):Option (List (List UInt8)):=o.map (acc++ ·)
def aiJ (o:Option (List UInt8)) (x:List UInt8) (e:Int):Prop:=(e=0/\o=some x)\/(e=1/\x=[]/\o=none)
theorem acf {o:Option (List UInt8)} {r:SV} (h:U9 o r):∃x e,r= .tup [.v (.string (bs x)),.v (.int .i64 e)]/\aiJ o x e:=by
 cases o with
 |none=>exact⟨[],1,h,.inr ⟨rfl,rfl,rfl⟩⟩
 |some x=>exact⟨x,0,h,.inl ⟨rfl,rfl⟩⟩
theorem adp {ts:List Tk} {k:Nat} (h:k<ts.length) (hf:fg ts[k]=none):jX (ts.drop k)=none:=by
 rw[List.drop_eq_getElem_cons h];simp only[jX,hf]
theorem abl {ts:List Tk} {k:Nat} (h:k<ts.length) {x:List UInt8} (hf:fg ts[k]=some x):jX (ts.drop k)=(jX (ts.drop (k+1))).map (x:: ·):=by
 rw[List.drop_eq_getElem_cons h];simp only[jX,hf];cases jX (ts.drop (k+1))<;>rfl
end Go.Proofs.YtimddhkipjedcaaGreatDoor.E
namespace Go.Proofs.YtimddhkipjedcaaGreatDoor.E
open Go Go.ChangeShapes Go.WideShapes Go.ChangeAt Go.RowKit
def fR (W:World) (b:Nat):Nat:=match W.heap[b]? with |some (.cells c _ _)=>c.size+1 |_=>0
theorem TW (W:World):Wf W (fR W):=fun b hb=>by
 have:W.heap[b]? =none:=Array.getElem?_eq_none hb;simp [fR,this]
theorem TY {W:World} {b:Nat} {c:Array Value} {t:TypeId} {f:Nat×Nat} (h:W.heap[b]? =some (.cells c t f)):fR W b=c.size+1:=by
 simp [fR,h]
theorem Rc {W w:World} {D:Nat->Nat} {b:Nat} {c:Array Value} {t:TypeId} {f:Nat×Nat} (hle:Mem.le ⟨W,fR W⟩ ⟨w,D⟩) (h:W.heap[b]? =some (.cells c t f)):∃t' f',w.heap[b]? =some (.cells c t' f'):=by
 obtain⟨_,hk⟩:=hle b;have hd:fR W b=c.size+1:=TY h;obtain⟨_,hk⟩:=hk (by show 0<fR W b;omega);obtain⟨c',t',f',ho,hj⟩:=O2 hk h;simp only[hd] at ho hj;have e:c' =c:=by
  apply Array.ext_getElem?
  intro i;rcases Nat.lt_or_ge i (c.size+1) with hi |hi
  ·exact hj i hi
  ·have h1:=hj c.size (by omega);rw[Array.getElem?_eq_none (av c.size)] at h1;have h2:c'.size<=c.size:=by
    rcases Nat.lt_or_ge c.size c'.size with h |h
    ·rw[Array.getElem?_eq_getElem h] at h1;cases h1
    ·exact h
   rw[Array.getElem?_eq_none (by omega),Array.getElem?_eq_none (by omega)]
 subst e;exact⟨t',f',ho⟩
theorem FB {W w:World} {D:Nat->Nat} {g i:Nat} {v:Value} (hle:Mem.le ⟨W,fR W⟩ ⟨w,D⟩) (h:W.cell? ⟨g,i,none⟩=some v):w.cell? ⟨g,i,none⟩=some v:=by
 unfold World.cell? at h ⊢;split at h
 ·rename_i c t f hc;obtain⟨t',f',ho⟩:=Rc hle hc;dsimp only at ho;rw[ho];simpa using h
 ·cases h
theorem SO {W w:World} {D:Nat->Nat} {P:Program} {n:String} {c:Array Value} (hle:Mem.le ⟨W,fR W⟩ ⟨w,D⟩) (h:W.var? P n=some c):w.var? P n=some c:=by
 unfold World.var? at h ⊢;obtain⟨g,hg,h⟩:=Option.bind_eq_some_iff.1 h;rw[hg];split at h
 ·rename_i c' t f hc;obtain⟨t',f',ho⟩:=Rc hle hc;cases h;simp [ho]
 ·cases h
theorem WY {H:Type} {enc:TypeId×Value->H} {C:Checked} {os:Os} {f:FuncId} {fn:Func} {s:OpenSpec} {conds:List PathCond} {apart:Bool} {laid:List (String×DataW Unit)} (modest:Bool) (w0:World) (args:Array Value) (hos:w0.os=os)
  (yY:(w0.forCall (fun _ _=>0) ⟨#[],args,[]⟩).Shaped C.prog)
  (au:Input.okWideB C.prog (w0.forCall (fun _ _=>0) ⟨#[],args,[]⟩) f ⟨#[],args,[]⟩=true)
  (tV:s.preRow enc C.prog fn conds apart laid (w0.forCall (fun _ _=>0) ⟨#[],args,[]⟩).memory args):
  ∃(w:World) (tape:Tape) (i:Input),w.os=os/\(w.forCall tape i).Shaped C.prog/\i.vars=[]/\Input.okWide C.prog (w.forCall tape i) .any w.heap.size f i/\
   s.preRow enc C.prog fn conds apart laid (w.forCall tape i).memory i.args/\({modest:=modest}:Assume).holds C.prog (lone (Frame.enter C.prog f i.args .normal) [] (w.forCall tape i)):=
 ⟨w0,fun _ _=>0,⟨#[],args,[]⟩,hos,yY,(Input.okWide_of_okWideB (base:=0) au).1,(Input.okWide_of_okWideB au).2,tV,by
  simp only[Assume.holds]
  exact⟨by simp,by simp,fun _=>Modest.zero,by simp,by simp⟩⟩
theorem zR {W:World} {a:Addr} {v:Value} (h:W.cell? a=some v):a.spot=none/\a.off<fR W a.block:=by
 unfold World.cell? at h;split at h
 ·rename_i c t f hc;cases hs:a.spot with
  |some x=>rw[hs] at h;simp at h
  |none=>
   rw[hs] at h;simp only[Option.isSome_none,Bool.false_eq_true,if_false] at h;refine⟨rfl,?_⟩;rw[TY hc];have:=(Array.getElem?_eq_some_iff.1 h).1;omega
 ·cases h
theorem Jx {H:Type} {d:DataW H}:∀{l:List (DataW H)},d∈l->Rows.uptoBulk d<=Rows.uptoBulkAll l
 |[],h=>by cases h
 |x::l,h=>by
  simp only[Rows.uptoBulkAll];rcases List.mem_cons.1 h with rfl |h
  ·omega
  ·have:=Jx h;omega
theorem Fs {H:Type} (d:DataW H):1<=Rows.uptoBulk d:=by
 cases d with
 |lit l=>cases l<;>simp [Rows.uptoBulk]
 |_=>simp [Rows.uptoBulk]
theorem Q7 {H:Type}:∀(l:List (DataW H)),l.length<=Rows.uptoBulkAll l
 |[]=>aD _
 |d::l=>by
  have h1:=Fs d;have h2:=Q7 l;simp only[Rows.uptoBulkAll,aL];omega
theorem abV {P:Program} {f:FuncId} {args:List SV} {fy:List Value} {W:World} {x:Value} (Lt:∀V,args.map (den V)=fy) (h:FnH P f args ⟨[],[]⟩ ⟨W,fR W⟩ fun r H' m' =>ae ⟨W,fR W⟩ m' /\H' =⟨[],[]⟩/\r= .v x):
  Calls P f ⟨fy⟩ W fun e W' =>e= .returned x/\Below W.heap.size W W' :=by
 have:=h ⟨fun _=>0,fun _ _=>⟨none,0,0⟩⟩ W (fR W) (TW W) (Mem.le_refl ⟨W,fR W⟩ (TW W)) ⟨fun b hb=>(by cases hb),fun b hb=>(by cases hb),by simp [br],by simp⟩;rw[Lt] at this;refine this.mono ?_;rintro e w' ⟨r,V',D',H',m',rfl,_,_,_,_,hf,_,_,_,_,_,rfl,rfl⟩;exact⟨rfl,hf.os,hf.tape,hf.output,hf.size,fun b hb=>(hf.same b hb (by simp [br])).1⟩
theorem own:ownKnob Tryz.prog.godebug=none:=by kernel_rfl
def C4:List (String×DataW Unit):=Rows.parseProgramRow.laid
theorem g1 (W:World) (h:W.ShapedOpen Tryz.prog):∃k,W.cell? ⟨1,0,none⟩=some (.int .i64 k):=
 cell_of_shapedOpen_int (P:=Tryz.prog) (g:=1) (t:=3) (zero:= #[.int .i64 0]) h (of_decide_eq_true (by kernel_rfl)) (by kernel_rfl) rfl (by kernel_rfl) (by kernel_rfl) (by kernel_rfl)
theorem aeT {W:World} {rest:List (String×DataW Unit)} (h:laidMet Tryz.prog (("armature/ast.operators",Rows.laid_armature_ast_operators)::rest) W):
  ∃ad c,Rd ⟨W,fR W⟩ (.pointer (some ⟨0,0,none⟩)) [.slice (some ad) 19 c]/\19<=c/\aX ⟨W,fR W⟩ (some ad) 19 1 (strs opsL):=by
 obtain⟨ps,⟨g',t',cs,fuel,p,q,iS,yW,hvar,hd,_,_⟩,_⟩:=h;obtain rfl:=Option.some.inj ((show Tryz.prog.globalNamed "armature/ast.operators" =some 0 by kernel_rfl).symm.trans iS);obtain rfl:=Option.some.inj ((show(Tryz.prog.globals[0]?).map (·.type)=some 55 by kernel_rfl).symm.trans yW);have hl:(Rows.laid_armature_ast_operators:DataW Unit)= .slice (opsL.map fun l=> .lit (.string l)) []:=rfl;rw[hl] at hd;obtain⟨a,cap,gD,hcap,hel⟩:=open_row (P:=Tryz.prog) (e:=9) (by kernel_rfl) (by kernel_rfl) hd;have hlen:(opsL.map fun l=>(DataW.lit (.string l):DataW Unit)).length=19:=rfl;rw[hlen] at gD hcap;have jJ:W.cell? ⟨0,0,none⟩=some (.slice (some a) 19 cap):=by
  have:=World.var?_cell iS hvar 0;rw[Array.eq_one_of_toList gD] at this;simpa using this
 have gE:∀i (hi:i<19),W.cell? (a.add i)=some (.string (bs (opsL[i]'hi))):=fun i hi=>by
  obtain⟨v,n,q',hc,hr⟩:=hel i (.lit (.string (opsL[i]'hi))) (by rw[List.getElem?_map,List.getElem?_eq_getElem (by exact hi)];rfl);obtain⟨s,e1,e2,_⟩:=DataW.trod_string (show Tryz.prog.underlying 9=some .string by kernel_rfl) hr;have e3:v= .string s:=by simpa using e1
  have e4:s.data.toList=opsL[i]'hi:=by simpa using(congrArg Prod.fst e2).symm
  rw[hc,e3,<- e4];rfl
 have Up:a.spot=none:=by
  have:=(zR (gE 0 (by decide))).1;simpa [Addr.add] using this
 refine⟨a,cap,⟨⟨0,0,none⟩,rfl,rfl,fun j hj=> ?_⟩,hcap,rfl,fun _=>⟨a,rfl,Up,fun j hj=> ?_⟩⟩
 ·have:j=0:=by simpa using hj
  subst this;exact⟨jJ,(zR jJ).2⟩
 ·have hj:j<19:=by omega
  have h1:=gE j hj;obtain⟨p1,p2,_⟩:=mA a j Up;have h2:=(zR h1).2;rw[p1,p2] at h2;refine⟨?_,h2⟩;rw[strs,List.getElem?_map,List.getElem?_eq_getElem (by exact hj)];exact h1
theorem adn {W:World} (hL:laidMetH Tryz.prog C4 W) (hs:W.ShapedOpen Tryz.prog):Glob ⟨W,fR W⟩:=by
 rw[MakeChecks.laidMetH_plain _ _ _ (by kernel_rfl)] at hL;have h3:=hL.tail.tail;have ht:=Lib.tabIs_of_head (P:=Tryz.prog) (zs:=Lib.pow10Tab) (g:=6) (t:=250) (e:=217) (n:=20) (by kernel_rfl) (by kernel_rfl) (by kernel_rfl) (by kernel_rfl) (by kernel_rfl) (by kernel_rfl) h3;obtain⟨k,hk⟩:=g1 W hs;exact⟨fun w D hle=>⟨⟨k,FB hle hk⟩,SO hle ht⟩,aeT h3.tail.tail.tail.tail⟩
theorem ad2 {k:IntKind} {n:Int} {x:Value} (h:oq (.v (.int k n)) (.v x)=true):∃a,x= .int k a:=by
 cases x<;>simp only[oq] at h;case int k' a=>exact⟨a,by have:=of_decide_eq_true h;subst this;rfl⟩
 all_goals cases h
theorem ad1 {s:ByteArray} {x:Value} (h:oq (.v (.string s)) (.v x)=true):∃a,x= .string a:=by
 cases x<;>simp only[oq] at h;case string a=>exact⟨a,rfl⟩
 all_goals cases h
theorem eq_int {k:IntKind} {a:Int} {y:Value} {e:Bool} (h:nX (.v (.int k a)) (.v y)=some e):∃b,y= .int k b/\e=decide (a=b):=by
 cases y<;>simp only[nX] at h;case int k' b=>
  split at h
  ·rename_i hk;subst hk;exact⟨b,rfl,(Option.some.inj h).symm⟩
  ·cases h
 all_goals cases h
theorem afJ {a:ByteArray} {y:Value} {e:Bool} (h:nX (.v (.string a)) (.v y)=some e):∃b,y= .string b/\e=decide (tl a=tl b):=by
 cases y<;>simp only[nX] at h;case string b=>exact⟨b,rfl,(Option.some.inj h).symm⟩
 all_goals cases h
theorem EW {z:SV} {zs:List SV} {xs:List Value} (h:jw (z::zs) (xs.map .v)=true):∃x r,xs=x::r/\oq z (.v x)=true/\jw zs (r.map .v)=true:=by
 cases xs with
 |nil=>simp [jw] at h
 |cons x r=>simp only[bJ,jw,aG] at h;exact⟨x,r,rfl,h.1,h.2⟩
theorem Fi {xs:List Value} (h:jw [] (xs.map .v)=true):xs=[]:=by
 cases xs with
 |nil=>rfl
 |cons x r=>simp [jw] at h
theorem Iw {x:Value} {xs ys:List Value} {b:Bool} (h:ix ((x::xs).map .v) (ys.map .v)=some b):∃y r e e',ys=y::r/\nX (.v x) (.v y)=some e/\ix (xs.map .v) (r.map .v)=some e' /\b=(e&&e'):=by
 cases ys with
 |nil=>simp [ix] at h
 |cons y r=>
  simp only[bJ,ix,Option.bind_eq_some_iff,Option.map_eq_some_iff] at h;obtain⟨e,he,e',sV,rfl⟩:=h;exact⟨y,r,e,e',rfl,he,sV,rfl⟩
theorem Pw {ys:List Value} {b:Bool} (h:ix [] (ys.map .v)=some b):ys=[]/\b=true:=by
 cases ys with
 |nil=>simp only[List.map_nil,ix,dY] at h;exact⟨rfl,h.symm⟩
 |cons y r=>simp [ix] at h
def kindOk (P:Program) (t:TypeId):SV->Bool
 | .v (.int _ _)=>match P.underlying t with |some (.int _)=>true |_=>false
 | .v (.string _)=>match P.underlying t with |some .string=>true |_=>false
 | .v (.bool _)=>match P.underlying t with |some .bool=>true |_=>false
 |_=>false
def Dy (P:Program):Nat->List SV->List Field->Bool
 |_,[],[]=>true
 |off,z::zs,f::fs=>f.name != "_" &&decide (f.offset=off)&&decide (eU P f.type=some none)&&kindOk P f.type z&&Dy P (off+1) zs fs
 |_,_,_=>false
theorem NQ {P:Program} {t:TypeId} {z:SV} {x y:Value} {e:Bool} {w:World} (d:Nat) (hk:kindOk P t z=true) (hf:oq z (.v x)=true) (he:nX (.v x) (.v y)=some e):
  (Op.equalIn (d+1) t x y).run P w= .ok e w:=by
 cases z with
 |v z=>
  cases z with
  |int k n=>
   obtain⟨a,rfl⟩:=ad2 hf;obtain⟨b,rfl,rfl⟩:=eq_int he;simp only[kindOk] at hk;split at hk
   ·rename_i k' hu;rw[run_equalIn_int w d t k k' a b hu,Bool.beq_eq_decide_eq]
   ·cases hk
  |string n=>
   obtain⟨a,rfl⟩:=ad1 hf;obtain⟨b,rfl,rfl⟩:=afJ he;simp only[kindOk] at hk;split at hk
   ·rename_i hu;rw[run_equalIn_string w d t a b hu,zM,zM,Bool.beq_eq_decide_eq]
   ·cases hk
  |bool n=>
   cases x<;>simp only[oq] at hf;case bool a=>
    cases y<;>simp only[nX] at he;case bool b=>
     cases he;simp only[kindOk] at hk;split at hk
     ·rename_i hu;rw[run_equalIn_bool' w d t a b hu]
     ·cases hk
    all_goals cases he
   all_goals cases hf
  |_=>cases hk
 |_=>cases hk
theorem Jc {P:Program} {d:Nat} {w:World} {cs ds:List Value}:∀{fs:List Field} {zs:List SV} {off:Nat} {us vs:List Value} {b:Bool},
  Dy P off zs fs=true->jw zs (us.map .v)=true->ix (us.map .v) (vs.map .v)=some b->cs.drop off=us->ds.drop off=vs->(Op.eqFields (d+1) ⟨cs⟩ ⟨ds⟩ fs).run P w= .ok b w
 |[],zs,off,us,vs,b,h,hf,he,hu,hv=>by
  cases zs with
  |nil=>
   cases Fi hf;rw[List.map_nil] at he;obtain⟨_,rfl⟩:=Pw he;rfl
  |cons z zs=>cases h
 |f::fs,zs,off,us,vs,b,h,hf,he,hu,hv=>by
  cases zs with
  |nil=>cases h
  |cons z zs=>
   simp only[Dy,aG,bu,bne_iff_ne] at h;obtain⟨⟨⟨⟨h1,h2⟩,h3⟩,h4⟩,h5⟩:=h;obtain⟨x,LK,rfl,g1,g2⟩:=EW hf;obtain⟨y,LI,e,e',rfl,g3,g4,rfl⟩:=Iw he;have hx:cs[off]? =some x:=by
    have:=congrArg (fun l:List Value=>l[0]?) hu;simpa using this
   have hy:ds[off]? =some y:=by
    have:=congrArg (fun l:List Value=>l[0]?) hv;simpa using this
   have DV:cs.drop (off+1)=LK:=by
    have:=congrArg (List.drop 1) hu;rw[List.drop_drop] at this;simpa [Nat.add_comm] using this
   have Mk:ds.drop (off+1)=LI:=by
    have:=congrArg (List.drop 1) hv;rw[List.drop_drop] at this;simpa [Nat.add_comm] using this
   subst h2;simp only[Op.eqFields,ah h1,Sem.run_bind,xL h3 (show _ from hx),xL h3 (show _ from hy),Result.andThen_ok,NQ d h4 g1 g3];cases e with
   |false=>simp
   |true=>
    simp only[Bool.not_true,Bool.false_eq_true,if_false,Bool.true_and];exact Jc h5 g2 g4 DV Mk
theorem Sx {P:Program} {t:TypeId} {zs:List SV} {fs:List Field} (hz:fC P t=some zs) (hg:P.eqGuardType P.depth t=false) (hu:P.underlying t=some (.struct (P.fieldsOf t))) (hp:P.stoodInHeld t=false)
  (qh:(P.fieldsOf t).toList=fs) (h:Dy P 0 zs fs=true):vC P t:=by
 intro xs ys b w o o' op he hf;rw[hz] at hf;refine⟨run_eqGuard_agg w op t o o' _ _ hg,?_⟩;show(Op.equalIn (9999+1) t _ _).run _ w=_;rw[run_equalIn_struct w 9999 t _ _ hu hp,qh];exact Jc (d:=9998) h hf he rfl rfl
end Go.Proofs.YtimddhkipjedcaaGreatDoor.E

/- Several texts in one. -/
import Derived.Laws.MakeOwn
import Derived.Deep.LoopGhost
import Derived.Deep.Quiet
import Derived.ScopeJumps
import Derived.Shelf.Strings.Builder1
import Derived.Shelf.Strings.Builder2
import Derived.Shelf.Small.Strs
import Derived.Shelf.Strings.BuilderF
import Derived.Shelf.Strings.BuilderK
import Derived.Shelf.Utf8.RuneCount
import Derived.Shelf.Strings.Builder2Cap
import Derived.Shelf.Strconv.Itoa0
import Derived.Shelf.Strconv.Itoa1
import Derived.Shelf.LaysM
import Derived.Shelf.Strconv.Itoa2
import Derived.Shelf.Strconv.Itoa3
import Derived.Shelf.Strconv.ParseIntEmpty
import Derived.Shelf.Strconv.Clone
import Derived.Shelf.Strconv.SyntaxError
import Derived.Shelf.Strconv.Lower
import Derived.Shelf.Strconv.ParseUint10
import Derived.Shelf.Strconv.ParseUint10Empty
import Derived.Shelf.Strconv.RangeError
import Derived.Shelf.Strconv.ParseUintEmpty
import Derived.Shelf.Strconv.ParseUint10b64
import Derived.Shelf.Strconv.ParseUint10b32
import Derived.Shelf.Strconv.ParseUint10b16
import Derived.Shelf.Strconv.ParseUint10b8
import Derived.Shelf.Strings.Search1
import Derived.Shelf.Strings.Search2
import Derived.Shelf.Strings.Search3
import Derived.Shelf.Strings.Count
import Derived.Shelf.Strings.Shaped
import Derived.Shelf.Strings.LastIndex
import Derived.Shelf.Strings.Prefix
import Derived.Shelf.Strings.Split
import Derived.Shelf.Strings.Replace
import Derived.Shelf.Strings.SplitShaped
import Derived.Shelf.Unicode.Decode
import Derived.Shelf.Strings.RuneCount
import Derived.Shelf.Unicode.DecodeSlow
import Derived.Shelf.Unicode.DecodeAny
import Derived.Shelf.Strings.BuilderCap
import Derived.Shelf.Slices.Turned
import Derived.Ground.PaProg
import Derived.Shelf.Path.Small
import Derived.Test.YtimddhkipjedcaaGreatDoorProg
import Derived.Lib.Join
import Derived.Test.YtimddhkipjedcaaGreatDoorRows
import Derived.Test.YtimddhkipjedcaaGreatDoorCards
import Derived.Test.YtimddhkipjedcaaGreatDoorTie
import Derived.ProofKit
import Derived.OpenShut
import Derived.LaidMore
import Derived.Lay
import Derived.SevenTiedAt
import Derived.Stop.Joined
import Derived.Stop.LaidErr
import Derived.Lib.LaidTab
import Derived.Shelf.Vars
import Derived.Deep.Slices
import Derived.Deep.DeepHandedRow
import Derived.Carry
import Derived.Test.YtimddhkipjedcaaGreatDoorMrg1
set_option linter.unusedSimpArgs false
set_option linter.unusedVariables false
set_option maxHeartbeats 4000000
set_option maxRecDepth 20000
namespace Go.Proofs.YtimddhkipjedcaaGreatDoor.E
open Go
section
variable {C:Ctx} {n:Nat} {st:LS} {a:Act} {V:Vl} {D:Nat->Nat} {w:World} {P:Program} {p:be} {c:Cfg}
theorem rV:∀(l:List SV) (K:List SV->LS->Prop) (m:Mem) (D:Nat->Nat),Af l K ⟨st.env,st.rho,st.bx,st.vc,st.nid,m⟩->SatW C st.bx st.vc st.nid m V D w->
  ∃l' m1 D1,K l' ⟨st.env,st.rho,st.bx,st.vc,st.nid,m1⟩/\SatW C st.bx st.vc st.nid m1 V D1 w/\l'.map (den V)=l.map (den V)
 |[],K,m,D,h,hW=>⟨[],m,D,h,hW,rfl⟩
 |s::r,K,m,D,h,hW=>by
  cases s with
  |agg cs=>
   obtain⟨cU,m1,D1,e1,e2,e3,_⟩:=pP (st:=st) cs _ m D h hW;obtain⟨l',m2,D2,f1,f2,f3⟩:=rV r _ m1 D1 e1 e2;exact⟨_,m2,D2,f1,f2,by simp only[bh,f3,Gk,e3]⟩
  |vec k u=>
   simp only[Af,nD] at h;obtain⟨b,hb,h⟩:=aB h;obtain⟨ad,cp,m1,D',h1,h2,h3,h4,h5⟩:=SatW.pub (st:=⟨st.env,st.rho,st.bx,st.vc,st.nid,m⟩) hW hb;obtain⟨l',m2,D2,f1,f2,f3⟩:=rV r _ m1 D' (h ad cp m1 h1 h2 h3) h5;refine⟨_,m2,D2,f1,f2,?_⟩;simp only[bh,jt,List.nil_append,f3];congr 1
   exact h4.symm
  |v x=>
   obtain⟨l',m2,D2,f1,f2,f3⟩:=rV r _ m D h hW;exact⟨_,m2,D2,f1,f2,by simp only[bh,jt,List.nil_append,f3]⟩
  |box k o=>
   obtain⟨l',m2,D2,f1,f2,f3⟩:=rV r _ m D h hW;exact⟨_,m2,D2,f1,f2,by simp only[bh,jt,List.nil_append,f3]⟩
  |vp k u o=>
   obtain⟨l',m2,D2,f1,f2,f3⟩:=rV r _ m D h hW;exact⟨_,m2,D2,f1,f2,by simp only[bh,jt,List.nil_append,f3]⟩
  |mp k=>
   obtain⟨l',m2,D2,f1,f2,f3⟩:=rV r _ m D h hW;exact⟨_,m2,D2,f1,f2,by simp only[bh,jt,List.nil_append,f3]⟩
  |mv f k o=>
   obtain⟨l',m2,D2,f1,f2,f3⟩:=rV r _ m D h hW;exact⟨_,m2,D2,f1,f2,by simp only[bh,jt,List.nil_append,f3]⟩
  |tup l0=>
   obtain⟨l',m2,D2,f1,f2,f3⟩:=rV r _ m D h hW;exact⟨_,m2,D2,f1,f2,by simp only[bh,jt,List.nil_append,f3]⟩
theorem y9 (hS:Sat C n st a V D w) (hp:ft st.rho p) (hc:bF st.rho p=true):∀{l:List Operand} {ss:List SV},sK st p l=some ss->l.map a.eval=ss.map (den V)
 |[],ss,h=>by simp only[sK,de] at h;subst h;rfl
 |x::r,ss,h=>by
  simp only[sK,Option.bind_eq_some_iff,Option.map_eq_some_iff] at h;obtain⟨s,hs,ss',hr,rfl⟩:=h;simp only[bh,cV hS hp hc hs,y9 hS hp hc hr]
theorem FD {o:Oper} {fo:Operand} {args:Array Operand} {ts:Array TypeId} {f:FuncId} (ho:o.op= .call {callee:= .value fo,args,argTypes:=ts}) (hf:a.eval fo= .func (.func f) #[] #[]) (av:gM P f=true):
  (execOp a.eval o).run P w= .ok (.enter f (args.map a.eval)) w:=by
 unfold gM at av;split at av
 ·rename_i fn gm;simp only[cO,Bool.not_eq_true'] at av;have hb:fn.body.isNone=false:=by cases h:fn.body<;>simp_all
  simp only[execOp,ho,resolve,hf,Deferred.ofValue,Sem.run_bind,Sem.run_pure,Result.andThen_ok,invoke,callFunc,run_program,gm,av.1,hb,Bool.false_eq_true,if_false];simp
 ·cases av
theorem R0 {o:Oper} {fo:Operand} {args:Array Operand} {ts:Array TypeId} {f:FuncId} {x:Value} (ho:o.op= .call {callee:= .value fo,args,argTypes:=ts}) (hf:a.eval fo= .func (.func f) #[x] #[]) (av:gM P f=true):
  (execOp a.eval o).run P w= .ok (.enter f (#[x]++args.map a.eval)) w:=by
 unfold gM at av;split at av
 ·rename_i fn gm;simp only[cO,Bool.not_eq_true'] at av;have hb:fn.body.isNone=false:=by cases h:fn.body<;>simp_all
  simp only[execOp,ho,resolve,hf,Deferred.ofValue,Sem.run_bind,Sem.run_pure,Result.andThen_ok,invoke,callFunc,run_program,gm,av.1,hb,Bool.false_eq_true,if_false];simp
 ·cases av
theorem I7 (hS:Sat C n st a V D w) {f:FuncId} {ss:List SV} {K:SV->LS->Prop} {R:Ending->World->Prop} (h:Av (.mk (k:=(P,f,K)) (st,ss)))
  (hn:∀s aj V' D' w',K s aj->aj.rho=st.rho->Sat C n aj a V' D' w' ->Step st.nid st.vc aj.nid aj.vc V V' ->R (.returned (den V' s)) w'):Calls P f ⟨ss.map (den V)⟩ w R:=by
 simp only[Av,GW] at h;obtain⟨fG,h⟩:=h;simp only[Eg,FnH] at h;have hW:=hS.w;have abE:HSat (kj (r0 st.bx (nN [] ss)) V) D w (fE st (r0 st.bx (nN [] ss))):=(BS _ hW.heap).app.1.into fG.2.2.2;have:=h (kj (r0 st.bx (nN [] ss)) V) w D hW.wf hW.mle abE;rw[Lw fG.2.2.1] at this;refine this.mono fun e w2 ⟨r,V2,D2,H',m',he,h1,h2,h3,h4,h5,h6,h7,h8,h9,hback,hK⟩=> ?_
 obtain⟨V3,a1,a2,a3,a4⟩:=hW.call (r:=r) ⟨fG.1,fG.2.1,trivial,fG.2.2.2⟩ hback h1 h2 h3 h4 h5 h6 h7 h8 h9;subst he;rw[<- a2];exact hn _ _ V3 D2 w2 hK rfl (hS.to a1 (Nat.le_add_right _ _) a4 a3) ⟨a1,Nat.le_add_right _ _,a4⟩
theorem I6 (hS:Sat C n st a V D w) {f:FuncId} {ss:List SV} {b:Bool} {K:SV->LS->Prop} {R:Ending->World->Prop} (h:Au (.mk (k:=(P,f,st,ss,K)) b))
  (hn:∀s aj V' D' w',K s aj->aj.rho=st.rho->Sat C n aj a V' D' w' ->Step st.nid st.vc aj.nid aj.vc V V' ->R (.returned (den V' s)) w'):Calls P f ⟨ss.map (den V)⟩ w R:=by
 cases b with
 |true=>exact I7 hS h hn
 |false=>
  obtain⟨l',m1,D1,e1,e2,e3⟩:=rV (st:=st) ss _ st.m D h hS.w;rw[<- e3];exact I7 (st:=⟨st.env,st.rho,st.bx,st.vc,st.nid,m1⟩) ⟨hS.f,hS.ids,e2⟩ e1 hn
theorem IP (hS:Sat C n st a V D w) {tx:TypeId} {sz:Nat} {y:SV} {K:Nat->List Value->Prop} (jO:0<sz) (h:tX (.mk (k:=(P,tx,sz,K)) (st,y))):∃m news,K m news/\Src P sz tx (den V y) m news w:=by
 unfold tX at h;split at h
 ·rename_i aj k u q;simp only[A.mk.injEq,Prod.mk.injEq] at q;obtain⟨rfl,rfl⟩:=q;obtain⟨e,he,h⟩:=aB h;obtain⟨b,hb,rfl,hK⟩:=aB h;refine⟨_,_,hK,?_⟩;obtain⟨hv,rfl,rfl⟩:=vL hS hb;obtain⟨hn,hl,hx⟩:=vI hv.1;show Src P b.sz tx (Hd.val _) b.n b.xs w;rcases Nat.eq_zero_or_pos b.n with h0 |h0
  ·have kf:b.xs=[]:=List.eq_nil_of_length_eq_zero (by rw[hl,h0,Nat.zero_mul]);unfold Hd.val;rw[hn,h0,kf];cases ha:(V.γ b.id b.ver).a with
   |none=>exact Src.ofNil w (nd he) _
   |some ad=>exact Src.ofSlice w (nd he) ad 0 _ [] (by simp) (fun j u hu=>by simp at hu) (fun u hu=>by cases hu)
  ·obtain⟨g,hg,hc⟩:=hx h0;unfold Hd.val;rw[hn,hg];exact Src.ofSlice w (nd he) ⟨g,0,none⟩ b.n _ b.xs hl (fun j u hu=>by rw[BM];exact hc j u hu) hv.2.2.2
 ·rename_i aj x m cp q;simp only[A.mk.injEq,Prod.mk.injEq] at q;obtain⟨rfl,rfl⟩:=q;obtain⟨e,he,xs,h1,h2,hK⟩:=aB h;refine⟨_,_,hK,?_⟩;show Src P sz tx (.slice x m cp) m xs w;rcases Nat.eq_zero_or_pos m with h0 |h0
  ·subst h0;have kf:xs=[]:=List.eq_nil_of_length_eq_zero (by rw[h1.1,Nat.zero_mul]);subst kf;cases x with
   |none=>exact Src.ofNil w (nd he) _
   |some ad=>exact Src.ofSlice w (nd he) ad 0 _ [] (by simp) (fun j u hu=>by simp at hu) (fun u hu=>by cases hu)
  ·obtain⟨ad,rfl,hc⟩:=Ny hS.mle h1 h0;exact Src.ofSlice w (nd he) ad m _ xs h1.1 hc h2
 ·rename_i aj s q;simp only[A.mk.injEq,Prod.mk.injEq] at q;obtain⟨rfl,rfl⟩:=q;obtain⟨h1,rfl,hK⟩:=h;refine⟨_,_,hK,?_⟩;rw[xO];exact Src.ofString w h1 s
 ·cases h
theorem MH {b:Vc} {n:Nat} {xs:List Value}:(mC b n xs).id=b.id/\(mC b n xs).ver=b.ver+1:=by cases b;exact⟨rfl,rfl⟩
theorem Rm (hS:Sat C n st a V D w) {t tx e ty:TypeId} {s y:SV} {K:SV->LS->Prop} (he:gV P t=some e) (h:yk (.mk (k:=(P,e,tx,y,K)) (st,s))):
  ∃r aj V' D' w',(Builtin.append_ #[t,tx] ty #[den V s,den V y]).run P w= .ok (den V' r) w' /\K r aj/\aj.rho=st.rho/\Sat C n aj a V' D' w' /\Step st.nid st.vc aj.nid aj.vc V V' :=by
 unfold yk at h;split at h
 ·rename_i aj k u q;simp only[A.mk.injEq,Prod.mk.injEq] at q;obtain⟨rfl,rfl⟩:=q;obtain⟨b,hb,h1,h2,h3,h⟩:=aB h;obtain⟨z,hz,h4,h⟩:=aB h;obtain⟨m,news,⟨oI,hK⟩,hsrc⟩:=IP hS h3 h;obtain⟨i,hi,hisz,hiby⟩:=Gf h3;obtain⟨zv,hzv,wD⟩:=LD hi hz;obtain⟨hv,va,hbv⟩:=vL hS hb;have dA:=hv.1;rw[va,hbv,h1,h2,<- hisz] at dA;rw[<- hisz] at hsrc;obtain⟨h',w',cR,hown',hcase⟩:=Jh (ty:=ty) (nd he) hi hzv (by rw[wD,h4,hisz]) dA hsrc (by rw[hiby];exact oI);have wO:=hv.2.2;have pA:∀y' ∈b.xs++news,y'.oneCell' =true:=fun y' hy=>(List.mem_append.1 hy).elim (wO.2 y') (hsrc.one y')
  have hU:=hS.w.updVc (w' :=w') (n:=b.n+m) (hd:=h') (xs:=b.xs++news) hb (Nat.mul_le_mul_right _ (Nat.le_add_right _ _))
   (by rcases hcase with ⟨rfl,_⟩ |⟨g,cur,mN,_,_,_,rfl,_⟩ |⟨cc,_,rfl⟩<;>rfl)
   (by rcases hcase with ⟨rfl,_⟩ |⟨g,cur,mN,_,_,_,rfl,_⟩ |⟨cc,_,rfl⟩<;>rfl)
   (by rcases hcase with ⟨rfl,_⟩ |⟨g,cur,mN,_,_,_,rfl,_⟩ |⟨cc,_,rfl⟩<;>rfl)
   (by rcases hcase with ⟨rfl,_⟩ |⟨g,cur,mN,_,_,_,rfl,_⟩ |⟨cc,_,rfl⟩<;>simp)
   (fun x hx cY=>by
    rcases hcase with ⟨rfl,_⟩ |⟨g,cur,mN,_,hg,_,rfl,_⟩ |⟨cc,_,rfl⟩
    ·rfl
    ·exact setRow_other w g x _ (fun e=>cY (e▸hg))
    ·exact xa w.drew _ x hx)
   (fun x hx=>by
    rcases hcase with ⟨rfl,_⟩ |⟨g,cur,mN,_,hg,hcur,rfl,hsame⟩ |⟨cc,_,rfl⟩
    ·exact rS rfl
    ·rw[hg] at hx;obtain rfl:g=x:=Option.some.inj hx;rw[hcur,setRow_heap w g cur _ e _ hcur];exact⟨_,_,_,rfl,fun j hj=>hsame j (by rw[hisz,<- h1];exact hj)⟩
    ·exact rS (xa w.drew _ x (F6 dA hx).2))
   (by rw[h1,h2,<- hisz];exact hown')
   (fun x hx=>by
    rcases hcase with ⟨rfl,rfl⟩ |⟨g,cur,mN,gw,hg,_,rfl,_⟩ |⟨cc,gw,rfl⟩
    ·exact .inl hx
    ·rw[gw] at hx;cases hx;exact .inl hg
    ·rw[gw] at hx;cases hx;exact .inr (aq _))
   pA
  obtain⟨V',ha,hγ,hW⟩:=hU;have OW:∀k' u',k' <st.nid->bD st.vc k' u' ->bD (oL st.vc k (mC b (b.n+m) (b.xs++news))) k' u' :=fun k' u' _=>I9 hb (by rw[MH.1];exact va) (by rw[MH.2,hbv];exact Nat.le_succ _) k' u'
  refine⟨_,_,V',D,w',?_,hK,rfl,hS.to ha (aq _) OW hW,⟨ha,aq _,OW⟩⟩;rw[show den V' (.vec k (u+1))=h'.val from by show Hd.val _=_;rw[hγ]];exact cR
 ·rename_i aj q;simp only[A.mk.injEq,Prod.mk.injEq] at q;obtain⟨rfl,rfl⟩:=q;obtain⟨h3,h⟩:=h;obtain⟨z,hz,h4,h⟩:=aB h;obtain⟨m,news,⟨oI,hK⟩,hsrc⟩:=IP hS h3 h;obtain⟨i,hi,hisz,hiby⟩:=Gf h3;obtain⟨zv,hzv,wD⟩:=LD hi hz;rw[<- hisz] at hsrc;have dA:w.ownsRow 0 e i.size (Hd.val ⟨none,0,0⟩) 0 []:=World.ownsRow_nil w 0 e i.size;obtain⟨h',w',cR,hown',hcase⟩:=Jh (ty:=ty) (nd he) hi hzv (by rw[wD,h4,hisz]) dA hsrc (by rw[hiby,Nat.zero_add];exact oI);rw[Nat.zero_add,List.nil_append,hisz] at hown';obtain⟨V',ha,hγ,hW⟩:=hS.w.addVc (w' :=w') (hd:=h')
   (by rcases hcase with ⟨rfl,_⟩ |⟨g,cur,mN,_,_,_,rfl,_⟩ |⟨cc,_,rfl⟩<;>rfl)
   (by rcases hcase with ⟨rfl,_⟩ |⟨g,cur,mN,_,_,_,rfl,_⟩ |⟨cc,_,rfl⟩<;>rfl)
   (by rcases hcase with ⟨rfl,_⟩ |⟨g,cur,mN,_,_,_,rfl,_⟩ |⟨cc,_,rfl⟩<;>rfl)
   (by rcases hcase with ⟨rfl,_⟩ |⟨g,cur,mN,_,_,_,rfl,_⟩ |⟨cc,_,rfl⟩<;>simp)
   (fun x hx=>by
    rcases hcase with ⟨rfl,_⟩ |⟨g,cur,mN,_,hg,_,rfl,_⟩ |⟨cc,_,rfl⟩
    ·rfl
    ·cases hg
    ·exact xa w.drew _ x hx)
   hown'
   (fun x hx=>by
    rcases hcase with ⟨rfl,rfl⟩ |⟨g,cur,mN,gw,hg,_,rfl,_⟩ |⟨cc,gw,rfl⟩
    ·cases hx
    ·cases hg
    ·rw[gw] at hx;cases hx;exact aq _)
   h3 hsrc.one
  refine⟨_,_,V',D,w',?_,hK,rfl,hS.to ha (Nat.le_succ _) (fun k u hk hv=>rU rfl k u hk hv) hW,⟨ha,Nat.le_succ _,fun k u hk hv=>rU rfl k u hk hv⟩⟩;rw[show den V' (.vec st.nid 0)=h'.val from by show Hd.val _=_;rw[hγ]];exact cR
 ·cases h
end
theorem Jl (z:List Value) (h:0<z.length):∀len:Nat,(List.range (len * z.length)).map (fun i=>z[i % z.length]!)=(List.replicate len z).flatten
 |0=>by simp
 |len+1=>by
  rw[Nat.succ_mul,List.range_add,List.map_append,Jl z h len,List.replicate_succ',List.flatten_append];congr 1
  simp only[List.map_map,List.flatten_cons,List.flatten_nil,List.append_nil];apply List.ext_getElem?
  intro j;simp only[List.getElem?_map,Function.comp];rcases Nat.lt_or_ge j z.length with hj |hj
  ·rw[List.getElem?_range hj,List.getElem?_eq_getElem hj];simp only[Option.map_some,de,Function.comp];rw[Nat.add_comm,Nat.add_mul_mod_self_right,Nat.mod_eq_of_lt hj];simp [List.getElem!_eq_getElem?_getD,List.getElem?_eq_getElem hj]
  ·rw[List.getElem?_eq_none (by simpa using hj),List.getElem?_eq_none hj];rfl
theorem J2 (z:List Value) (len:Nat) (h:0<z.length):(Array.range (len * z.length)).map (fun i=>(⟨z⟩:Array Value)[i % (⟨z⟩:Array Value).size]!)=⟨(List.replicate len z).flatten⟩:=by
 apply Array.ext'
 rw[<- Jl z h len];simp
theorem Um {α β:Type} (f:α->β) (z:List α) (len:Nat):((List.replicate len z).flatten).map f=(List.replicate len (z.map f)).flatten:=by
 induction len with
 |zero=>rfl
 |succ k ih=>simp only[List.replicate_succ,List.flatten_cons,List.map_append,ih]
theorem FP (z:List Value) (len:Nat):((List.replicate len z).flatten).length=len * z.length:=by
 induction len with
 |zero=>simp
 |succ k ih=>simp only[List.replicate_succ,List.flatten_cons,bY,ih,Nat.succ_mul];omega
theorem SD (z:List Value) {l c:Nat} (h:l<=c):((List.replicate c z).flatten).take (l * z.length)=(List.replicate l z).flatten:=by
 obtain⟨d,rfl⟩:=Nat.exists_eq_add_of_le h;rw[<- List.replicate_append_replicate,List.flatten_append,<- FP z l];exact List.take_left
theorem Ul {z:List Value} {len:Nat} {u:Value} (h:u∈(List.replicate len z).flatten):u∈z:=by
 obtain⟨l,hl,hu⟩:=List.mem_flatten.1 h;rw[List.mem_replicate] at hl;exact hl.2▸hu
theorem KZ {nid:Nat} {vc:List Vc} {c:SV} (hc:kK nid vc c):∀(cs:List SV) (off:Nat),eL nid vc cs->eL nid vc (cs.set off c)
 |[],_,h=>h
 |_::_,0,h=>⟨hc,h.2⟩
 |_::cs,off+1,h=>⟨h.1,KZ hc cs off h.2⟩
theorem KY {nid:Nat} {vc:List Vc}:∀(l cs:List SV) (off:Nat),eL nid vc l->eL nid vc cs->eL nid vc (ke cs off l)
 |[],_,_,_,h=>h
 |_::r,_,_,hl,h=>KY r _ _ hl.2 (KZ hl.1 _ _ h)
section
variable {C:Ctx} {n:Nat} {st:LS} {a:Act} {V:Vl} {D:Nat->Nat} {w:World} {P:Program} {p:be} {c:Cfg}
theorem KQ {sz:Nat} {st:LS} {p:be} {z:List SV} (hz:z.length=sz):∀(l:List (Nat×Operand)) (i k:Nat) (pre cs:List SV),sn sz st p i l=some cs->pre.length=i * sz->cs.length=k * sz->0<sz->
  oy sz st p l (pre++(List.replicate k z).flatten)=some (pre++cs)
 |[],i,k,pre,cs,h,hp,hk,h0=>by
  simp only[sn,de] at h;subst h;have:k=0:=by
   rcases Nat.eq_zero_or_pos k with h |h
   ·exact h
   ·have:=Nat.mul_pos h h0;simp only[fm] at hk;omega
  subst this;simp [oy]
 |(j,x)::r,i,k,pre,cs,h,hp,hk,h0=>by
  simp only[sn] at h;split at h
  ·rename_i e;subst e;simp only[Option.bind_eq_some_iff] at h;obtain⟨l,hl,h⟩:=h;split at h
   ·rename_i Bm;obtain⟨cU,gd,rfl⟩:=Option.map_eq_some_iff.1 h;have aV:0<k:=by
     rcases Nat.eq_zero_or_pos k with h |h
     ·subst h;simp only[bY,Nat.zero_mul] at hk;omega
     ·exact h
    obtain⟨k',rfl⟩:∃k',k=k' +1:=⟨k - 1,by omega⟩;have lY:(List.replicate (k' +1) z).flatten=z++(List.replicate k' z).flatten:=by rw[List.replicate_succ,List.flatten_cons]
    have tr:cU.length=k' * sz:=by
     rw[Nat.add_mul] at hk;simp only[bY,Bm] at hk;omega
    simp only[oy];have hb:((bU st p x).bind ky)=some l:=by simpa [Option.bind_eq_some_iff] using hl
    rw[hb];simp only[Option.bind_some];rw[ah Bm,ah (by rw[bY,hp,lY,bY,hz];omega)];rw[lY,F4 _ _ _ (by rw[bY,hp,bY,hz,Bm];omega)];have e1:(pre++(z++(List.replicate k' z).flatten)).take (j * sz)=pre:=by rw[<- hp];exact List.take_left' rfl
    have e2:(pre++(z++(List.replicate k' z).flatten)).drop (j * sz+l.length)=(List.replicate k' z).flatten:=by
     rw[<- List.append_assoc];exact List.drop_left' (by rw[bY,hp,hz,Bm])
    rw[e1,e2,KQ hz r (j+1) k' (pre++l) cU gd (by rw[bY,hp,Bm,Nat.add_mul];omega) tr h0,List.append_assoc]
   ·cases h
  ·cases h
theorem T6 {sz len:Nat} {st:LS} {p:be} {z:List SV} {parts:List (Nat×Operand)} {cs:List SV} (hz:z.length=sz) (h0:0<sz) (h:zX sz st p parts len z (sn sz st p 0 parts)=some cs):oy sz st p parts (List.replicate len z).flatten=some cs:=by
 cases hs:sn sz st p 0 parts with
 |none=>rw[hs] at h;exact h
 |some cU=>
  rw[hs] at h;simp only[zX] at h;split at h
  ·rename_i hl;cases h;have:=KQ hz parts 0 len [] _ hs (by simp) hl h0;simpa using this
  ·exact h
theorem IJ (hS:Sat C n st a V D w) (hp:ft st.rho p) (hc:bF st.rho p=true) {sz:Nat}:
  ∀(parts:List (Nat×Operand)) (cs cU:List SV),oy sz st p parts cs=some cU->
   Instr.fill (fun i=>some (i * sz,sz)) ⟨cs.map (a7 V)⟩ (parts.map fun x=>(x.1,a.eval x.2))=some ⟨cU.map (a7 V)⟩/\cU.length=cs.length
 |[],cs,cU,h=>by simp only[oy,de] at h;subst h;exact⟨rfl,rfl⟩
 |(i,x)::r,cs,cU,h=>by
  simp only[oy] at h;obtain⟨l,hl,h⟩:=tE h;obtain⟨s,hs,hl⟩:=tE hl;split at h
  ·rename_i jO;split at h
   ·rename_i sW;have pL:=cV hS hp hc hs;have bN:=BN (V:=V) hl;have Ap:(a.eval x).cells.size=l.length:=by rw[pL,bN];simp
    obtain⟨ih,ihl⟩:=IJ hS hp hc r _ cU h;refine⟨?_,by rw[ihl,KB]⟩;simp only[bh,Instr.fill]
    rw[ae (by
     simp only[Ap,List.size_toArray,List.length_map,Bool.or_eq_true,gA,not_or,Decidable.not_not]
     exact⟨by simpa using jO,by omega⟩)]
    have GS:((a.eval x).cells.zipIdx.foldl (fun(cs:Array Value) (y:Value×Nat)=>cs.setIfInBounds (i * sz+y.2) y.1) ⟨cs.map (a7 V)⟩)=⟨(ke cs (i * sz) l).map (a7 V)⟩:=by
     rw[pL,bN,<- Array.foldl_toList];have:=FN (V:=V) l cs (i * sz) 0;simp only[Nat.add_zero] at this;rw[<- this];simp [Array.toList_zipIdx]
    rw[<- ih,<- GS]
   ·cases h
  ·cases h
theorem PS (hS:Sat C n st a V D w) (hp:ft st.rho p) (hc:bF st.rho p=true) {t e:TypeId} {len:Nat} {parts:Array (Nat×Operand)} {z cs:List SV}
    (he:gV P t=some e) (hz:eV P e=some z) (rJ:z.length=bf P e) (h0:0<bf P e) (rE:len * bf P e<=16777216) (h:oy (bf P e) st p parts.toList (List.replicate len z).flatten=some cs):
    (Instr.buildSlice t len (parts.map fun x=>(x.1,a.eval x.2))).run P w= .ok (.slice (some ⟨w.heap.size,0,none⟩) len len) (w.alloc (.cells ⟨cs.map (a7 V)⟩ e))/\cs.length=len * bf P e:=by
  obtain⟨yb,hlen⟩:=IJ hS hp hc _ _ _ h;have NT:cs.length=len * bf P e:=by
    rw[hlen];have:((List.replicate len z).flatten).length=len * z.length:=by
      induction len with
      |zero=>simp
      |succ k _=>simp
    rw[this,rJ]
  refine⟨?_,NT⟩;obtain⟨zv,hzv,hzc⟩:=EF (V:=V) (w:=w) hz;have Ng:(parts.map fun x=>(x.1,a.eval x.2)).toList=parts.toList.map fun x=>(x.1,a.eval x.2):=by simp
  simp only[Instr.buildSlice,Sem.run_bind,run_underlying (nd he),Result.andThen_ok,zD h0]
  rw[ae (by have:(2:Nat) ^ 24=16777216:=by decide
            omega)]
  rcases Nat.eq_zero_or_pos len with hl |hl
  · subst hl
    simp only[Nat.zero_mul,Array.range_zero',List.replicate_zero,List.flatten_nil] at h yb ⊢;have gd:cs=[]:=List.eq_nil_of_length_eq_zero (by simpa using NT);subst gd;simp only[if_true,Sem.run_pure,Result.andThen_ok,Ng,Sem.run_bind];simp only[List.map_nil] at yb;have:(#[]:Array Nat).map (fun i=>(#[]:Array Value)[i % (#[]:Array Value).size]!)= #[]:=by simp
    rw[this];rw[yb];simp [newRow]
  · have cY:¬len * bf P e=0:=by have:=Nat.mul_pos hl h0;omega
    rw[ae cY];simp only[Sem.run_bind,Sem.run_pure,Result.andThen_ok,hzv,hzc,Ng];have YI:(Array.range (len * bf P e)).map (fun i=>(⟨z.map (a7 V)⟩:Array Value)[i % (⟨z.map (a7 V)⟩:Array Value).size]!)=⟨((List.replicate len z).flatten).map (a7 V)⟩:=by
      have:=J2 (z.map (a7 V)) len (by simp;omega);simp only[List.length_map,rJ] at this;rw[this,Um]
    rw[YI,yb];simp [newRow]
theorem tY {o:Oper} {v:Value} {w' :World} {next:Act->World->Prop} {Q:Exit->Act->World->Prop} (h:(execOp a.eval o).run P w= .ok (.value v) w') (hn:next (a.put o.dst v) w'):o.wp P a w next Q:=by
 unfold Oper.wp;rw[h];exact hn
theorem Kr {o:Oper} {w' :World} {next:Act->World->Prop} {Q:Exit->Act->World->Prop} (h:(execOp a.eval o).run P w= .ok .skip w') (hn:next (a.put o.dst undef) w'):o.wp P a w next Q:=by
 unfold Oper.wp;rw[h];exact hn
theorem Sz (hS:Sat C n st a V D w) (hp:ft st.rho p) (hc:bF st.rho p=true) {o:Oper} {op:Op} (ho:o.op=op) {K:SV->LS->Prop} (h:nT (.mk (k:=(c,P,op,K)) (st,p)))
  {next:Act->World->Prop} {Q:Exit->Act->World->Prop} (hn:∀s aj V' D' w',K s aj->aj.rho=st.rho->Sat C n aj a V' D' w' ->Step st.nid st.vc aj.nid aj.vc V V' ->next (a.put o.dst (den V' s)) w'):o.wp P a w next Q:=by
 unfold nT at h;split at h
 ·rename_i t aj p' q;cases q;obtain⟨cs,hz,dI,av,hK⟩:=aB h;obtain⟨zv,hzv,hzc⟩:=EF (V:=V) (w:=w) hz;obtain⟨V',ha,hβ,hW⟩:=hS.w.addBx (t:=t) (EE dI) av;have cR:(Instr.alloc t true (.tuple #[])).run P w= .ok (.pointer (some ⟨w.heap.size,0,none⟩)) (w.alloc (.cells ⟨cs.map (a7 V)⟩ t)):=by
   simp [Instr.alloc,hzv,newVar,newRow,hzc]
  refine tY (v:= .pointer (some ⟨w.heap.size,0,none⟩)) (by simp only[execOp,ho];exact jR cR) ?_;have:=hn _ _ V' D _ hK rfl (hS.to ha (Nat.le_succ _) (fun _ _ _ h=>h) hW) ⟨ha,Nat.le_succ _,fun _ _ _ h=>h⟩;rwa [xK,hβ] at this
 ·rename_i t x aj p' q;cases q;obtain⟨cs,gd,dI,av,hK⟩:=aB h;obtain⟨s,hs,gd⟩:=tE gd;obtain⟨V',ha,hβ,hW⟩:=hS.w.addBx (t:=t) (EE dI) av;have bN:=BN (V:=V) gd;have cR:(Instr.box t (den V s)).run P w= .ok (.pointer (some ⟨w.heap.size,0,none⟩)) (w.alloc (.cells ⟨cs.map (a7 V)⟩ t)):=by
   simp [Instr.box,newVar,newRow,bN]
  refine tY (v:= .pointer (some ⟨w.heap.size,0,none⟩)) (by simp only[execOp,ho,cV hS hp hc hs];exact jR cR) ?_;have:=hn _ _ V' D _ hK rfl (hS.to ha (Nat.le_succ _) (fun _ _ _ h=>h) hW) ⟨ha,Nat.le_succ _,fun _ _ _ h=>h⟩;rwa [xK,hβ] at this
 ·rename_i t x y aj p' q;cases q;obtain⟨sx,hx,h1⟩:=aB h;obtain⟨cs,gd,h2⟩:=aB h1;obtain⟨sy,hy,gd⟩:=tE gd;clear h h1;unfold Dz at h2;split at h2
  ·rename_i aj k off q;simp only[A.mk.injEq,Prod.mk.injEq] at q;obtain⟨rfl,rfl⟩:=q;obtain⟨b,hb,dI,h0,jO,pA,av,sW,hK⟩:=aB h2;obtain⟨va,dS⟩:=sj hb;obtain⟨ob,uA,hob⟩:=(hS.heap.bx b dS).1;have abo:=Ly dI hob;subst abo;rw[va] at uA;have aeE:(cs.map (a7 V))=cs.map (a7 V):=rfl
   have hW:=hS.w.setBx (cs:=ke b.cs off cs) hb dI (by
    have wO:=(hS.w.ids.1 b dS).2
    exact KY cs b.cs off av wO)
   have bN:=BN (V:=V) gd;have fQ:=run_storeCells_at P (V.β k) off b.ty (cs.map (a7 V)) 0 ⟨b.cs.map (a7 V)⟩ w uA (by simp;exact sW) (se pA);have cR:(Instr.storeAt t (.pointer (some ⟨V.β k,off,none⟩)) (den V sy)).run P w= .ok () (w.setRow (V.β k) ⟨(ke b.cs off cs).map (a7 V)⟩):=by
    have Ap:(den V sy).cells.size=bf P t:=by rw[bN];simpa using jO
    simp only[Instr.storeAt,Instr.sureAddr,Sem.run_bind,Sem.run_pure,Result.andThen_ok,storeVar,zD h0];rw[ae (by rw[Ap];simp)];rw[bN];rw[F4 _ _ _ sW];simp only[Nat.add_zero] at fQ;simp only[List.map_append,List.map_take,List.map_drop];rw[<- List.length_map (f:=a7 V)];exact fQ
   refine Kr (w' :=w.setRow (V.β k) ⟨(ke b.cs off cs).map (a7 V)⟩) (by
    simp only[execOp,ho,cV hS hp hc hx,cV hS hp hc hy,xK,Sem.run_bind,cR,Result.andThen_ok,Sem.run_pure]) ?_
   exact hn _ _ V D _ hK rfl (hS.to (Agree.refl _ _ _) (aq _) (fun _ _ _ h=>h) hW) ⟨Agree.refl _ _ _,aq _,fun _ _ _ h=>h⟩
  ·cases h2
 ·rename_i t len parts aj p' q;cases q;obtain⟨e,he,h⟩:=aB h;obtain⟨z,hz,rJ,h0,rE,h⟩:=aB h;obtain⟨cs,gd,h⟩:=aB h;have gd:=T6 rJ h0 gd;obtain⟨l',m1,D1,e1,e2,e3,_⟩:=pP (st:=st) cs _ st.m D h hS.w;obtain⟨l,hl,pA,hK⟩:=aB e1;have km:=BV (V:=V) hl;obtain⟨cR,hclen⟩:=PS hS hp hc he hz rJ h0 rE gd;rw[<- e3,km] at cR;have uZ:l.length=len * bf P e:=by
   rw[<- km,e3,List.length_map,hclen]
  obtain⟨V',ha,hγ,hW⟩:=SatW.addVc (w' :=w.alloc (.cells ⟨l⟩ e)) (hd:=⟨some ⟨w.heap.size,0,none⟩,len,len⟩) (e:=e) (sz:=bf P e) (n:=len) (xs:=l) e2 rfl rfl rfl (by simp) (fun b hb=>xa w _ b hb)
   ⟨uZ,.inr ⟨w.heap.size,len,⟨l⟩,rfl,au _,heap_alloc_new w _,aq _,by
    have:len<=len * bf P e:=Nat.le_mul_of_pos_right _ h0
    simp only[maxLen];omega,by simpa using uZ,by rw[<- uZ];simp⟩⟩
   (fun g hg=>by simp only[Hd.blk,Option.map_some,de] at hg;omega) h0
   (fun u hu=>by rw[<- km] at hu;exact se pA u hu)
  refine tY (v:= .slice (some ⟨w.heap.size,0,none⟩) len len) (by simp only[execOp,ho];exact jR cR) ?_;have:=hn _ _ V' D1 _ hK rfl (Sat.to (st:=⟨st.env,st.rho,st.bx,st.vc,st.nid,m1⟩) ⟨hS.f,hS.ids,e2⟩ ha (Nat.le_succ _) (fun k u hk hv=>rU rfl k u hk hv) hW) ⟨ha,Nat.le_succ _,fun k u hk hv=>rU rfl k u hk hv⟩;rwa [show den V' (.vec st.nid 0)= .slice (some ⟨w.heap.size,0,none⟩) len len from by show Hd.val _=_;rw[hγ];rfl] at this
 ·rename_i x y t tx aj p' q;cases q;obtain⟨sx,hx,h⟩:=aB h;obtain⟨sy,hy,h⟩:=aB h;obtain⟨e,he,h⟩:=aB h;obtain⟨r,aj,V',D',w',cR,hK,fD,fv,ha⟩:=Rm (ty:=o.type) hS he h;rw[<- cV hS hp hc hx,<- cV hS hp hc hy] at cR
  refine tY (v:=den V' r) (by
   simp only[execOp,ho,resolve,Sem.run_bind,Sem.run_pure,Result.andThen_ok,invoke,builtin]
   simp only[List.map_toArray,bh,List.map_nil,cR,Result.andThen_ok]) (hn _ _ V' D' w' hK fD fv ha)
 ·rename_i t l cp aj p' q;cases q;obtain⟨sl,hl,h1⟩:=aB h;obtain⟨sc,bb,h2⟩:=aB h1;obtain⟨e,he,h3⟩:=aB h2;obtain⟨z,hz,h4⟩:=aB h3;clear h h1 h2 h3;obtain⟨zs,wD,hz⟩:=tE hz;unfold DV at h4;split at h4
  ·rename_i aj kl l' kc c' q;simp only[A.mk.injEq,Prod.mk.injEq] at q;obtain⟨rfl,rfl,rfl⟩:=q;obtain⟨O9,hlc,oI,rJ,h0,pA,hK⟩:=h4;obtain⟨i,hi,hisz,hiby⟩:=Gf h0;have G7:=wD;unfold eV at G7;simp only[Option.map_eq_some_iff,Option.bind_eq_some_iff] at G7;obtain⟨zv,⟨i',jq,hzv⟩,hzz⟩:=G7;rw[hi] at jq;cases jq;have abg:zv.cells=⟨z⟩:=by
    have:=BV (V:=V) hz;rw[<- hzz,xW] at this;rw[<- this]
   have YQ:0<=c' :=by omega
   have cR:=run_make (P:=P) w t e i zv (nd he) hi hzv kl kc l' c' O9 hlc (by
    have:=oI.1;rw[<- hiby] at this;have hh:((i.bytes * c'.toNat:Nat):Int)<=281474976710656:=by rw[Nat.mul_comm];omega
    rw[Int.natCast_mul,Int.toNat_of_nonneg YQ] at hh
    exact hh) (by have:=oI.2;simp only[maxLen] at this;omega)
   have Xv:madeCells zv.cells (c'.toNat * i.size)=⟨(List.replicate c'.toNat z).flatten⟩:=by
    unfold madeCells;rw[abg,hisz,<- rJ];exact J2 z _ (by omega)
   rw[Xv] at cR;have hlen:((List.replicate l'.toNat z).flatten).length=l'.toNat * bf P e:=by rw[FP,rJ]
   obtain⟨V',ha,hγ,hW⟩:=SatW.addVc (w' :=w.alloc (.cells ⟨(List.replicate c'.toNat z).flatten⟩ e)) (hd:=⟨some ⟨w.heap.size,0,none⟩,l'.toNat,c'.toNat⟩) (e:=e) (sz:=bf P e) (n:=l'.toNat) (xs:=(List.replicate l'.toNat z).flatten)
    hS.w rfl rfl rfl (by simp) (fun b hb=>xa w _ b hb)
    ⟨hlen,.inr ⟨w.heap.size,c'.toNat,⟨(List.replicate c'.toNat z).flatten⟩,rfl,au _,heap_alloc_new w _,by omega,oI.2,by simp only[List.size_toArray,FP,rJ],by
     show((List.replicate c'.toNat z).flatten).take (l'.toNat * bf P e)=_
     rw[<- rJ];exact SD z (by omega)⟩⟩
    (fun g hg=>by simp only[Hd.blk,Option.map_some,de] at hg;omega) h0
    (fun u hu=>by
     have:=se (V:=V) pA u;rw[xW] at this
     exact this (Ul hu))
   refine tY (v:= .slice (some ⟨w.heap.size,0,none⟩) l'.toNat c'.toNat) (by
    simp only[execOp,ho,cV hS hp hc hl,cV hS hp hc bb,eb]
    exact jR cR) ?_
   have:=hn _ _ V' D _ hK rfl (hS.to ha (Nat.le_succ _) (fun k u hk hv=>rU rfl k u hk hv) hW) ⟨ha,Nat.le_succ _,fun k u hk hv=>rU rfl k u hk hv⟩;rwa [show den V' (.vec st.nid 0)= .slice (some ⟨w.heap.size,0,none⟩) l'.toNat c'.toNat from by show Hd.val _=_;rw[hγ];rfl] at this
  ·cases h4
 ·rename_i t aj p' q;cases q;obtain⟨uY,h⟩:=h;obtain⟨V',ha,hβ,hW⟩:=hS.w.addBx (t:=(im P t).1) (cs:=[]) (o:= .map #[] 0) (by unfold lL;rw[ae (Nat.not_lt.2 uY.1)];exact⟨#[],0,[],rfl,rfl,rfl,fun x hx=>by cases hx⟩) trivial;have cR:(Instr.makeMap t (Option.map a.eval none)).run P w= .ok (.map (some w.heap.size)) (w.alloc (.map #[] 0)):=by
   simp [Instr.makeMap]
  refine tY (v:= .map (some w.heap.size)) (by simp only[execOp,ho];exact jR cR) ?_;have:=hn _ _ V' D _ h rfl (hS.to ha (Nat.le_succ _) (fun _ _ _ h=>h) hW) ⟨ha,Nat.le_succ _,fun _ _ _ h=>h⟩;rwa [show den V' (.mp st.nid)= .map (some w.heap.size) from by show Value.map _=_;rw[hβ]] at this
 ·rename_i f r aj p' q;cases q;obtain⟨sr,hr,h1⟩:=aB h;clear h;unfold DU at h1;split at h1
  ·rename_i aj k o' q;simp only[A.mk.injEq,Prod.mk.injEq] at q;obtain⟨rfl,rfl⟩:=q;have cR:(Instr.makeFunc (.func f) (Array.map a.eval #[r]) (Array.map a.eval #[])).run P w= .ok (den V (.mv f k o')) w:=by
    have e:Array.map a.eval #[r]= #[den V (.box k o')]:=by
     apply Array.ext'
     simp only[Array.toList_map,bh,List.map_nil];rw[cV hS hp hc hr]
    rw[e];simp [Instr.makeFunc];rfl
   refine tY (v:=den V (.mv f k o')) (by simp only[execOp,ho];exact jR cR) ?_;exact hn _ _ V D _ h1 rfl (hS.to (Agree.refl _ _ _) (aq _) (fun _ _ _ h=>h) hS.w) ⟨Agree.refl _ _ _,aq _,fun _ _ _ h=>h⟩
  ·cases h1
 ·rename_i t m k x aj p' q;cases q;obtain⟨sm,hm,h1⟩:=aB h;obtain⟨sk,hk,h2⟩:=aB h1;obtain⟨sx,hx,h3⟩:=aB h2;clear h h1 h2;unfold DA at h3;split at h3
  ·rename_i aj j s v q;simp only[A.mk.injEq,Prod.mk.injEq] at q;obtain⟨rfl,rfl,pG,hpv⟩:=q;obtain⟨b,hb,dI,ht,eP,hvv,h4⟩:=aB h3;obtain⟨l,hl,hK⟩:=aB h4;have DJ:=beq_iff_eq.1 dI;obtain⟨es,oX,l',e1,e2,e3,e4⟩:=MW hS hb (by rw[DJ];exact ht.1);rw[B6 hl] at e2;subst e2;have Px:=e4;rw[DJ] at Px;obtain⟨wT,yr,cR,hes'⟩:=QJ (P:=P) (w:=w) ht e1 e3 Px (by rw[<- DJ];exact eP) v;rw[KM] at hK;have ao:V.β j<w.heap.size:=(Array.getElem?_eq_some_iff.1 e1).1;have Hf:((mL (lP l' s v)).map SV.v).map (a7 V)=mL (lP l' s v):=by rw[List.map_map];exact List.map_id'' (fun _=>rfl) _
   have abk:eL st.nid st.vc ((mL (lP l' s v)).map SV.v):=by
    generalize mL (lP l' s v)=z
    induction z with
    |nil=>trivial
    |cons y z ih=>exact⟨trivial,ih⟩
   have hW:=hS.w.setOb (w' :={w with heap:=w.heap.setIfInBounds (V.β j) (.map wT yr)}) (o:= .map wT yr) (cs:=(mL (lP l' s v)).map SV.v) hb abk
    (by unfold lL;rw[ae (Nat.not_lt.2 (by rw[DJ];exact ht.1)),Hf];exact⟨wT,yr,_,rfl,rfl,hes',LV eP hvv e4⟩) rfl rfl rfl (by simp) (MapKept.heap_set e1).1 (fun g hg=>(MapKept.heap_set e1).2 g hg)
   refine Kr (w' :={w with heap:=w.heap.setIfInBounds (V.β j) (.map wT yr)}) (by
    simp only[execOp,ho,cV hS hp hc hm,cV hS hp hc hk,cV hS hp hc hx,Sem.run_bind];rw[show den V (.mp j)= .map (some (V.β j)) from rfl,E6 pG,E6 hpv,cR]
    rfl) ?_
   exact hn _ _ V D _ hK rfl (hS.to (Agree.refl _ _ _) (aq _) (fun _ _ _ h=>h) hW) ⟨Agree.refl _ _ _,aq _,fun _ _ _ h=>h⟩
  ·cases h3
 ·rename_i fo args _ aj p' q;cases q;obtain⟨l,hl,h1⟩:=aB h;obtain⟨sf,hf,h2⟩:=aB h1;clear h h1;unfold Al at h2;split at h2
  ·rename_i aj f q;simp only[A.mk.injEq,Prod.mk.injEq] at q;obtain⟨rfl,rfl⟩:=q;obtain⟨av,h3⟩:=h2;have cR:=FD (w:=w) ho (cV hS hp hc hf) av;unfold Oper.wp;rw[cR];have qg:args.map a.eval=⟨l.map (den V)⟩:=by
    apply Array.ext'
    rw[Array.toList_map,y9 hS hp hc hl]
   rw[qg];refine I6 (R:=fun | .returned v,pD=>next (a.put o.dst v) pD | .panicked chain,pD=>Q (.panic chain) a pD | .outgrown,_=>LetsOut Q) hS h3 ?_;intro s aj V' D' w' hK fD fv ha;exact hn s aj V' D' w' hK fD fv ha
  ·rename_i aj f k o' q;simp only[A.mk.injEq,Prod.mk.injEq] at q;obtain⟨rfl,rfl⟩:=q;obtain⟨av,h3⟩:=h2;have cR:=R0 (w:=w) ho (cV hS hp hc hf) av;unfold Oper.wp;rw[cR];have qg: #[Value.pointer (some ⟨V.β k,o',none⟩)]++args.map a.eval=⟨(SV.box k o' ::l).map (den V)⟩:=by
    apply Array.ext'
    simp only[Array.toList_append,Array.toList_map,y9 hS hp hc hl,bh];rfl
   rw[qg];refine I6 (R:=fun | .returned v,pD=>next (a.put o.dst v) pD | .panicked chain,pD=>Q (.panic chain) a pD | .outgrown,_=>LetsOut Q) hS h3 ?_;intro s aj V' D' w' hK fD fv ha;exact hn s aj V' D' w' hK fD fv ha
  ·cases h2
 ·cases h
end
def lI (n:Nat) (o:Oper):Bool:=match o.dst with |some d=>decide (d<n) |none=>true
def RInv (ops:Array Oper) (L:Nat->Prop) (rho:List Gd):Prop:=∀g∈rho,L g.i/\(ops[g.i]?).bind (·.dst)=some g.slot
def cd (c:Cfg) (P:Program):Prop:=
 ∀f F,c.pure f=some F->gM P f=true/\∀m b5 y,F m b5=some y->y.1->FnH P f (b5.map SV.v) ⟨[],[]⟩ m (fun r H' _=>r= .v y.2/\H' =⟨[],[]⟩)
theorem yW {g:Gd} {rho:List Gd} {j:Nat} (h:g.i≠j):fF (g::rho) j=fF rho j:=by
 obtain⟨i,t,p,b⟩:=g;simp only[fF];rw[ae h]
theorem BP {g:Gd} {rho:List Gd}:fF (g::rho) g.i=some g:=by
 obtain⟨i,t,p,b⟩:=g;simp only[fF,if_true]
theorem Fx {g:Gd} {rho:List Gd} {p:be} (h:ft rho p):ft (g::rho) p:=fun x hx=>by
 obtain⟨g',gw⟩:=h x hx;by_cases e:g.i=x.1
 ·exact⟨g,by rw[<- e];exact BP⟩
 ·exact⟨g',by rw[yW e];exact gw⟩
theorem SB {g:Gd} {rho:List Gd} {j:Nat} {w:Bool} (h:g.i≠j):nO (g::rho) j w=nO rho j w:=by
 unfold nO;rw[yW h]
theorem JA {g:Gd} {rho:List Gd}:∀{p:be},(∀x∈p,x.1≠g.i)->bF (g::rho) p=bF rho p
 |[],_=>rfl
 |(j,w)::p,h=>by
  simp only[bF];rw[SB (fun e=>h (j,w) (df ..) e.symm),JA fun x hx=>h x (cu _ hx)]
theorem WS {rho:List Gd} {i:Nat} (hi:∀g∈rho,g.i≠i) {p:be} (h:ft rho p):∀x∈p,x.1≠i:=fun x hx e=>by
 obtain⟨g,hg⟩:=h x hx;obtain⟨h1,h2⟩:=Dh hg;exact hi g h2 (h1.trans e)
theorem Jm:∀p:be,po p p=true
 |[]=>rfl
 |(j,w)::p=>by simp only[po,if_true];exact Jm p
theorem Tx:∀p:be,mP p p=true
 |[]=>rfl
 |x::p=>by simp only[mP];rw[ah (Jm _)]
theorem VG {env:List Ev} {t:Nat} {q:be} {s:SV} (h:fj env t q=some s):∃e∈env,mP e.p q=true/\fj env t e.p=some s:=by
 induction env with
 |nil=>cases h
 |cons x r ih=>
  obtain⟨t',p',s'⟩:=x;simp only[fj] at h;split at h
  ·rename_i ht;split at h
   ·rename_i wI;refine⟨_,df ..,wI,?_⟩;simp only[fj];rw[ah ht,ah (Tx p')];exact h
   ·cases h
  ·rename_i ht;obtain⟨e,he,h1,h2⟩:=ih h;refine⟨e,cu _ he,h1,?_⟩;simp only[fj];rw[ae ht];exact h2
theorem Ka {d:Nat}:∀{rho:List Gd},jE rho (some d)=false->∀g∈rho,g.slot≠d
 |[],_,_,hg=>by cases hg
 |⟨i,t,p,b⟩::r,h,g,hg=>by
  simp only[jE] at h;split at h
  ·cases h
  ·rename_i cY;rcases List.mem_cons.1 hg with rfl |hg
   ·exact cY
   ·exact Ka h g hg
section
variable {C:Ctx} {n:Nat} {st:LS} {a:Act} {V:Vl} {D:Nat->Nat} {w:World} {P:Program} {p:be} {c:Cfg} {ops:Array Oper} {L:Nat->Prop} {i:Nat} {o:Oper}
theorem F5 (hS:Sat C n st a V D w) {d:Nat} (hd:d<n) (v:Value):(a.put (some d) v).tmps[d]? =some v:=by
 have:=hS.f.size;simp only[Act.put];rw[Array.getElem?_setIfInBounds_self_of_lt (by omega)]
theorem JO {d t:Nat} (v:Value) (h:t≠d):(a.put (some d) v).tmps[t]? =a.tmps[t]? :=by
 simp only[Act.put];rw[Array.getElem?_setIfInBounds_ne (fun e=>h e.symm)]
theorem Sat.put (hS:Sat C n st a V D w) {d:Option Nat} (hd:∀x,d=some x->x<n) (hit:jE st.rho d=false) (hp:ft st.rho p) {s:SV} (hs:ix st.nid st.vc s) {v:Value}
  (hv:bF st.rho p=true->v=den V s):Sat C n (E.put st d p s) (a.put d v) V D w:=by
 cases d with
 |none=>exact hS
 |some d=>
  refine⟨⟨hS.f.defers,by simp only[Act.put,Array.size_setIfInBounds];exact hS.f.size,?_,?_,?_⟩,?_,hS.w⟩
  ·intro e he;rcases List.mem_cons.1 he with rfl |he
   ·exact hp
   ·exact hS.f.pth e he
  ·intro t q s' hq hl hc;simp only[E.put,fj] at hl;split at hl
   ·rename_i ht;subst ht;split at hl
    ·rename_i wI;cases hl;rw[F5 hS (hd _ rfl),hv (Ck wI hc)]
    ·cases hl
   ·rename_i ht;rw[JO _ (fun e=>ht e.symm)];exact hS.f.env t q s' hq hl hc
  ·intro g hg;obtain⟨h1,h2,h3⟩:=hS.f.rho g hg;exact⟨h1,h2,by rw[JO _ (Ka hit g hg)];exact h3⟩
  ·intro e he;rcases List.mem_cons.1 he with rfl |he
   ·exact hs
   ·exact hS.ids e he
theorem Sat.note (hS:Sat C n st a V D w) (hp:ft st.rho p) {b:Bool} {d:Nat} (hi:∀g∈st.rho,g.i≠i) (ht:a.tmps[d]? =some (if bF st.rho p=true then .bool b else undef)):
  Sat C n ⟨st.env,⟨i,d,p,.sym b⟩::st.rho,st.bx,st.vc,st.nid,st.m⟩ a V D w:=by
 have hc:∀{q:be},ft st.rho q->bF (⟨i,d,p,.sym b⟩::st.rho) q=bF st.rho q:=fun hq=>JA (WS hi hq)
 refine⟨⟨hS.f.defers,hS.f.size,fun e he=>Fx (hS.f.pth e he),?_,?_⟩,hS.ids,hS.w⟩
 ·intro t q s hq hl u9;obtain⟨e,he,wI,mU⟩:=VG hl;have OV:=hS.f.pth e he;exact hS.f.env t e.p s OV mU (by rw[<- hc OV];exact Ck wI u9)
 ·intro g hg;rcases List.mem_cons.1 hg with rfl |hg
  ·exact⟨BP,Fx hp,by rw[hc hp];exact ht⟩
  ·obtain⟨h1,h2,h3⟩:=hS.f.rho g hg;have:=hi g hg;exact⟨by rw[yW (fun e=>this e.symm)];exact h1,Fx h2,by rw[hc h2];exact h3⟩
/-! Forks. -/
structure Fk (st aj:LS):Prop where
 eqs:aj.bx=st.bx/\aj.vc=st.vc/\aj.nid=st.nid/\aj.m=st.m
 cond:∀q,bF aj.rho q=bF st.rho q
 wf:∀q,ft st.rho q->ft aj.rho q
 hit:∀d,jE aj.rho d=jE st.rho d
 inv:∀ops (L:Nat->Prop),RInv ops L st.rho->RInv ops L aj.rho
theorem Fk.refl (st:LS):Fk st st:=⟨⟨rfl,rfl,rfl,rfl⟩,fun _=>rfl,fun _ h=>h,fun _=>rfl,fun _ _ h=>h⟩
theorem Fk.trans {st aj kD:LS} (h:Fk st aj) (h' :Fk aj kD):Fk st kD:=
 ⟨⟨h'.eqs.1.trans h.eqs.1,h'.eqs.2.1.trans h.eqs.2.1,h'.eqs.2.2.1.trans h.eqs.2.2.1,h'.eqs.2.2.2.trans h.eqs.2.2.2⟩,fun q=>(h'.cond q).trans (h.cond q),fun q x=>h'.wf q (h.wf q x),
  fun d=>(h'.hit d).trans (h.hit d),fun o i x=>h'.inv o i (h.inv o i x)⟩
theorem Step.same {nid gK:Nat} {vc dV:List Vc} (h1:gK=nid) (h2:dV=vc) (V:Vl):Step nid vc gK dV V V:=by
 subst h1 h2;exact⟨Agree.refl _ _ _,aq _,fun _ _ _ h=>h⟩
theorem Step.trans {nid gK NI:Nat} {vc dV N3:List Vc} {V V' PD:Vl} (h:Step nid vc gK dV V V') (h' :Step gK dV NI N3 V' PD):Step nid vc NI N3 V PD:=
 ⟨fun k hk=>⟨((h'.agr k (dM hk h.up)).1).trans (h.agr k hk).1,fun u hu=>((h'.agr k (dM hk h.up)).2 u (h.ver k u hk hu)).trans ((h.agr k hk).2 u hu)⟩,cg h.up h'.up,
  fun k u hk hu=>h'.ver k u (dM hk h.up) (h.ver k u hk hu)⟩
theorem Fk.step {st aj:LS} (h:Fk st aj) (V:Vl):Step st.nid st.vc aj.nid aj.vc V V:=Step.same h.eqs.2.2.1 h.eqs.2.1 V
def rF (j:Nat) (x:Bool) (g:Gd):Gd:=if g.i=j then⟨g.i,g.slot,g.p,.lit x⟩ else g
theorem zK {j:Nat} {x:Bool}:∀{rho:List Gd},kF rho j x=rho.map (rF j x)
 |[]=>rfl
 |⟨i,t,p,b⟩::r=>by
  simp only[kF,bh,rF];split
  ·rw[zK]
  ·rw[zK]
theorem C6 {j:Nat} {x:Bool} (g:Gd):(rF j x g).i=g.i/\(rF j x g).slot=g.slot/\(rF j x g).p=g.p:=by
 unfold rF;split<;>exact⟨rfl,rfl,rfl⟩
theorem M1 {f:Gd->Gd} (hf:∀g,(f g).i=g.i):∀{rho:List Gd} (k:Nat),fF (rho.map f) k=(fF rho k).map f
 |[],_=>rfl
 |g::r,k=>by
  by_cases e:g.i=k
  ·subst e;rw[BP,bh,<- hf g,BP];rfl
  ·rw[yW e,bh,yW (by rw[hf];exact e),M1 hf]
theorem C5 {rho:List Gd} {j:Nat} {x:Bool} (k:Nat):fF (kF rho j x) k=(fF rho k).map (rF j x):=by
 rw[zK];exact M1 (fun g=>(C6 g).1) k
theorem Ms {rho:List Gd} {j:Nat} {x:Bool} {g:Gd} (h:g∈kF rho j x):∃g' ∈rho,g=rF j x g' :=by
 rw[zK] at h;obtain⟨g',h1,h2⟩:=List.mem_map.1 h;exact⟨g',h1,h2.symm⟩
theorem Mn {f:Gd->Gd} (hf:∀g,(f g).slot=g.slot) {d:Option Nat}:∀{rho:List Gd},jE (rho.map f) d=jE rho d
 |[]=>rfl
 |g::r=>by
  cases d with
  |none=>rfl
  |some d=>
   have h1:∀(g:Gd) (r:List Gd),jE (g::r) (some d)=if g.slot=d then true else jE r (some d):=fun g r=>by cases g;rfl
   rw[bh,h1,h1,hf,Mn hf]
theorem Wr {j:Nat} {x:Bool} {d:Option Nat} {rho:List Gd}:jE (kF rho j x) d=jE rho d:=by
 rw[zK];exact Mn fun g=>(C6 g).2.1
theorem Mr {rho:List Gd} {j k:Nat} {x:Bool} {g g' :Gd} (hg:fF rho j=some g) (hb:g.b.val=x) (hk:fF rho k=some g'):(rF j x g').b.val=g'.b.val:=by
 unfold rF;split
 ·rename_i e;have:=(Dh hk).1;rw[this] at e;subst e;rw[hg] at hk;cases hk;exact hb.symm
 ·rfl
theorem Uo {rho:List Gd} {j k:Nat} {x u:Bool} {g:Gd} (hg:fF rho j=some g) (hb:g.b.val=x):nO (kF rho j x) k u=nO rho k u:=by
 unfold nO;rw[C5];cases hk:fF rho k with
 |none=>rfl
 |some g' =>simp only[Option.map_some,Mr hg hb hk]
theorem Lq {rho:List Gd} {j:Nat} {x:Bool} {g:Gd} (hg:fF rho j=some g) (hb:g.b.val=x):∀q:be,bF (kF rho j x) q=bF rho q
 |[]=>rfl
 |(k,u)::q=>by simp only[bF];rw[Uo hg hb,Lq hg hb q]
theorem z8 {rho:List Gd} {j:Nat} {x:Bool} {q:be}:ft (kF rho j x) q↔ft rho q:=by
 constructor
 ·intro h y hy;obtain⟨g,hg⟩:=h y hy;rw[C5] at hg;obtain⟨g',gw,_⟩:=Option.map_eq_some_iff.1 hg;exact⟨g',gw⟩
 ·intro h y hy;obtain⟨g,hg⟩:=h y hy;exact⟨_,by rw[C5,hg];rfl⟩
theorem Uk (hS:Sat C n st a V D w) {j t:Nat} {q:be} {b:GB} {i' :Nat} {x:Bool} (hg:fF st.rho j=some ⟨i',t,q,b⟩) (hb:b.val=x):
  Sat C n ⟨⟨t,q,.v (.bool x)⟩::st.env,kF st.rho j x,st.bx,st.vc,st.nid,st.m⟩ a V D w/\Fk st ⟨⟨t,q,.v (.bool x)⟩::st.env,kF st.rho j x,st.bx,st.vc,st.nid,st.m⟩:=by
 have hc:=Lq hg hb;obtain⟨hgi,hgm⟩:=Dh hg;obtain⟨h1,h2,h3⟩:=hS.f.rho _ hgm;refine⟨⟨⟨hS.f.defers,hS.f.size,?_,?_,?_⟩,?_,hS.w⟩,⟨rfl,rfl,rfl,rfl⟩,hc,fun q=>z8.2,fun _=>Wr,?_⟩
 ·intro e he;rcases List.mem_cons.1 he with rfl |he
  ·exact z8.2 h2
  ·exact z8.2 (hS.f.pth e he)
 ·intro t' q' s hq hl u9;simp only at hq u9;rw[hc] at u9;have hq:=z8.1 hq;simp only[fj] at hl;split at hl
  ·rename_i ht;subst ht;split at hl
   ·rename_i wI;cases hl;simp only at h3;rw[h3,ah (Ck wI u9),hb];rfl
   ·cases hl
  ·exact hS.f.env t' q' s hq hl u9
 ·intro g gw;obtain⟨g0,HY,rfl⟩:=Ms gw;obtain⟨e1,e2,e3⟩:=hS.f.rho g0 HY;obtain⟨f1,f2,f3⟩:=C6 (j:=j) (x:=x) g0;refine⟨by rw[f1,C5,e1];rfl,by rw[f3];exact z8.2 e2,?_⟩;simp only;rw[f2,f3,hc,Mr hg hb e1];exact e3
 ·intro e he;rcases List.mem_cons.1 he with rfl |he
  ·trivial
  ·exact hS.ids e he
 ·intro ops i hR g hg;obtain⟨g',h1,rfl⟩:=Ms hg;obtain⟨f1,f2,f3⟩:=C6 (j:=j) (x:=x) g';rw[f1,f2];exact hR g' h1
theorem Qx (hS:Sat C n st a V D w) {j:Nat} {u:Bool} {g:Gd} (hg:fF st.rho j=some g) {dead live:LS->Prop} (h:qh (.mk (k:=(j,u,dead,live)) (st,g))):
  ∃aj,Sat C n aj a V D w/\Fk st aj/\(nO st.rho j u=true->live aj)/\(nO st.rho j u=false->dead aj):=by
 have hv:=CQ hg (w:=u);obtain⟨i',t,q,b⟩:=g;cases b with
 |lit b=>
  refine⟨st,hS,Fk.refl st,?_⟩;rw[hv];cases u<;>cases b<;>simp_all [qh,GB.val]
 |sym b=>
  obtain⟨h1,h2⟩:=Uk hS hg (x:=b) rfl;refine⟨_,h1,h2,?_⟩;rw[hv];cases u<;>cases b<;>simp_all [qh,GB.val]
theorem I0 (hS:Sat C n st a V D w):∀{p:be} {dead live:LS->Prop},C4 p dead live st->∃aj,Sat C n aj a V D w/\Fk st aj/\(bF st.rho p=true->live aj)/\(bF st.rho p=false->dead aj)
 |[],dead,live,h=>⟨st,hS,Fk.refl st,fun _=>h,fun e=>by cases e⟩
 |(j,u)::p,dead,live,h=>by
  simp only[C4] at h;obtain⟨kJ,s1,f1,l1,d1⟩:=I0 hS h;cases hc:bF st.rho p with
  |false=>exact⟨kJ,s1,f1,fun e=>by simp [bF,hc] at e,fun _=>d1 hc⟩
  |true=>
   obtain⟨g,hg,h'⟩:=aB (l1 hc);obtain⟨bC,s2,f2,l2,d2⟩:=Qx s1 hg h';have:nO kJ.rho j u=nO st.rho j u:=by
    have:=f1.cond [(j,u)];simpa [bF] using this
   rw[this] at l2 d2;exact⟨bC,s2,f1.trans f2,fun e=>l2 (by simpa [bF,hc] using e),fun e=>d2 (by simpa [bF,hc] using e)⟩
/-! The guard of an operation. -/
theorem EO (hS:Sat C n st a V D w) (hR:RInv ops L st.rho) (h:pathOf st o.guard=some p):ft st.rho p/\Region.wanted o (yielded ops a.tmps)=bF st.rho p:=by
 unfold Region.wanted;cases hg:o.guard with
 |none=>rw[hg] at h;simp only[pathOf,de] at h;subst h;exact⟨pV,rfl⟩
 |some x=>
  obtain⟨j,u⟩:=x;rw[hg] at h;simp only[pathOf,Option.map_eq_some_iff] at h;obtain⟨g,hj,rfl⟩:=h;obtain⟨hi,hm⟩:=Dh hj;obtain⟨h1,h2,h3⟩:=hS.f.rho g hm;have Ao:=(hR g hm).2;rw[hi] at Ao;refine⟨fun y hy=> ?_,?_⟩
  ·rcases List.mem_cons.1 hy with rfl |hy
   ·exact⟨g,hj⟩
   ·exact h2 y hy
  ·simp only[bF,CQ hj,yielded,Ao,Option.bind_some,h3];cases hc:bF st.rho g.p with
   |false=>simp [undef]
   |true=>cases u<;>cases g.b.val<;>simp
theorem RInv.mono {rho:List Gd} {L' :Nat->Prop} (h:RInv ops L rho) (hL:∀k,L k->L' k):RInv ops L' rho:=fun g hg=>⟨hL _ (h g hg).1,(h g hg).2⟩
theorem RInv.note {rho:List Gd} (h:RInv ops L rho) (gu:ops[i]? =some o) {d:Nat} (hd:o.dst=some d) {b:GB}:RInv ops (fun k=>L k\/k=i) (⟨i,d,p,b⟩::rho):=fun g hg=>by
 rcases List.mem_cons.1 hg with rfl |hg
 ·exact⟨.inr rfl,by simp only[gu,Option.bind_some];exact hd⟩
 ·exact⟨.inl (h g hg).1,(h g hg).2⟩
theorem kQ {d:Option Nat} {s:SV}:(E.put st d p s).rho=st.rho/\(E.put st d p s).nid=st.nid/\(E.put st d p s).vc=st.vc:=by
 cases d<;>exact⟨rfl,rfl,rfl⟩
theorem Rc {s:SV} {x:Value} (h:ox s=some x):den V s=x:=by
 cases s with
 |v y=>simp only[ox,de] at h;subst h;rfl
 |agg cs=>
  simp only[ox,Option.map_eq_some_iff] at h;obtain⟨l,hl,rfl⟩:=h;rw[Gk,BV hl]
 |_=>simp [ox] at h
theorem Ey:∀{ss:List SV} {l:List Value},vy ss=some l->ss.map (den V)=l
 |[],l,h=>by simp only[vy,de] at h;subst h;rfl
 |s::r,l,h=>by
  simp only[vy,Option.bind_eq_some_iff,Option.map_eq_some_iff] at h;obtain⟨x,hx,l',hl,rfl⟩:=h;simp only[bh];rw[Rc hx,Ey hl]
theorem SatW.quiet {bx:List Bx} {vc:List Vc} {nid:Nat} {m:Mem} (h:SatW C bx vc nid m V D w) {w2:World} {D2:Nat->Nat} {V1:Vl} (uJ:Wf w2 D2) (oV:Frm (· ∈aW V1 ⟨[],[]⟩) w D w2 D2) (hle:Mem.le ⟨w,D⟩ ⟨w2,D2⟩):
  SatW C bx vc nid m V D2 w2:=
 have hb:=tQ h.heap
 ⟨h.heap.frame (fun _ _=>⟨rfl,rfl⟩) (fun _ _=>rfl) (fun g hg=>oV.same g (hb g hg) (by simp [aW])),uJ,h.frm.trans oV (fun b hx=>by simp [aW] at hx),h.own,h.baseB,h.baseV,h.ids,
  Mem.le_trans h.le0 hle,h.m0,Mem.le_trans h.mle hle⟩
theorem KU {op:Op} {F:Mem->List Value->Option (Prop×Value)} (h:fZ c op= .pu F):∃f args ts,op= .call {callee:= .value (.func f),args,argTypes:=ts}/\c.pure f=some F:=by
 unfold fZ at h;split at h;all_goals first |cases h |skip
 refine⟨_,_,_,rfl,?_⟩;cases hf:c.pure _ with
 |none=>rw[hf] at h;cases h
 |some G=>rw[hf] at h;cases h;rfl
theorem Q8 (hS:Sat C n st a V D w) (dv:cd c P) (hp:ft st.rho p) (hc:bF st.rho p=true) {F:Mem->List Value->Option (Prop×Value)} (hk:fZ c o.op= .pu F) {K:SV->Prop} (h:GD (.mk (k:=(F st.m,oP st p,K)) (sK st p (xF o.op))))
  {next:Act->World->Prop} {Q:Exit->Act->World->Prop} (hn:∀y D' w',K (.v y)->Sat C n st a V D' w' ->next (a.put o.dst y) w'):o.wp P a w next Q:=by
 obtain⟨f,args,ts,ho,hf⟩:=KU hk;obtain⟨av,hF⟩:=dv f F hf;obtain⟨y,hy,hB,hK⟩:=aB h;rw[ho] at hy;simp only[xF,Option.bind_eq_some_iff] at hy;obtain⟨b5,⟨ss,wG,hvals⟩,hy⟩:=hy;have cR:=FD (w:=w) (a:=a) ho rfl av;unfold Oper.wp;rw[cR];have qg:args.map a.eval=⟨(b5.map SV.v).map (den V)⟩:=by
  apply Array.ext'
  rw[Array.toList_map,y9 hS hp hc wG,Ey hvals];simp only[List.map_map];exact(List.map_id'' (fun x=>rfl) b5).symm
 rw[qg];refine(hF st.m b5 y hy (hB hc) V w D hS.w.wf hS.w.mle ⟨fun b hb=>(by cases hb),fun b hb=>(by cases hb),by simp [aW],by simp⟩).mono fun e w2 ⟨r,V2,D2,H',m',he,h1,h2,h3,h4,h5,h6,h7,h8,h9,hr,hH⟩=> ?_
 subst he;subst hr;exact hn y.2 D2 w2 hK ⟨hS.f,hS.ids,hS.w.quiet h1 h5 h7⟩
/-! One operation. -/
theorem EA (st:LS) (i:Nat) (d:Option Nat) (p:be) (mv:Bool) (s:SV):kV st i d p mv s=st\/∃d' b,d=some d' /\s= .v (.bool b)/\kV st i d p mv s=⟨st.env,⟨i,d',p,.sym b⟩::st.rho,st.bx,st.vc,st.nid,st.m⟩:=by
 unfold kV;split
 ·exact .inr ⟨_,_,rfl,rfl,rfl⟩
 ·exact .inl rfl
theorem EB (st:LS) (i:Nat) (d:Option Nat) (p:be) (mv:Bool):kW st i d p mv=st\/∃d',d=some d' /\kW st i d p mv=⟨st.env,⟨i,d',p,.sym false⟩::st.rho,st.bx,st.vc,st.nid,st.m⟩:=by
 unfold kW;split
 ·exact .inr ⟨_,rfl,rfl⟩
 ·exact .inl rfl
theorem xh {st:LS} {i:Nat} {d:Option Nat} {p:be} {mv:Bool} {s:SV}:(kV (E.put st d p s) i d p mv s).nid=st.nid/\(kV (E.put st d p s) i d p mv s).vc=st.vc:=by
 rcases EA (E.put st d p s) i d p mv s with e |⟨_,_,_,_,e⟩<;>rw[e]<;>cases d<;>exact⟨rfl,rfl⟩
theorem xi {st:LS} {i:Nat} {d:Option Nat} {p:be} {mv:Bool} {s:SV}:(kW (E.put st d p s) i d p mv).nid=st.nid/\(kW (E.put st d p s) i d p mv).vc=st.vc:=by
 rcases EB (E.put st d p s) i d p mv with e |⟨_,_,e⟩<;>rw[e]<;>cases d<;>exact⟨rfl,rfl⟩
theorem Gy (hd:lI n o=true):∀x,o.dst=some x->x<n:=fun x hx=>by
 simp only[lI,hx] at hd;exact of_decide_eq_true hd
theorem At (hS:Sat C n st a V D w) (hR:RInv ops L st.rho) (nZ:¬L i) (gu:ops[i]? =some o) (hd:lI n o=true) (hit:jE st.rho o.dst=false) (hp:ft st.rho p) {s:SV} (hs:ix st.nid st.vc s) {v:Value}
  (hv:v=if bF st.rho p=true then den V s else undef) (mv:Bool):
  Sat C n (kV (E.put st o.dst p s) i o.dst p mv s) (a.put o.dst v) V D w/\RInv ops (fun k=>L k\/k=i) (kV (E.put st o.dst p s) i o.dst p mv s).rho:=by
 have qP:=Gy hd;have h1:=Sat.put hS (V:=V) qP hit hp hs (v:=v) (fun hc=>by rw[hv,ah hc]);rcases EA (E.put st o.dst p s) i o.dst p mv s with e |⟨d,b,e1,e2,e⟩
 ·rw[e];exact⟨h1,by rw[kQ.1];exact hR.mono fun _=> .inl⟩
 ·rw[e]
  refine⟨h1.note (by rw[kQ.1];exact hp) (by rw[kQ.1];exact fun g hg e=>nZ (e▸(hR g hg).1)) ?_,by
   simp only[kQ.1];exact hR.note gu e1⟩
  rw[e1,F5 hS (qP _ e1),kQ.1,hv,e2];rfl
theorem GV (hS:Sat C n st a V D w) (hR:RInv ops L st.rho) (nZ:¬L i) (gu:ops[i]? =some o) (hd:lI n o=true) (hit:jE st.rho o.dst=false) (hp:ft st.rho p) (hc:bF st.rho p=false) (mv:Bool):
  Sat C n (kW (E.put st o.dst p (.v undef)) i o.dst p mv) (a.put o.dst undef) V D w/\RInv ops (fun k=>L k\/k=i) (kW (E.put st o.dst p (.v undef)) i o.dst p mv).rho:=by
 have qP:=Gy hd;have h1:=Sat.put hS (V:=V) qP hit hp (s:= .v undef) trivial (v:=undef) (fun _=>rfl);rcases EB (E.put st o.dst p (.v undef)) i o.dst p mv with e |⟨d,e1,e⟩
 ·rw[e];exact⟨h1,by rw[kQ.1];exact hR.mono fun _=> .inl⟩
 ·rw[e]
  refine⟨h1.note (by rw[kQ.1];exact hp) (by rw[kQ.1];exact fun g hg e=>nZ (e▸(hR g hg).1)) ?_,by
   simp only[kQ.1];exact hR.note gu e1⟩
  rw[e1,F5 hS (qP _ e1),kQ.1,hc];rfl
theorem yc (hS:Sat C n st a V D w) (hR:RInv ops L st.rho) (hd:lI n o=true) (hit:jE st.rho o.dst=false) (hp:ft st.rho p) {s:SV} (hs:ix st.nid st.vc s) {v:Value} (hv:bF st.rho p=true->v=den V s):
  Sat C n (E.put st o.dst p s) (a.put o.dst v) V D w/\RInv ops (fun k=>L k\/k=i) (E.put st o.dst p s).rho:=
 ⟨Sat.put hS (Gy hd) hit hp hs hv,by rw[kQ.1];exact hR.mono fun _=> .inl⟩
theorem JX (hS:Sat C n st a V D w) (dv:cd c P) (hR:RInv ops L st.rho) (nZ:¬L i) (gu:ops[i]? =some o) (hd:lI n o=true) (Aq:pathOf st o.guard=some p) {K:LS->Prop} (h:one (.mk (k:=(c,P,i,o,K)) (st,p)))
  {next:Act->World->Prop} {Q:Exit->Act->World->Prop} (hn:∀aj a' V' D' w',K aj->Sat C n aj a' V' D' w' ->RInv ops (fun k=>L k\/k=i) aj.rho->Step st.nid st.vc aj.nid aj.vc V V' ->next a' w'):
  if Region.wanted o (yielded ops a.tmps) then o.wp P a w next Q\/(o.asks P a w/\LetsOut Q) else next (a.put o.dst undef) w:=by
 obtain⟨hp,hw⟩:=EO hS hR Aq;have ND:∀(d:Option Nat) (p:be) (s:SV),Step st.nid st.vc (E.put st d p s).nid (E.put st d p s).vc V V:=fun d p s=>Step.same kQ.2.1 kQ.2.2 V
 have stepG:∀(d:Option Nat) (p:be) (s:SV) (mv:Bool),Step st.nid st.vc (kV (E.put st d p s) i d p mv s).nid (kV (E.put st d p s) i d p mv s).vc V V:=fun d p s mv=>Step.same xh.1 xh.2 V
 have Yf:∀(d:Option Nat) (p:be) (s:SV) (mv:Bool),Step st.nid st.vc (kW (E.put st d p s) i d p mv).nid (kW (E.put st d p s) i d p mv).vc V V:=fun d p s mv=>Step.same xi.1 xi.2 V
 rw[hw];simp only[one] at h;unfold AD at h;split at h
 ·rename_i q dead he;simp only[A.mk.injEq,Prod.mk.injEq] at he;obtain⟨hq,hdead,hit⟩:=he;unfold vZ at h;split at h
  ·rename_i aj p' q';cases q';have hc:=Ci hdead;rw[hc];simp only[Bool.false_eq_true,if_false];obtain⟨h1,h2⟩:=GV hS hR nZ gu hd hit hp hc (ns o.op);exact hn _ _ _ _ _ h h1 h2 (Yf _ _ _ _)
  ·rename_i aj p' q';cases q';obtain⟨s,⟨hs,hK⟩,cR⟩:=E4 hS hp (o:=o) rfl h;cases hc:bF st.rho p with
   |true=>
    simp only[if_true];obtain⟨h1,h2⟩:=At hS hR nZ gu hd hit hp hs (v:=den V s) (by rw[hc];rfl) (ns o.op);exact .inl (tY (cR hc) (hn _ _ _ _ _ hK h1 h2 (stepG _ _ _ _)))
   |false=>
    simp only[Bool.false_eq_true,if_false];obtain⟨h1,h2⟩:=At hS hR nZ gu hd hit hp hs (v:=undef) (by rw[hc];rfl) (ns o.op);exact hn _ _ _ _ _ hK h1 h2 (stepG _ _ _ _)
  ·rename_i F aj p' q';cases q';cases hc:bF st.rho p with
   |true=>
    simp only[if_true];refine .inl (Q8 hS dv hp hc hq h fun y D' w' hK fv=> ?_);obtain⟨h1,h2⟩:=yc (i:=i) fv hR hd hit hp (s:= .v y) trivial (v:=y) (fun _=>rfl);exact hn _ _ _ _ _ hK h1 h2 (ND _ _ _)
   |false=>
    simp only[Bool.false_eq_true,if_false];obtain⟨y,hy,hB,hK⟩:=aB h;obtain⟨h1,h2⟩:=yc (i:=i) hS hR hd hit hp (s:= .v y.2) trivial (v:=undef) (fun e=>by rw[hc] at e;cases e);exact hn _ _ _ _ _ hK h1 h2 (ND _ _ _)
  ·rename_i aj p' q';cases q';obtain⟨kJ,s1,f1,l1,d1⟩:=I0 hS h;have D6:=f1.wf _ hp;have Hc:jE kJ.rho o.dst=false:=by rw[f1.hit];exact hit
   have dw:=f1.inv _ _ hR;cases hc:bF st.rho p with
   |true=>
    simp only[if_true];have H8:bF kJ.rho p=true:=by rw[f1.cond];exact hc
    refine .inl (Sz s1 D6 H8 rfl (l1 hc) fun s aj V' D' w' ⟨hs,hK⟩ fD fv fQ=> ?_);rw[<- fD] at D6 Hc dw;obtain⟨h1,h2⟩:=yc (i:=i) fv dw hd Hc D6 hs (v:=den V' s) (fun _=>rfl);exact hn _ _ _ _ _ hK h1 h2 (by rw[kQ.2.1,kQ.2.2];exact(f1.step V).trans fQ)
   |false=>
    simp only[Bool.false_eq_true,if_false];obtain⟨h1,h2⟩:=yc (i:=i) s1 dw hd Hc D6 (s:= .v undef) trivial (v:=undef) (fun _=>rfl);exact hn _ _ _ _ _ (d1 hc) h1 h2 (by rw[kQ.2.1,kQ.2.2];exact f1.step V)
 ·cases h
/-! The whole region. -/
theorem Ss {y x:Nat} {l:List Nat} (h:ik (y::l) x=false):y≠x/\ik l x=false:=by
 simp only[ik] at h;split at h
 ·cases h
 ·rename_i e;exact⟨e,h⟩
theorem Cy:∀{env:List Ev} {dead:List Nat} {t:Nat} {s:SV},fj (mq dead env) t []=some s->ik dead t=false/\fj env t []=some s
 |[],dead,t,s,h=>by simp [mq,fj] at h
 |⟨t',[],s'⟩::r,dead,t,s,h=>by
  simp only[mq] at h;split at h
  ·rename_i hm;obtain⟨h1,h2⟩:=Cy h;refine⟨h1,?_⟩;simp only[fj];rw[ae (fun e=>by rw[e,h1] at hm;cases hm)];exact h2
  ·rename_i hm;simp only[fj] at h ⊢;split at h
   ·rename_i e;subst e;rw[ah rfl];exact⟨by simpa using hm,h⟩
   ·rename_i e;rw[ae e];exact Cy h
 |⟨t',x::q,s'⟩::r,dead,t,s,h=>by
  simp only[mq] at h;obtain⟨h1,h2⟩:=Cy h;obtain⟨h3,h4⟩:=Ss h1;refine⟨h4,?_⟩;simp only[fj];rw[ae h3];exact h2
theorem zo:∀{env:List Ev} {dead:List Nat} {e:Ev},e∈mq dead env->e∈env/\e.p=[]
 |[],dead,e,h=>by simp [mq] at h
 |⟨t',[],s'⟩::r,dead,e,h=>by
  simp only[mq] at h;split at h
  ·obtain⟨h1,h2⟩:=zo h;exact⟨cu _ h1,h2⟩
  ·rcases List.mem_cons.1 h with rfl |h
   ·exact⟨df ..,rfl⟩
   ·obtain⟨h1,h2⟩:=zo h;exact⟨cu _ h1,h2⟩
 |⟨t',x::q,s'⟩::r,dead,e,h=>by
  simp only[mq] at h;obtain⟨h1,h2⟩:=zo h;exact⟨cu _ h1,h2⟩
theorem ED (hS:Sat C n st a V D w):jl C n (clean st) a w:=by
 refine⟨rfl,V,D,⟨hS.f.defers,hS.f.size,fun e he=> ?_,fun t q s hq hl _=> ?_,fun g hg=>by cases hg⟩,fun e he=>hS.ids e (zo he).1,hS.w⟩
 ·rw[(zo he).2];exact pV
 ·have:q=[]:=by
   cases q with
   |nil=>rfl
   |cons x q=>obtain⟨g,hg⟩:=hq x (df ..);cases hg
  subst this;exact hS.f.env t [] s pV (Cy hl).2 rfl
end
section
variable {C:Ctx} {n:Nat} {P:Program} {c:Cfg} {ops:Array Oper}
theorem Jb (dv:cd c P) {K:LS->Prop} {Q:Exit->Act->World->Prop} (hQ:∀aj a' w',K aj->jl C n aj a' w' ->Q .normal a' w'):
  ∀(l:List Oper) (i:Nat) (st:LS) (a:Act) (V:Vl) (D:Nat->Nat) (w:World),AA c P l i K st->Sat C n st a V D w->RInv ops (· <i) st.rho->(∀j,l[j]? =ops[i+j]?)->(∀o∈l,lI n o=true)->wpList P ops Q l a w
 |[],i,st,a,V,D,w,h,hS,hR,hl,hd=>hQ _ _ _ h (ED hS)
 |o::r,i,st,a,V,D,w,h,hS,hR,hl,hd=>by
  obtain⟨p,hp,h⟩:=aB h;have gu:ops[i]? =some o:=by have:=hl 0;simpa using this.symm
  unfold wpList;refine JX hS dv hR (Nat.lt_irrefl _) gu (hd o (df ..)) hp h fun aj a' V' D' w' hK fv tz _=> ?_
  exact Jb dv hQ r (i+1) aj a' V' D' w' hK fv (tz.mono fun k hk=>by omega) (fun j=>by have:=hl (j+1);simpa [Nat.add_assoc,Nat.add_comm 1 j] using this) (fun o ho=>hd o (cu _ ho))
end
def ib (n:Nat):Code->Bool
 | .region _ ops _=>ops.toList.all (lI n)
 | .seq a b=>ib n a&&ib n b
 | .cond _ a b=>ib n a&&ib n b
 | .block _ a=>ib n a
 | .loop a=>ib n a
 | .scope a=>ib n a
 | .rangeFunc .. =>false
 |_=>true
theorem QK {V:Vl} {s:SV} {b:Bool} (h:ra s=some b):den V s= .bool b:=by
 cases s with
 |v x=>cases x<;>simp only[ra,de,reduceCtorEq] at h;subst h;rfl
 |_=>simp [ra] at h
section
variable {P:Program} {n:Nat} {c:Cfg}
theorem X1 {a b:Code} {K:LS->Prop} {Q:Exit->LS->Prop} {st:LS} (ha:WP P n a (jf K Q) st) (hb:∀st,K st->WP P n b Q st):WP P n (.seq a b) Q st:=by
 intro C a' w hE;refine wp_seq (wp_mono (ha C a' w hE) ?_);rintro e a2 w2 ⟨bC,bz,hq⟩;cases e with
 |normal=>exact hb bC hq C a2 w2 bz
 |exit id=>exact⟨bC,bz,hq⟩
 |goto l=>exact⟨bC,bz,hq⟩
 |ret=>exact⟨bC,bz,hq⟩
 |panic ch=>exact⟨bC,bz,hq⟩
 |outgrown=>exact⟨bC,bz,hq⟩
theorem WE {x:Operand} {a b:Code} {Q:Exit->LS->Prop} {st:LS} {s:SV} {t:Bool} (hr:bU st [] x=some s) (hs:ra s=some t) (ha:t=true->WP P n a Q st) (hb:t=false->WP P n b Q st):WP P n (.cond x a b) Q st:=by
 intro C a' w hE;obtain⟨_,V,D,hS⟩:=id hE;have:=cV hS pV rfl hr;rw[QK hs] at this;exact wp_cond_split this (fun h=>ha h C a' w hE) (fun h=>hb h C a' w hE)
theorem UT {id:Nat} {a:Code} {Q:Exit->LS->Prop} {st:LS} (ha:WP P n a (pf id Q) st):WP P n (.block id a) Q st:=by
 intro C a' w hE;refine wp_block (wp_mono (ha C a' w hE) ?_);rintro e a2 w2 ⟨bC,bz,hq⟩;cases e with
 |exit id' =>
  simp only[pf] at hq;simp only[Exit.inBlock];split at hq
  ·rename_i h;rw[ah h];exact⟨bC,bz,hq⟩
  ·rename_i h;rw[ae h];exact⟨bC,bz,hq⟩
 |normal=>exact⟨bC,bz,hq⟩
 |goto l=>exact⟨bC,bz,hq⟩
 |ret=>exact⟨bC,bz,hq⟩
 |panic ch=>exact⟨bC,bz,hq⟩
 |outgrown=>exact⟨bC,bz,hq⟩
theorem S2 (dv:cd c P) {id:Nat} {l:List Oper} {Q:Exit->LS->Prop} {st:LS} (hd:l.all (lI n)=true) (h:AA c P l 0 (Q .normal) st):WP P n (.region id ⟨l⟩ false) Q st:=by
 rintro C a' w ⟨fD,V,D,hS⟩;refine wp_region_list ?_;refine Jb (ops:=⟨l⟩) dv (fun aj a' w' hq hE=>⟨aj,hE,hq⟩) l 0 st a' V D w h hS ?_ (fun j=>by simp) (fun o ho=> ?_)
 ·rw[fD];intro g hg;cases hg
 ·exact List.all_eq_true.1 hd o ho
theorem QG (dv:cd c P):∀(x:Code) (Q:Exit->LS->Prop) (st:LS),ib n x=true->lN c P n x Q st->WP P n x Q st:=by
 intro x;induction x with
 |skip=>exact fun Q st _ h C a w hE=>wp_skip ⟨st,hE,h⟩
 |region id ops draw=>
  intro Q st hd h;obtain⟨l⟩:=ops;cases draw with
  |false=>exact S2 dv hd h
  |true=>exact h
 |seq a b iha ihb=>
  intro Q st hd h;simp only[ib,cO] at hd;have gen:lN c P n a (jf (lN c P n b Q) Q) st->WP P n (.seq a b) Q st:=fun h=>X1 (iha _ st hd.1 h) fun aj h' =>ihb Q aj hd.2 h'
  cases a with
  |cond x t e=>
   simp only[lN] at h;split at h
   ·exact h
   ·exact gen h
  |_=>exact gen h
 |cond x a b iha ihb=>
  intro Q st hd h;simp only[ib,cO] at hd;obtain⟨t,ht,h1,h2⟩:=aB h;obtain⟨s,hs,ht⟩:=tE ht;exact WE hs ht (fun e=>iha Q st hd.1 (h1 e)) (fun e=>ihb Q st hd.2 (h2 e))
 |block id a ih=>
  intro Q st hd h;exact UT (ih _ st hd h)
 |exit id=>exact fun Q st _ h C a w hE=>wp_exit ⟨st,hE,h⟩
 |ret=>exact fun Q st _ h C a w hE=>wp_ret ⟨st,hE,h⟩
 |loop a ih=>exact fun Q st _ h=>h
 |scope a ih=>exact fun Q st _ h=>h
 |rangeFunc f ps a b _ _=>exact fun Q st _ h=>h
 |label l=>exact fun Q st _ h C a w hE=>wp_label ⟨st,hE,h⟩
 |refuse _=>exact fun Q st _ h=>h
 |goto l=>exact fun Q st _ h C a w hE=>wp_goto ⟨st,hE,h⟩
theorem pQ (dv:cd c P) {x:Code} {Q:Exit->LS->Prop} {st:LS} (hd:ib n x=true) (h:dq (.mk (k:=(c,P,n,x,Q)) st)):WP P n x Q st:=QG dv x Q st hd h
end
/-! A function. -/
section
variable {C:Ctx} {n:Nat} {st:LS} {a:Act} {V:Vl} {D:Nat->Nat} {w:World} {P:Program} {c:Cfg}
theorem RH (ad:Addr):(asAddr (.pointer (some ad))).run P w= .ok ad w:=rfl
def CY (tmps:Array Value):ResultVar->Sem Value
 | .tmp t=>pure (tmps.getD t undef)
 | .cell b t=>do loadVar t (<- asAddr (tmps.getD b undef))
theorem FE (hS:Sat C n st a V D w):∀{res:List ResultVar} {l:List SV},oM P st res=some l->
  (res.mapM (CY a.tmps)).run P w= .ok (l.map (lT V)) w/\∀s∈l,den V s=lT V s
 |[],l,h=>by
  simp only[oM,de] at h;subst h;exact⟨rfl,fun s hs=>by cases hs⟩
 | .tmp t::r,l,h=>by
  simp only[oM,Option.bind_eq_some_iff,Option.map_eq_some_iff] at h;obtain⟨s,⟨s0,mS,hs⟩,l',mU,rfl⟩:=h;obtain⟨h1,h2⟩:=FE hS mU;have Bi:=Fe (V:=V) hs;have wG:s=s0:=by cases s0<;>simp_all [mw]
  subst wG;have ht:=hS.env t [] s pV mS rfl;refine⟨?_,fun x hx=> ?_⟩
  ·simp only[List.mapM_cons,CY,Sem.run_bind,Sem.run_pure,Result.andThen_ok,h1,bh];simp [Array.getD_eq_getD_getElem?,ht,Bi]
  ·rcases List.mem_cons.1 hx with rfl |hx
   ·exact Bi
   ·exact h2 x hx
 | .cell b t::r,l,h=>by
  simp only[oM,Option.bind_eq_some_iff,Option.map_eq_some_iff] at h;obtain⟨s,⟨s0,mS,hs⟩,l',mU,rfl⟩:=h;obtain⟨h1,h2⟩:=FE hS mU;have Bi:=Fe (V:=V) hs;have wG:s=s0:=by cases s0<;>simp_all [mw]
  subst wG;unfold Dq at mS;split at mS
  ·rename_i k o hk;have ht:=hS.env b [] _ pV hk rfl;simp only[Option.bind_eq_some_iff] at mS;obtain⟨bx,Bq,mS⟩:=mS;split at mS;case isFalse=>cases mS
   rename_i dI;simp only[Option.bind_eq_some_iff] at mS;obtain⟨ag,iA,wF⟩:=mS;have YK:oC (.mk (k:=(P,t,U true,fun s' =>s' =s)) (st,.box k o)):=by
    simp only[oC,Bq,aF,iA,wF,dI,true_and]
   obtain⟨r',rfl,hy⟩:=IX hS YK;have hy:=hy rfl;simp only[xK,Instr.loadAt,Instr.sureAddr,Sem.run_bind,Sem.run_pure,Result.andThen_ok] at hy;refine⟨?_,fun x hx=> ?_⟩
   ·simp only[List.mapM_cons,CY,Sem.run_bind,Sem.run_pure,Result.andThen_ok,bh];have:a.tmps.getD b undef= .pointer (some ⟨V.β k,o,none⟩):=by simp [Array.getD_eq_getD_getElem?,ht,xK]
    rw[this,RH];simp only[Result.andThen_ok,hy,h1,Bi]
   ·rcases List.mem_cons.1 hx with rfl |hx
    ·exact Bi
    ·exact h2 x hx
  ·cases mS
theorem PU (hS:Sat C n st a V D w) {fn:Func} {res:List ResultVar} (hr:fn.results=⟨res⟩) {l:List SV} (h:oM P st res=some l):(results fn a.tmps).run P w= .ok (den V (vV l)) w:=by
 obtain⟨h1,h2⟩:=FE hS h
 have hf:results fn a.tmps=(do
   let vs <- fn.results.mapM (CY a.tmps)
   pure (if h:vs.size=1 then vs[0] else .tuple vs)):=by
  unfold results;congr 1
 rw[hf,hr];simp only[List.mapM_toArray,Sem.run_bind,Sem.run_map,h1,Result.andThen_ok,Sem.run_pure,List.size_toArray,List.length_map];cases l with
 |nil=>rfl
 |cons s r=>
  cases r with
  |nil=>
   simp only[cC,fm,Nat.zero_add,dite_true,bh,List.map_nil,vV];simp [h2 s (df ..)]
  |cons s' r=>
   have:¬((s::s' ::r).length=1):=by simp
   simp only[dif_neg this];rfl
end
theorem Mw:∀{l:List SV} {i t:Nat} {q:be} {s:SV},fj (sY i l) t q=some s->i<=t/\l[t - i]? =some s
 |[],i,t,q,s,h=>by simp [sY,fj] at h
 |x::r,i,t,q,s,h=>by
  simp only[sY,fj] at h;split at h
  ·rename_i e;subst e;split at h
   ·cases h;exact⟨aq _,by simp⟩
   ·cases h
  ·rename_i e;obtain⟨h1,h2⟩:=Mw h;refine⟨by omega,?_⟩;have:t - i=(t - (i+1))+1:=by omega
   rw[this,List.getElem?_cons_succ];exact h2
theorem FT:∀{l:List SV} {i:Nat} {e:Ev},e∈sY i l->e.p=[]/\e.s∈l
 |[],i,e,h=>by simp [sY] at h
 |x::r,i,e,h=>by
  rcases List.mem_cons.1 h with rfl |h
  ·exact⟨rfl,df ..⟩
  ·obtain⟨h1,h2⟩:=FT h;exact⟨h1,cu _ h2⟩
theorem KW {nid:Nat} {vc:List Vc}:∀{l:List SV},AE nid vc l->∀s∈l,ix nid vc s
 |x::r,h,s,hs=>by
  rcases List.mem_cons.1 hs with rfl |hs
  ·exact h.1
  ·exact KW h.2 s hs
theorem CK:∀{bx:List Bx} {b:Bx},b∈bx->b.id<mF bx
 |⟨k,t,cs⟩::r,b,h=>by
  simp only[mF];rcases List.mem_cons.1 h with rfl |h
  ·simp only;omega
  ·have:=CK h;omega
theorem CJ:∀{vc:List Vc} {b:Vc},b∈vc->b.id<mE vc
 |⟨k,u,e,z,n,xs⟩::r,b,h=>by
  simp only[mE];rcases List.mem_cons.1 h with rfl |h
  ·simp only;omega
  ·have:=CJ h;omega
section
variable {P:Program} {c:Cfg}
theorem Cz {V:Vl} {bx pO:List Bx} {vc dV:List Vc} (hb:∀b∈pO,b∈bx) (hv:∀b∈dV,b∈vc):∀g∈aW V ⟨pO,dV⟩,g∈aW V ⟨bx,vc⟩:=fun g hg=>by
 simp only[aW,List.mem_append,List.mem_map,List.mem_filterMap] at hg ⊢;rcases hg with ⟨x,hx,e⟩ |⟨x,hx,e⟩
 ·exact .inl ⟨x,hb x hx,e⟩
 ·exact .inr ⟨x,hv x hx,e⟩
theorem Re {L:List Nat} {bx:List Bx} {b:Bx} (h:b∈fz L bx):b∈bx:=by
 rw[zg,List.mem_filter] at h;exact h.1
theorem Nr {f:FuncId} {fn:Func} {code:Code} {res:List ResultVar} {args:List SV} {H:Hp} {m:Mem} {R:SV->Hp->Mem->Prop}
  (hf:P.funcs[f]? =some fn) (hb:fn.body=some code) (hr:fn.results=⟨res⟩) (hl:args.length<=fn.ntmps) (av:C0 args H)
  (h:WP P fn.ntmps code (yq P res (yn H) R) (AU args H m)):FnH P f args H m R:=by
 intro V w D jN hm hH;refine calls_of_wp hf hb ?_;have jO:((⟨args.map (den V)⟩:Array Value)++Array.replicate (fn.ntmps - (⟨args.map (den V)⟩:Array Value).size) undef).size=fn.ntmps:=by
  simp only[Array.size_append,List.size_toArray,List.length_map,Array.size_replicate];omega
 have hS:Sat ⟨w,D,(· ∈aW V H),H,V,m⟩ fn.ntmps (AU args H m) {tmps:=(⟨args.map (den V)⟩:Array Value)++Array.replicate (fn.ntmps - (⟨args.map (den V)⟩:Array Value).size) undef,defers:=[]} V D w:=by
  refine⟨⟨rfl,jO,fun e he=> ?_,fun t q s hq ko _=> ?_,fun g hg=>by cases hg⟩,fun e he=>KW av.1 _ (FT he).2,?_⟩
  ·rw[(FT he).1];exact pV
  ·obtain⟨_,h2⟩:=Mw ko;have ao:t<args.length:=(List.getElem?_eq_some_iff.1 h2).1;simp only[Nat.sub_zero] at h2;rw[Array.getElem?_append_left (by simpa using ao)];simp [h2]
  ·refine⟨hH,jN,Frm.refl _ _ _,fun b hb=> .inl hb,fun b hb=>⟨rfl,?_⟩,fun b hb=>⟨fun _ _=>rfl,?_,tF hH.uniq hb⟩,⟨fun b hb=>⟨?_,Fa av.2 b hb⟩,fun b hb=> ?_⟩,Mem.le_refl _ jN,
    fun b=>⟨aq _,fun h0=>⟨((hm b).2 h0).1,rS rfl⟩⟩,hm⟩
   ·exact dM (CK hb) (Nat.le_max_left _ _)
   ·exact dM (CJ hb) (Nat.le_max_right _ _)
   ·exact dM (CK hb) (Nat.le_max_left _ _)
   ·exact dM (CJ hb) (Nat.le_max_right _ _)
 refine wp_mono (h _ _ _ ⟨rfl,V,D,hS⟩) ?_;rintro e a2 w2 ⟨bC,⟨fD,V2,D2,hS2⟩,hq⟩;have fin:∀l:List SV,oM P bC res=some l->R (vV l) ⟨fz (r0 bC.bx (nN (yn H) l)) bC.bx,fe (r0 bC.bx (nN (yn H) l)) bC.vc⟩ bC.m->
   a2.defers=[]/\∃v,(results fn a2.tmps).run P w2= .ok v w2/\∃(r:SV) (V' :Vl) (D' :Nat->Nat) (H' :Hp) (m' :Mem),
   Ending.returned v= .returned (den V' r)/\Wf w2 D' /\HSat V' D' w2 H' /\(∀b∈H.bx,V'.β b.id=V.β b.id)/\(∀b∈H.vc,∀u,u<=b.ver->V'.γ b.id u=V.γ b.id u)/\
   Frm (· ∈aW V H) w D w2 D' /\(∀b∈aW V' H',b∈aW V H\/w.heap.size<=b)/\
   Mem.le ⟨w,D⟩ ⟨w2,D'⟩/\m.le m' /\m'.le ⟨w2,D'⟩/\R r H' m' :=by
  intro l hl hR;have hW:=hS2.w;refine⟨hS2.f.defers,_,PU hS2 hr hl,vV l,V2,D2,_,bC.m,rfl,hW.wf,(BS _ hW.heap).app.1,fun b hb=>(hW.baseB b hb).1,fun b hb=>(hW.baseV b hb).1,hW.frm,fun b hb=> ?_,hW.le0,hW.m0,hW.mle,hR⟩;exact hW.own b (Cz (fun x hx=>Re hx) (fun x hx=>(tH hx).1) b hb)
 cases e with
 |normal=>obtain⟨l,hl,hR⟩:=aB hq;exact fin l hl hR
 |ret=>obtain⟨l,hl,hR⟩:=aB hq;exact fin l hl hR
 |exit id=>exact hq.elim
 |goto l=>exact hq.elim
 |panic ch=>exact hq.elim
 |outgrown=>exact hq.elim
theorem enter (cf:Cfg) (dv:cd cf P) {f:FuncId} {fn:Func} {code:Code} {res:List ResultVar} {args:List SV} {H:Hp} {m:Mem} {R:SV->Hp->Mem->Prop}
  (hf:P.funcs[f]? =some fn) (hb:fn.body=some code) (hr:fn.results=⟨res⟩) (hd:ib fn.ntmps code=true) (hl:Nat.ble args.length fn.ntmps=true) (av:C0 args H)
  (h:dq (.mk (k:=(cf,P,fn.ntmps,code,yq P res (yn H) R)) (AU args H m))):FnH P f args H m R:=
 Nr hf hb hr (dO hl) av (pQ dv hd h)
theorem FnH.mono {f:FuncId} {args:List SV} {H:Hp} {m:Mem} {R R' :SV->Hp->Mem->Prop} (h:FnH P f args H m R) (hR:∀r H' m',m.le m' ->R r H' m' ->R' r H' m'):FnH P f args H m R' :=
 fun V w D h1 h2 h3=>(h V w D h1 h2 h3).mono fun e w2 ⟨r,V',D',H',m',e1,e2,e3,e4,e5,e6,e7,e8,e9,gf,jQ⟩=>⟨r,V',D',H',m',e1,e2,e3,e4,e5,e6,e7,e8,e9,gf,hR r H' m' e9 jQ⟩
theorem tfi (p:Prop):(true=false->p)=True:=eq_true fun h=>by cases h
theorem fti (p:Prop):(false=true->p)=True:=eq_true fun h=>by cases h
theorem cE {f:FuncId} {args:List SV} {H:Hp} {m:Mem} {R:SV->Hp->Mem->Prop} (h:FnH P f args H m R):Eg (.mk (k:=(P,f,R)) (args,H,m)):=h
theorem WP.mono {n:Nat} {x:Code} {Q Q' :Exit->LS->Prop} {st:LS} (h:WP P n x Q st) (hQ:∀e aj,Q e aj->Q' e aj):WP P n x Q' st:=
 fun C a w hE=>wp_mono (h C a w hE) fun e _ _ ⟨aj,h1,h2⟩=>⟨aj,h1,hQ e aj h2⟩
end
theorem ab {P:Program} {f:FuncId} {args:List SV} {H:Hp} {m:Mem} {R:SV->Hp->Mem->Prop} (h:FnH P f args H m R) (hk:gM P f=true:=by kernel_rfl):gM P f=true/\Eg (.mk (k:=(P,f,R)) (args,H,m)):=⟨hk,cE h⟩
attribute [go_sem ↓] tfi fti reduceIte
theorem aH {P:Program} {cf:Cfg} (dv:cd cf P) {f:FuncId} {fn:Func} {code:Code} {res:List ResultVar} {args:List SV} {H:Hp} {m:Mem} {R:SV->Hp->Mem->Prop} (hf:P.funcs[f]? =some fn) (h:dq (.mk (k:=(cf,P,fn.ntmps,code,yq P res (yn H) R)) (AU args H m))) (hb:fn.body=some code:=by rfl) (hr:fn.results=⟨res⟩:=by rfl) (hd:ib fn.ntmps code=true:=by kernel_rfl) (hl:Nat.ble args.length fn.ntmps=true:=by rfl) (av:C0 args H:=by simp only[go_sem]):FnH P f args H m R:=enter cf dv hf hb hr hd hl av h
/-! The head of a loop. -/
theorem Le {st:LS}:∀{l:List Ev},yi st l->∀e∈l,fj st.env e.t []=some e.s/\e.p=[]
 |⟨t,p,s⟩::r,h,e,he=>by
  rcases List.mem_cons.1 he with rfl |he
  ·exact⟨h.1,h.2.1⟩
  ·exact Le h.2.2 e he
theorem L8 {st:LS}:∀{l:List Ev},yi st l->∀{t:Nat} {s:SV},fj l t []=some s->fj st.env t []=some s
 |⟨t',p',s'⟩::r,h,t,s,hl=>by
  simp only[fj] at hl;split at hl
  ·rename_i e;subst e;split at hl
   ·cases hl;exact h.1
   ·cases hl
  ·exact L8 h.2.2 hl
theorem Ud {l:List Bx} {k:Nat} (h:gl l k=none):∀b∈l,b.id≠k:=by
 induction l with
 |nil=>intro b hb;cases hb
 |cons x r ih=>
  obtain⟨i',t',p'⟩:=x;simp only[gl] at h;split at h
  ·cases h
  ·rename_i e;intro b hb;rcases List.mem_cons.1 hb with rfl |hb
   ·exact e
   ·exact ih h b hb
theorem Gb {st:LS}:∀{l:List Bx},qG st l->(∀b∈l,b∈st.bx)/\(l.map (·.id)).Nodup
 |[],_=>⟨fun b hb=>(by cases hb),List.nodup_nil⟩
 |⟨k,t,cs⟩::r,h=>by
  obtain⟨h1,h2,h3⟩:=h;obtain⟨i1,i2⟩:=Gb h3;refine⟨fun b hb=> ?_,?_⟩
  ·rcases List.mem_cons.1 hb with rfl |hb
   ·exact(sj h1).2
   ·exact i1 b hb
  ·simp only[bh,List.nodup_cons];refine⟨fun hm=> ?_,i2⟩;obtain⟨b,hb,e⟩:=List.mem_map.1 hm;exact Ud h2 b hb e
theorem Ub {l:List Vc} {k:Nat} {b:Vc} (h:lR l k=some b):b.id=k/\b∈l:=by
 induction l with
 |nil=>cases h
 |cons x r ih=>
  obtain⟨i',u',e',z',n',x'⟩:=x;simp only[lR] at h;split at h
  ·rename_i e;cases h;exact⟨e,df ..⟩
  ·exact⟨(ih h).1,cu _ (ih h).2⟩
theorem Sw {l:List Vc} {k:Nat} (h:lR l k=none):∀b∈l,b.id≠k:=by
 induction l with
 |nil=>intro b hb;cases hb
 |cons x r ih=>
  obtain⟨i',u',e',z',n',x'⟩:=x;simp only[lR] at h;split at h
  ·cases h
  ·rename_i e;intro b hb;rcases List.mem_cons.1 hb with rfl |hb
   ·exact e
   ·exact ih h b hb
theorem Ga {st:LS}:∀{l:List Vc},qF st l->(∀b∈l,b∈st.vc)/\(l.map (·.id)).Nodup
 |[],_=>⟨fun b hb=>(by cases hb),List.nodup_nil⟩
 |⟨k,u,e,z,n,xs⟩::r,h=>by
  obtain⟨h1,h2,h3⟩:=h;obtain⟨i1,i2⟩:=Ga h3;refine⟨fun b hb=> ?_,?_⟩
  ·rcases List.mem_cons.1 hb with rfl |hb
   ·exact(Ub h1).2
   ·exact i1 b hb
  ·simp only[bh,List.nodup_cons];refine⟨fun hm=> ?_,i2⟩;obtain⟨b,hb,e⟩:=List.mem_map.1 hm;exact Sw h2 b hb e
theorem xp {vc:List Vc} (hu:(vc.map (·.id)).Nodup) {k u:Nat}:bD vc k u↔∀b∈vc,b.id=k->u<=b.ver:=by
 induction vc with
 |nil=>simp [bD]
 |cons x r ih=>
  obtain⟨i',u',e',z',n',x'⟩:=x;simp only[bh,List.nodup_cons] at hu;simp only[bD];split
  ·rename_i e;subst e;constructor
   ·intro h b hb e;rcases List.mem_cons.1 hb with rfl |hb
    ·exact h
    ·exact absurd (List.mem_map.2 ⟨b,hb,e⟩) hu.1
   ·exact fun h=>h _ (df ..) rfl
  ·rename_i e;rw[ih hu.2];constructor
   ·intro h b hb e';rcases List.mem_cons.1 hb with rfl |hb
    ·exact absurd e' e
    ·exact h b hb e'
   ·exact fun h b hb=>h b (cu _ hb)
theorem Fb {α β:Type} {f:α->β}:∀{l:List α},(l.map f).Nodup->∀x∈l,∀y∈l,f x=f y->x=y
 |a::r,h,x,hx,y,hy,e=>by
  simp only[bh,List.nodup_cons] at h;rcases List.mem_cons.1 hx with rfl |bR
  ·rcases List.mem_cons.1 hy with rfl |bc
   ·rfl
   ·exact absurd (List.mem_map.2 ⟨y,bc,e.symm⟩) h.1
  ·rcases List.mem_cons.1 hy with rfl |bc
   ·exact absurd (List.mem_map.2 ⟨x,bR,e⟩) h.1
   ·exact Fb h.2 x bR y bc e
theorem Fg {α β γ:Type} {f:α->β} {g:α->γ}:∀{l:List α},(l.map g).Nodup->(∀x∈l,∀y∈l,f x=f y->x=y)->(l.map f).Nodup
 |[],_,_=>List.nodup_nil
 |a::r,h,hi=>by
  simp only[bh,List.nodup_cons] at h ⊢;refine⟨fun hm=> ?_,Fg h.2 fun x hx y hy=>hi x (cu _ hx) y (cu _ hy)⟩;obtain⟨b,hb,e⟩:=List.mem_map.1 hm;have:=hi b (cu _ hb) a (df ..) e;subst this;exact h.1 (List.mem_map.2 ⟨b,hb,rfl⟩)
theorem Eh {α β γ:Type} {f:α->Option β} {g:α->γ}:∀{l:List α},(l.map g).Nodup->(∀x∈l,∀y∈l,∀b,f x=some b->f y=some b->x=y)->(l.filterMap f).Nodup
 |[],_,_=>List.nodup_nil
 |a::r,h,hi=>by
  simp only[bh,List.nodup_cons] at h;have ih:=Eh (f:=f) h.2 fun x hx y hy=>hi x (cu _ hx) y (cu _ hy)
  rw[List.filterMap_cons];split
  ·exact ih
  ·rename_i b hb;refine List.nodup_cons.2 ⟨fun hm=> ?_,ih⟩;obtain⟨x,hx,e⟩:=List.mem_filterMap.1 hm;have:=hi x (cu _ hx) a (df ..) b e hb;subst this;exact h.1 (List.mem_map.2 ⟨x,hx,rfl⟩)
theorem K6 {nid:Nat} {vc:List Vc}:∀{l:List Ev},AF nid vc l->∀e∈l,ix nid vc e.s
 |⟨t,p,s⟩::r,h,e,he=>by
  rcases List.mem_cons.1 he with rfl |he
  ·exact h.1
  ·exact K6 h.2 e he
theorem K5 {nid:Nat} {vc:List Vc}:∀{l:List Bx},yh nid vc l->∀b∈l,b.id<nid/\eL nid vc b.cs
 |⟨k,t,cs⟩::r,h,b,hb=>by
  rcases List.mem_cons.1 hb with rfl |hb
  ·exact⟨h.1,h.2.1⟩
  ·exact K5 h.2.2 b hb
theorem K4 {nid:Nat}:∀{l:List Vc},yg nid l->∀b∈l,b.id<nid
 |⟨k,_,_,_,_,_⟩::r,h,b,hb=>by
  rcases List.mem_cons.1 hb with rfl |hb
  ·exact h.1
  ·exact K4 h.2 b hb
section
variable {C:Ctx} {n:Nat} {st aj:LS} {a:Act} {V:Vl} {D:Nat->Nat} {w:World} {P:Program} {c:Cfg}
theorem M2 {m m' iI:Mem} (h:ak m m') (h' :m'.le iI):m.le iI:=by
 rcases h with rfl |h
 ·exact h'
 ·exact Mem.le_trans h h'
theorem Sat.weaken (hS:Sat C n st a V D w) (hM:Match st aj) (av:oN aj) (hB:∀b∈C.H0.bx,b.id<aj.nid) (hV:∀b∈C.H0.vc,b.id<aj.nid) (hm:C.m0.le aj.m):Sat C n aj a V D w:=by
 obtain⟨h1,h2,h3,h4,h5⟩:=hM;obtain⟨qR,hbu⟩:=Gb h3;obtain⟨pF,hvu⟩:=Ga h4;have hW:=hS.w;have pM:=hW.heap.apart;have wg:=List.nodup_append.1 pM;refine⟨⟨hS.f.defers,hS.f.size,fun e he=> ?_,fun t q s hq hl _=> ?_,fun g hg=>by rw[h2] at hg;cases hg⟩,K6 av.1,?_⟩
 ·rw[(Le h1 e he).2];exact pV
 ·have:q=[]:=by
   cases q with
   |nil=>rfl
   |cons x q=>obtain⟨g,hg⟩:=hq x (df ..);rw[h2] at hg;cases hg
  subst this;exact hS.env t [] s pV (L8 h1 hl) rfl
 ·refine⟨⟨fun b hb=>hW.heap.bx b (qR b hb),fun b hb=>hW.heap.vc b (pF b hb),?_,hvu⟩,hW.wf,hW.frm,fun g hg=>hW.own g (Cz qR pF g hg),fun b hb=>⟨(hW.baseB b hb).1,hB b hb⟩,
   fun b hb=>⟨(hW.baseV b hb).1,hV b hb,?_⟩,⟨K5 av.2.1,K4 av.2.2⟩,hW.le0,hm,M2 h5 hW.mle⟩
  ·refine List.nodup_append.2 ⟨?_,?_,fun x hx y hy=> ?_⟩
   ·exact Fg hbu fun x hx y hy e=>Fb wg.1 x (qR x hx) y (qR y hy) e
   ·exact Eh hvu fun x hx y hy b e1 e2=>CC (pF x hx) (pF y hy) e1 e2 wg.2.1
   ·refine wg.2.2 x ?_ y ?_
    ·obtain⟨z,hz,e⟩:=List.mem_map.1 hx;exact List.mem_map.2 ⟨z,qR z hz,e⟩
    ·obtain⟨z,hz,e⟩:=List.mem_filterMap.1 hy;exact List.mem_filterMap.2 ⟨z,pF z hz,e⟩
  ·refine(xp hvu).2 fun x hx e=> ?_
   exact(xp hW.heap.uniq).1 (hW.baseV b hb).2.2 x (pF x hx) e
theorem fy (dv:cd c P) {body:Code} {Q:Exit->LS->Prop} {X:Type} (S:X->LS) (I:X->Prop) (μ:X->Nat) (x0:X)
  (hd:ib n body=true) (hn:∀x,I x->st.nid<=(S x).nid) (hm:∀x,I x->ak st.m (S x).m) (av:∀x,oN (S x)) (h0:Match st (S x0)) (hI:I x0)
  (round:∀x,I x->dq (.mk (k:=(c,P,n,body,jf (fun aj=>∃x',Match aj (S x')/\I x' /\μ x' <μ x) Q)) (S x))):js (.mk (k:=(P,n,.loop body,Q)) st):=by
 rintro C a w ⟨fD,V,D,hS⟩;have hB:∀b∈C.H0.bx,b.id<st.nid:=fun b hb=>(hS.w.baseB b hb).2
 have hV:∀b∈C.H0.vc,b.id<st.nid:=fun b hb=>(hS.w.baseV b hb).2.1
 have Bl:∀x,I x->C.m0.le (S x).m:=fun x hx=>by
  rcases hm x hx with e |h
  ·rw[<- e];exact hS.w.m0
  ·exact Mem.le_trans hS.w.m0 h
 have ur:∀(kJ:LS) (a1:Act) (w1:World) (x:X),jl C n kJ a1 w1->Match kJ (S x)->I x->jl C n (S x) a1 w1:=by
  rintro kJ a1 w1 x ⟨_,V1,D1,hS1⟩ hM hx;exact⟨hM.2.1,V1,D1,hS1.weaken hM (av x) (fun b hb=>dM (hB b hb) (hn x hx)) (fun b hb=>dM (hV b hb) (hn x hx)) (Bl x hx)⟩
 refine wp_loop_ghost (fun k a w=>∃x,I x/\μ x=k/\jl C n (S x) a w) (μ x0) ⟨x0,hI,rfl,ur _ _ _ _ ⟨fD,V,D,hS⟩ h0 hI⟩ ?_;rintro k a1 w1 ⟨x,hx,rfl,hE⟩;refine wp_mono (pQ dv hd (round x hx) C a1 w1 hE) ?_;rintro e a2 w2 ⟨bC,bz,hq⟩;cases e with
 |normal=>
  obtain⟨x',hM,bR,ao⟩:=hq;exact⟨μ x',ao,x',bR,rfl,ur _ _ _ _ bz hM bR⟩
 |exit id=>exact⟨bC,bz,hq⟩
 |goto l=>exact⟨bC,bz,hq⟩
 |ret=>exact⟨bC,bz,hq⟩
 |panic ch=>exact⟨bC,bz,hq⟩
 |outgrown=>exact⟨bC,bz,hq⟩
end
theorem cK {P:Program} {c:Cfg} {n:Nat} {st:LS} (dv:cd c P) {body:Code} {Q:Exit->LS->Prop} {X:Type} (S:X->LS) (I:X->Prop) (μ:X->Nat) (x0:X) (hn:∀x,I x->st.nid<=(S x).nid) (hm:∀x,I x->ak st.m (S x).m) (h0:Match st (S x0)) (hI:I x0) (round:∀x,I x->dq (.mk (k:=(c,P,n,body,jf (fun aj=>∃x',Match aj (S x')/\I x' /\μ x' <μ x) Q)) (S x))) (hd:ib n body=true:=by kernel_rfl) (av:∀x,oN (S x):=by intro _;simp only[go_sem]):js (.mk (k:=(P,n,.loop body,Q)) st):=fy dv S I μ x0 hd hn hm av h0 hI round
def A.re {γ δ α:Type} {k:γ} (k' :δ):A k α->A k' α
 | .mk a=> .mk a
section
variable {P:Program} {op:BinOp} {t:TypeId} {k:IntKind} {u:Prop->Prop} {K:SV->Prop}
theorem vo {o:Option SV} (h:aF (.mk (k:=K) o)):∃s,K s/\aF (.mk (k:=(· =s)) o):=by
 obtain⟨s,rfl,h⟩:=aB h;exact Exists.intro s (And.intro h rfl)
theorem zp:∀(x:A (k,u,K) Int),arith x->∃s,K s/\arith (x.re (k,u,(· =s))):=by
 rintro⟨n⟩ h;cases k<;>first
  |exact Exists.intro _ (And.intro h.2 (And.intro h.1 rfl))
  |exact Exists.intro _ (And.intro h rfl)
theorem UM:∀(x:A (op,k,u,K) (Int×Int)),iH x->∃s,K s/\iH (x.re (op,k,u,(· =s))):=by
 rintro⟨a,b⟩ h;cases op;case add=>obtain⟨s,h1,h2⟩:=zp _ h;exact Exists.intro s (And.intro h1 h2)
 case sub=>obtain⟨s,h1,h2⟩:=zp _ h;exact Exists.intro s (And.intro h1 h2)
 case mul=>obtain⟨s,h1,h2⟩:=zp _ h;exact Exists.intro s (And.intro h1 h2)
 case quo=>obtain⟨s,h1,h2⟩:=zp _ h.2;exact Exists.intro s (And.intro h1 (And.intro h.1 h2))
 all_goals first
  |exact Exists.intro _ (And.intro h rfl)
  |exact Exists.intro _ (And.intro h.2 (And.intro h.1 rfl))
theorem UK:∀(x:A (op,u,K) (List UInt8×List UInt8)),qp x->∃s,K s/\qp (x.re (op,u,(· =s))):=by
 rintro⟨a,b⟩ h;cases op;all_goals first
  |exact h.elim
  |exact Exists.intro _ (And.intro h rfl)
  |exact Exists.intro _ (And.intro h.2 (And.intro h.1 rfl))
theorem CF:∀(x:A (op,K) Bool),pC x->∃s,K s/\pC (x.re (op,(fun s0:SV=>s0=s))):=by
 rintro⟨a⟩ h;cases op;all_goals first
  |exact h.elim
  |exact Exists.intro _ (And.intro h rfl)
theorem UL:∀(x:A (P,op,t,u,K) (SV×SV)),pB x->∃s,K s/\pB (x.re (P,op,t,u,(· =s))):=by
 intro x h;unfold pB at h;split at h
 ·obtain⟨s,h1,h2⟩:=UM _ h.2;exact Exists.intro s (And.intro h1 (And.intro h.1 h2))
 ·obtain⟨s,h1,h2⟩:=UK _ h;exact Exists.intro s (And.intro h1 h2)
 ·obtain⟨s,h1,h2⟩:=CF _ h.2;exact Exists.intro s (And.intro h1 (And.intro h.1 h2))
 ·obtain⟨h1,h2,h3⟩:=h;obtain⟨b,hb,h3⟩:=aB h3;obtain⟨s,h4,h5⟩:=CF _ h3;exact Exists.intro s (And.intro h4 (And.intro h1 (And.intro h2 (by rw[hb];exact h5))))
 ·obtain⟨h1,h2,h3⟩:=h;obtain⟨b,hb,h3⟩:=aB h3;obtain⟨s,h4,h5⟩:=CF _ h3;exact Exists.intro s (And.intro h4 (And.intro h1 (And.intro h2 (by rw[hb];exact h5))))
 ·exact h.elim
theorem Sb:∀(x:A (P,op,t,u,K) SV),uc x->∃s,K s/\uc (x.re (P,op,t,u,(· =s))):=by
 intro x h;unfold uc at h;split at h
 ·obtain⟨s,h1,h2⟩:=CF _ h.2.2;exact Exists.intro s (And.intro h1 (And.intro h.1 (And.intro h.2.1 h2)))
 ·exact h.elim
theorem Sm {md:PM}:∀(x:A (md,K) (Bool×SV×SV)),sC x->∃s,K s/\sC (x.re (md,(fun s0:SV=>s0=s))):=by
 intro x h;unfold sC at h;split at h;all_goals first
  |exact h.elim
  |exact Exists.intro _ (And.intro h rfl)
theorem TK:∀(x:A (u,K) SV),sL x->∃s,K s/\sL (x.re (u,(fun s0:SV=>s0=s))):=by
 intro x h;unfold sL at h;split at h;all_goals first
  |exact h.elim
  |exact Exists.intro _ (And.intro h rfl)
  |exact Exists.intro _ (And.intro h.2 (And.intro h.1 rfl))
theorem Vj {op:UnOp}:∀(x:A (op,u,K) SV),tc x->∃s,K s/\tc (x.re (op,u,(fun s0:SV=>s0=s))):=by
 intro x h;unfold tc at h;split at h
 ·exact Exists.intro _ (And.intro h rfl)
 ·obtain⟨s,h1,h2⟩:=zp _ h;exact Exists.intro s (And.intro h1 h2)
 ·exact h.elim
theorem Sg:∀(x:A (u,K) (LS×CvK×SV)),qb x->∃s,K s/\qb (x.re (u,(fun s0:SV=>s0=s))):=by
 intro x h;unfold qb at h;split at h
 ·exact Exists.intro _ (And.intro h rfl)
 ·exact Exists.intro _ (And.intro h rfl)
 ·obtain⟨b,hb,l,h1,h2⟩:=aB h;refine Exists.intro _ (And.intro h2 ?_);show aF _;rw[hb];exact⟨l,h1,rfl⟩
 ·obtain⟨l,h1,h2⟩:=h;exact Exists.intro _ (And.intro h2 (Exists.intro l (And.intro h1 rfl)))
 ·exact h.elim
theorem TR:∀(x:A (u,K) (LS×SV×Nat)),rr x->∃s,K s/\rr (x.re (u,(fun s0:SV=>s0=s))):=by
 intro x h;unfold rr at h;split at h
 ·exact Exists.intro _ (And.intro h rfl)
 ·obtain⟨b,hb,h1,h2⟩:=aB h;refine Exists.intro _ (And.intro h2 ?_);show aF _;rw[hb];exact⟨h1,rfl⟩
 ·exact Exists.intro _ (And.intro h.2 (And.intro h.1 rfl))
 ·exact h.elim
theorem TQ:∀(x:A (P,u,K) (LS×TypeId×SV×SV)),sO x->∃s,K s/\sO (x.re (P,u,(fun s0:SV=>s0=s))):=by
 intro x h;unfold sO at h;split at h
 ·exact Exists.intro _ (And.intro h.2.2 (And.intro h.1 (And.intro h.2.1 rfl)))
 ·obtain⟨b,hb,h0,h1,h2⟩:=aB h;refine Exists.intro _ (And.intro h2 ?_);show aF _;rw[hb];exact⟨h0,h1,rfl⟩
 ·exact h.elim
theorem Vn:∀(x:A (P,t,u,K) (SV×SV)),uM x->∃s,K s/\uM (x.re (P,t,u,(fun s0:SV=>s0=s))):=by
 intro x h;unfold uM at h;split at h
 ·exact Exists.intro _ (And.intro h.2.2 (And.intro h.1 (And.intro h.2.1 rfl)))
 ·exact h.elim
theorem Vk:∀(x:A (P,t,u,K) (SV×Option SV×Option SV)),td x->∃s,K s/\td (x.re (P,t,u,(fun s0:SV=>s0=s))):=by
 intro x h;unfold td at h;split at h
 ·obtain⟨h0,h⟩:=h;obtain⟨l,hl,h⟩:=aB h;obtain⟨m,hm,h⟩:=aB h;refine Exists.intro _ (And.intro h.2 ?_);refine And.intro h0 ?_;show aF _;rw[hl];show aF _;rw[hm];exact And.intro h.1 rfl
 ·obtain⟨l,hl,h⟩:=aB h;obtain⟨m,hm,h⟩:=aB h;obtain⟨e,he,h0,h1,h2⟩:=aB h;refine Exists.intro _ (And.intro h2 ?_);show aF _;rw[hl];show aF _;rw[hm];show aF _;rw[he];exact And.intro h0 (And.intro h1 rfl)
 ·exact h.elim
theorem Vm {m:Mem} {y:Value}:∀(x:A (m,y,u,K) (Option Nat)),wy x->∃s,K s/\wy (x.re (m,y,u,(fun s0:SV=>s0=s))):=by
 rintro⟨x⟩ h;cases x with
 |none=>obtain⟨c,h1,h2⟩:=h;exact Exists.intro _ (And.intro h2 (Exists.intro c (And.intro h1 rfl)))
 |some n=>obtain⟨c,h1,h2⟩:=h;exact Exists.intro _ (And.intro h2 (Exists.intro c (And.intro h1 rfl)))
theorem TJ {b:Vc} {o:Nat}:∀(x:A (b,o,u,K) (Option Nat)),vW x->∃s,K s/\vW (x.re (b,o,u,(fun s0:SV=>s0=s))):=by
 rintro⟨x⟩ h;cases x with
 |none=>exact Exists.intro _ (And.intro h.2 (And.intro h.1 rfl))
 |some n=>exact Exists.intro _ (And.intro h.2.2 (And.intro h.1 (And.intro h.2.1 rfl)))
theorem TO {l:List Value} {key:Value}:∀(x:A (l,key,K) (Bool×Option Value)),sN x->∃s,K s/\sN (x.re (l,key,(fun s0:SV=>s0=s))):=by
 intro x h;unfold sN at h;split at h
 ·exact Exists.intro _ (And.intro h rfl)
 ·rename_i z;cases hf:kZ l key with
  |none=>exact Exists.intro _ (And.intro (h.2 hf) (And.intro (fun v hv=>by rw[hf] at hv;cases hv) (fun _=>rfl)))
  |some v=>exact Exists.intro _ (And.intro (h.1 v hf) (And.intro (fun v' hv=>by rw[hf] at hv;cases hv;rfl) (fun hv=>by rw[hf] at hv;cases hv)))
 ·rename_i z;cases hf:kZ l key with
  |none=>exact Exists.intro _ (And.intro (h.2 hf) (And.intro (fun v hv=>by rw[hf] at hv;cases hv) (fun _=>rfl)))
  |some v=>exact Exists.intro _ (And.intro (h.1 v hf) (And.intro (fun v' hv=>by rw[hf] at hv;cases hv;rfl) (fun hv=>by rw[hf] at hv;cases hv)))
 ·cases h
theorem TN {c:Bool}:∀(x:A (P,t,c,K) (LS×SV×Option Value)),sM x->∃s,K s/\sM (x.re (P,t,c,(fun s0:SV=>s0=s))):=by
 intro x h;unfold sM at h;split at h
 ·obtain⟨b,hb,dI,ht,hk,h⟩:=aB h;obtain⟨l,hl,h⟩:=aB h;obtain⟨s,h1,h2⟩:=TO _ h;refine Exists.intro s (And.intro h1 ?_);simp only[A.re,sM,aF,hb,hl,dI,true_and];exact⟨ht,hk,h2⟩
 ·cases h
theorem Se:∀(x:A (P,t,u,K) (LS×SV)),oC x->∃s,K s/\oC (x.re (P,t,u,(fun s0:SV=>s0=s))):=by
 intro x h;unfold oC at h;split at h
 ·obtain⟨b,hb,dI,h⟩:=aB h;obtain⟨ag,iA,h⟩:=aB h;obtain⟨r,hr,h⟩:=aB h;refine Exists.intro _ (And.intro h ?_);simp only[A.re,oC,aF,hb,iA,hr,dI,and_self]
 ·obtain⟨b,hb,h⟩:=aB h;obtain⟨ag,iA,h⟩:=aB h;obtain⟨s,h1,h2⟩:=TJ _ h;refine Exists.intro _ (And.intro h1 ?_);show aF _;rw[hb];show aF _;rw[iA];exact h2
 ·obtain⟨ag,iA,h⟩:=aB h;obtain⟨s,h1,h2⟩:=Vm _ h;refine Exists.intro _ (And.intro h1 ?_);show aF _;rw[iA];exact h2
 ·exact h.elim
theorem TS:∀(x:A K (SV×Nat)),sP x->∃s,K s/\sP (x.re (fun s0:SV=>s0=s)):=by
 intro x h;unfold sP at h;split at h
 ·exact vo h
 ·exact vo h
 ·exact h.elim
theorem TP:∀(x:A (P,t,K) (LS×SV)),rq x->∃s,K s/\rq (x.re (P,t,(fun s0:SV=>s0=s))):=by
 intro x h;unfold rq at h;split at h
 ·exact Exists.intro _ (And.intro h.2 (And.intro h.1 rfl))
 ·obtain⟨e,he,h⟩:=aB h;refine Exists.intro _ (And.intro h ?_);show aF _;rw[he];rfl
 ·obtain⟨e,he,h⟩:=aB h;obtain⟨b,hb,h⟩:=aB h;refine Exists.intro _ (And.intro h ?_);show aF _;rw[he];show aF _;rw[hb];rfl
 ·exact h.elim
theorem TL:∀(x:A K (SV×SV)),uv x->∃s,K s/\uv (x.re (fun s0:SV=>s0=s)):=by
 intro x h;unfold uv at h;split at h
 ·exact Exists.intro _ (And.intro h rfl)
 ·exact h.elim
theorem TM:∀(x:A K (SV×SV)),uw x->∃s,K s/\uw (x.re (fun s0:SV=>s0=s)):=by
 intro x h;unfold uw at h;split at h
 ·exact Exists.intro _ (And.intro h rfl)
 ·exact h.elim
theorem Sc:∀(x:A K (SV×SV×SV×SV)),ud x->∃s,K s/\ud (x.re (fun s0:SV=>s0=s)):=by
 intro x h;unfold ud at h;split at h
 ·exact Exists.intro _ (And.intro h rfl)
 ·exact h.elim
theorem Sa {p:be} {a b:Operand} {st:LS} {g:Gd}:∀(x:A (p,a,b,st,g,K) PM),sA x->∃s,K s/\sA (x.re (p,a,b,st,g,(fun s0:SV=>s0=s))):=by
 rintro⟨md⟩ h;unfold sA at h;split at h
 ·obtain⟨s,h1,h2⟩:=vo h.2;exact Exists.intro s (And.intro h1 (And.intro h.1 h2))
 ·obtain⟨s,h1,h2⟩:=vo h.2;exact Exists.intro s (And.intro h1 (And.intro h.1 h2))
 ·rename_i q;cases q;obtain⟨h0,h⟩:=h;obtain⟨x,hx,h⟩:=aB h;obtain⟨y,hy,h⟩:=aB h;obtain⟨s,h1,h2⟩:=Sm _ h;refine Exists.intro s (And.intro h1 (And.intro h0 ?_));rw[hx];show aF _;rw[hy];exact h2
theorem LU {op:Op}:∀(x:A (P,op,K) (LS×be)),qOp x->∃s,K s/\qOp (x.re (P,op,(fun s0:SV=>s0=s))):=by
 intro x h;unfold qOp at h;split at h
 ·exact vo h
 ·exact vo h
 ·obtain⟨g,hg,h⟩:=aB h;obtain⟨s,h1,h2⟩:=Sa _ h;exact Exists.intro s (And.intro h1 (by simp only[A.re,qOp,aF,hg];exact h2))
 ·obtain⟨x,hx,h⟩:=aB h;obtain⟨s,h1,h2⟩:=TK _ h;exact Exists.intro s (And.intro h1 (by simp only[A.re,qOp,aF,hx];exact h2))
 ·obtain⟨x,hx,h⟩:=aB h;obtain⟨s,h1,h2⟩:=Sb _ h;exact Exists.intro s (And.intro h1 (by simp only[A.re,qOp,aF,hx];exact h2))
 ·rename_i PC t x' y' ty aj p' cY;obtain⟨x,hx,h⟩:=aB h;obtain⟨y,hy,h⟩:=aB h;obtain⟨s,h1,h2⟩:=UL _ h;have bc:¬y' = .const .nilIface:=fun e=>by subst e;exact cY _ _ rfl HEq.rfl
  exact Exists.intro s (And.intro h1 (by simp only[A.re,qOp,aF,hx,hy,bc,false_implies,implies_true];exact h2))
 ·obtain⟨x,hx,h⟩:=aB h;obtain⟨s,h1,h2⟩:=Vj _ h;exact Exists.intro s (And.intro h1 (by simp only[A.re,qOp,aF,hx];exact h2))
 ·obtain⟨x,hx,h⟩:=aB h;obtain⟨s,h1,h2⟩:=Sg _ h;exact Exists.intro s (And.intro h1 (by simp only[A.re,qOp,aF,hx];exact h2))
 ·obtain⟨x,hx,h⟩:=aB h;obtain⟨y,hy,h⟩:=aB h;obtain⟨s,h1,h2⟩:=TR _ h;exact Exists.intro s (And.intro h1 (by simp only[A.re,qOp,aF,hx,hy];exact h2))
 ·obtain⟨x,hx,h⟩:=aB h;obtain⟨y,hy,h⟩:=aB h;obtain⟨s,h1,h2⟩:=vo h;exact Exists.intro s (And.intro h1 (by simp only[A.re,qOp,aF,hx,hy];exact h2))
 ·obtain⟨x,hx,h⟩:=aB h;obtain⟨y,hy,h⟩:=aB h;obtain⟨z,hz,h⟩:=aB h;obtain⟨s,h1,h2⟩:=TQ _ h;exact Exists.intro s (And.intro h1 (by simp only[A.re,qOp,aF,hx,hy,hz];exact h2))
 ·obtain⟨x,hx,h⟩:=aB h;obtain⟨y,hy,h⟩:=aB h;obtain⟨s,h1,h2⟩:=Vn _ h;exact Exists.intro s (And.intro h1 (by simp only[A.re,qOp,aF,hx,hy];exact h2))
 ·obtain⟨x,hx,h⟩:=aB h;obtain⟨y,hy,h⟩:=aB h;obtain⟨z,hz,h⟩:=aB h;obtain⟨s,h1,h2⟩:=Vk _ h;exact Exists.intro s (And.intro h1 (by simp only[A.re,qOp,aF,hx,hy,hz];exact h2))
 ·obtain⟨x,hx,h⟩:=aB h;obtain⟨s,h1,h2⟩:=Se _ h;exact Exists.intro s (And.intro h1 (by simp only[A.re,qOp,aF,hx];exact h2))
 ·obtain⟨x,hx,h⟩:=aB h;obtain⟨s,h1,h2⟩:=TS _ h;exact Exists.intro s (And.intro h1 (by simp only[A.re,qOp,aF,hx];exact h2))
 ·obtain⟨h0,h⟩:=h;obtain⟨z,hz,h⟩:=aB h;obtain⟨cs,gd,h⟩:=aB h;exact Exists.intro _ (And.intro h (by simp only[A.re,qOp,aF,hz,gd];exact And.intro h0 trivial))
 ·obtain⟨x,hx,h⟩:=aB h;obtain⟨s,h1,h2⟩:=TP _ h;exact Exists.intro s (And.intro h1 (by simp only[A.re,qOp,aF,hx];exact h2))
 ·obtain⟨x,hx,h⟩:=aB h;obtain⟨y,hy,h⟩:=aB h;obtain⟨s,h1,h2⟩:=TL _ h;exact Exists.intro s (And.intro h1 (by simp only[A.re,qOp,aF,hx,hy];exact h2))
 ·obtain⟨x,hx,h⟩:=aB h;obtain⟨y,hy,h⟩:=aB h;obtain⟨s,h1,h2⟩:=TN _ h;exact Exists.intro s (And.intro h1 (by simp only[A.re,qOp,aF,hx,hy];exact h2))
 ·obtain⟨x,hx,h⟩:=aB h;obtain⟨y,hy,h⟩:=aB h;obtain⟨s,h1,h2⟩:=TM _ h;exact Exists.intro s (And.intro h1 (by simp only[A.re,qOp,aF,hx,hy];exact h2))
 ·obtain⟨x,hx,h⟩:=aB h;obtain⟨y,hy,h⟩:=aB h;obtain⟨z,hz,h⟩:=aB h;obtain⟨u,hu,h⟩:=aB h;obtain⟨s,h1,h2⟩:=Sc _ h;exact Exists.intro s (And.intro h1 (by simp only[A.re,qOp,aF,hx,hy,hz,hu];exact h2))
 ·exact h.elim
end
section
variable {n:Nat} {st:LS} {P:Program} {c:Cfg}
end
/-! Regions that draw their order, of quiet operations and pure calls. -/
def GF:OpK->Bool
 | .ac=>false
 |_=>true
section
variable {C:Ctx} {n:Nat} {st:LS} {a:Act} {V:Vl} {D:Nat->Nat} {w:World} {P:Program} {p:be} {c:Cfg} {ops:Array Oper} {L:Nat->Prop} {i:Nat} {o:Oper}
def Cl (C:Ctx) (bx:List Bx) (vc:List Vc) (nid:Nat) (m:Mem) (V:Vl) (w:World):Prop:=∃V' D',Agree nid vc V V' /\SatW C bx vc nid m V' D' w
theorem SatW.drew {bx:List Bx} {vc:List Vc} {nid:Nat} {m:Mem} (h:SatW C bx vc nid m V D w) (k:Nat):SatW C bx vc nid m V D {w with drawn:=k}:=
 ⟨⟨h.heap.bx,h.heap.vc,h.heap.apart,h.heap.uniq⟩,h.wf,⟨h.frm.os,h.frm.tape,h.frm.output,h.frm.size,h.frm.same⟩,h.own,h.baseB,h.baseV,h.ids,h.le0,h.m0,h.mle⟩
theorem So (hF:SatF n st.env st.rho a V) (qn:∀e∈st.env,ix st.nid st.vc e.s) {w0:World} (DI:Cl C st.bx st.vc st.nid st.m V w0)
  (dv:cd c P) (hR:RInv ops L st.rho) (nZ:¬L i) (gu:ops[i]? =some o) (hd:lI n o=true) (yH:GF (fZ c o.op)=true) (Aq:pathOf st o.guard=some p) {K:LS->Prop} (h:one (.mk (k:=(c,P,i,o,K)) (st,p)))
  {next:Act->Prop} (hn:∀aj a',K aj->SatF n aj.env aj.rho a' V->(∀e∈aj.env,ix st.nid st.vc e.s)->aj.bx=st.bx/\aj.vc=st.vc/\aj.nid=st.nid/\aj.m=st.m->RInv ops (fun k=>L k\/k=i) aj.rho->next a'):
  if Region.wanted o (yielded ops a.tmps) then o.quiet P a (Cl C st.bx st.vc st.nid st.m V) next else next (a.put o.dst undef):=by
 obtain⟨V0,D0,ha0,hW0⟩:=DI;have Ae:∀{V' :Vl} {D' :Nat->Nat} {w' :World},Agree st.nid st.vc V V' ->SatW C st.bx st.vc st.nid st.m V' D' w' ->Sat C n st a V' D' w' :=fun ha hW=>⟨hF.agree qn ha,qn,hW⟩
 have yO:=Ae ha0 hW0;obtain⟨hp,hw⟩:=EO yO hR Aq;rw[hw];have back:∀{aj:LS} {a' :Act},Sat C n aj a' V0 D0 w0->aj.bx=st.bx/\aj.vc=st.vc/\aj.nid=st.nid/\aj.m=st.m->SatF n aj.env aj.rho a' V/\∀e∈aj.env,ix st.nid st.vc e.s:=by
  intro aj a' fv he;have hid:∀e∈aj.env,ix st.nid st.vc e.s:=by rw[<- he.2.1,<- he.2.2.1];exact fv.ids
  exact⟨fv.f.agree hid (fun k hk=>⟨((ha0 k hk).1).symm,fun u hu=>((ha0 k hk).2 u hu).symm⟩),hid⟩
 simp only[one] at h;unfold AD at h;split at h
 ·rename_i q dead he;simp only[A.mk.injEq,Prod.mk.injEq] at he;obtain⟨hq,hdead,hit⟩:=he;have uC:∀(d:Option Nat) (p:be) (s:SV),(E.put st d p s).bx=st.bx/\(E.put st d p s).vc=st.vc/\(E.put st d p s).nid=st.nid/\(E.put st d p s).m=st.m:=fun d p s=>by cases d<;>exact⟨rfl,rfl,rfl,rfl⟩
  have DF:∀(d:Option Nat) (p:be) (s:SV) (mv:Bool),(kV (E.put st d p s) i d p mv s).bx=st.bx/\(kV (E.put st d p s) i d p mv s).vc=st.vc/\(kV (E.put st d p s) i d p mv s).nid=st.nid/\(kV (E.put st d p s) i d p mv s).m=st.m:=fun d p s mv=>by
   rcases EA (E.put st d p s) i d p mv s with e |⟨_,_,_,_,e⟩
   ·rw[e];exact uC d p s
   ·rw[e];exact uC d p s
  have Ok:∀(d:Option Nat) (p:be) (s:SV) (mv:Bool),(kW (E.put st d p s) i d p mv).bx=st.bx/\(kW (E.put st d p s) i d p mv).vc=st.vc/\(kW (E.put st d p s) i d p mv).nid=st.nid/\(kW (E.put st d p s) i d p mv).m=st.m:=fun d p s mv=>by
   rcases EB (E.put st d p s) i d p mv with e |⟨_,_,e⟩
   ·rw[e];exact uC d p s
   ·rw[e];exact uC d p s
  unfold vZ at h;split at h
  ·rename_i aj p' q';cases q';have hc:=Ci hdead;rw[hc];simp only[Bool.false_eq_true,if_false];obtain⟨h1,h2⟩:=GV yO hR nZ gu hd hit hp hc (ns o.op);obtain⟨h3,h4⟩:=back h1 (Ok _ _ _ _);exact hn _ _ h h3 h4 (Ok _ _ _ _) h2
  ·rename_i aj p' q';cases q';obtain⟨s,⟨hs,hK⟩,hdet⟩:=LU _ h;have cR:∀w',Cl C st.bx st.vc st.nid st.m V w' ->bF st.rho p=true->(execOp a.eval o).run P w' = .ok (.value (den V s)) w' :=by
    rintro w' ⟨V',D',ha,hW⟩ hc;obtain⟨s',e,hr⟩:=E4 (Ae ha hW) hp (o:=o) rfl hdet;subst e;rw[hr hc,Cg ha hs]
   cases hc:bF st.rho p with
   |true=>
    simp only[if_true];refine⟨den V s,fun w' Be=> ?_,?_⟩
    ·unfold Oper.quietAt;rw[cR w' Be hc];exact⟨rfl,rfl⟩
    ·have e0:den V s=den V0 s:=(Cg ha0 hs).symm;obtain⟨h1,h2⟩:=At yO hR nZ gu hd hit hp hs (v:=den V s) (by rw[hc,e0];rfl) (ns o.op);obtain⟨h3,h4⟩:=back h1 (DF _ _ _ _);exact hn _ _ hK h3 h4 (DF _ _ _ _) h2
   |false=>
    simp only[Bool.false_eq_true,if_false];obtain⟨h1,h2⟩:=At yO hR nZ gu hd hit hp hs (v:=undef) (by rw[hc];rfl) (ns o.op);obtain⟨h3,h4⟩:=back h1 (DF _ _ _ _);exact hn _ _ hK h3 h4 (DF _ _ _ _) h2
  ·rename_i F aj p' q';cases q';obtain⟨y,hy,hB,hK⟩:=aB h;cases hc:bF st.rho p with
   |true=>
    simp only[if_true];obtain⟨f,args,ts,ho,hf⟩:=KU hq;obtain⟨av,hFF⟩:=dv f F hf;rw[ho] at hy;simp only[xF,Option.bind_eq_some_iff] at hy;obtain⟨b5,⟨ss,wG,hvals⟩,hy⟩:=hy;refine⟨y.2,?_,?_⟩
    ·rintro w' ⟨V',D',ha,hW⟩;have fv:=Ae ha hW;have cR:=FD (w:=w') (a:=a) ho rfl av;unfold Oper.quietAt;rw[cR];refine⟨rfl,?_⟩;have qg:args.map a.eval=⟨(b5.map SV.v).map (den V')⟩:=by
      apply Array.ext'
      rw[Array.toList_map,y9 fv hp hc wG,Ey hvals];simp only[List.map_map];exact(List.map_id'' (fun x=>rfl) b5).symm
     rw[qg];refine(hFF st.m b5 y hy (hB hc) V' w' D' hW.wf hW.mle ⟨fun b hb=>(by cases hb),fun b hb=>(by cases hb),by simp [aW],by simp⟩).mono fun e w2 ⟨r,V2,D2,H',m',he,h1,h2,h3,h4,h5,h6,h7,h8,h9,hr,hH⟩=> ?_
     subst he;subst hr;exact⟨rfl,V',D2,ha,hW.quiet h1 h5 h7⟩
    ·obtain⟨h1,h2⟩:=yc (i:=i) yO hR hd hit hp (s:= .v y.2) trivial (v:=y.2) (fun _=>rfl);obtain⟨h3,h4⟩:=back h1 (uC _ _ _);exact hn _ _ hK h3 h4 (uC _ _ _) h2
   |false=>
    simp only[Bool.false_eq_true,if_false];obtain⟨h1,h2⟩:=yc (i:=i) yO hR hd hit hp (s:= .v y.2) trivial (v:=undef) (fun e=>by rw[hc] at e;cases e);obtain⟨h3,h4⟩:=back h1 (uC _ _ _);exact hn _ _ hK h3 h4 (uC _ _ _) h2
  ·rw[hq] at yH;cases yH
 ·cases h
theorem JF (dv:cd c P) {C:Ctx} {V:Vl} {w0:World} {bx:List Bx} {vc:List Vc} {nid:Nat} {m:Mem} (DI:Cl C bx vc nid m V w0) {K:LS->Prop} {Q:Act->Prop}
  (hQ:∀aj a',K (clean aj)->SatF n aj.env aj.rho a' V->(∀e∈aj.env,ix nid vc e.s)->aj.bx=bx/\aj.vc=vc/\aj.nid=nid/\aj.m=m->Q a'):
  ∀(l:List Oper) (i:Nat) (st:LS) (a:Act),AA c P l i K st->SatF n st.env st.rho a V->(∀e∈st.env,ix nid vc e.s)->st.bx=bx/\st.vc=vc/\st.nid=nid/\st.m=m->RInv ops (· <i) st.rho->
   (∀j,l[j]? =ops[i+j]?)->(∀o∈l,lI n o=true/\GF (fZ c o.op)=true)->wpQuiet P ops (Cl C bx vc nid m V) Q l a
 |[],i,st,a,h,hF,qn,he,hR,hl,hd=>hQ _ _ h hF qn he
 |o::r,i,st,a,h,hF,qn,he,hR,hl,hd=>by
  obtain⟨p,hp,h⟩:=aB h;have gu:ops[i]? =some o:=by have:=hl 0;simpa using this.symm
  obtain⟨rfl,rfl,rfl,rfl⟩:=he;unfold wpQuiet;refine So hF qn DI dv hR (Nat.lt_irrefl _) gu (hd o (df ..)).1 (hd o (df ..)).2 hp h fun aj a' hK If Dl qO tz=> ?_
  exact JF dv DI hQ r (i+1) aj a' hK If Dl qO (tz.mono fun k hk=>by omega) (fun j=>by have:=hl (j+1);simpa [Nat.add_assoc,Nat.add_comm 1 j] using this) (fun o ho=>hd o (cu _ ho))
theorem ly (dv:cd c P) {id:Nat} {l:List Oper} {Q:Exit->LS->Prop} {st:LS} (hm:P.follows .mixedOrders=true) (hB:Region.lexB .any ⟨l⟩=true) (hd:l.all (fun o=>lI n o&&GF (fZ c o.op))=true)
  (h:yy (.mk (k:=(c,P,0,l,Q .normal)) st)):js (.mk (k:=(P,n,.region id ⟨l⟩ true,Q)) st):=by
 rintro C a w ⟨fD,V,D,hS⟩;have bN:Cl C st.bx st.vc st.nid st.m V {w with drawn:=w.drawn+1}:=⟨V,D,Agree.refl _ _ _,hS.w.drew _⟩;refine wp_region_quiet (C:=Cl C st.bx st.vc st.nid st.m V) hm hB bN ?_;refine JF (ops:=⟨l⟩) dv bN (K:=Q .normal) ?_ l 0 st a h hS.f hS.ids ⟨rfl,rfl,rfl,rfl⟩ ?_ (fun j=>by simp) (fun o ho=> ?_)
 ·rintro aj a' hK If Dl ⟨e1,e2,e3,e4⟩ w' ⟨V',D',ha,hW⟩;refine⟨clean aj,?_,hK⟩;have fv:Sat C n aj a' V' D' w' :=⟨If.agree Dl ha,by rw[e2,e3];exact Dl,by rw[e1,e2,e3,e4];exact hW⟩;exact ED fv
 ·rw[fD];intro g hg;cases hg
 ·have:=List.all_eq_true.1 hd o ho;simpa using this
end
/-! Functions of values, listed. -/
def yD:List (FuncId×(List Value->Option (Prop×Value)))->FuncId->Option (List Value->Option (Prop×Value))
 |[],_=>none
 |(g,F)::r,f=>if g=f then some F else yD r f
def fh (own:FuncId->Bool) (L:List (FuncId×(List Value->Option (Prop×Value)))):Cfg:=⟨own,fun f=>(yD L f).map fun F _=>F⟩
attribute [go_sem] yD.eq_1 yD.eq_2 fh.eq_1
theorem pure_nil {P:Program} {own:FuncId->Bool}:cd (fh own []) P:=fun f F h=>by cases h
theorem pure_cons {P:Program} {own:FuncId->Bool} {L:List (FuncId×(List Value->Option (Prop×Value)))} {g:FuncId} {F:List Value->Option (Prop×Value)} (av:gM P g=true)
  (h:∀b5 y,F b5=some y->y.1->∀m,FnH P g (b5.map SV.v) ⟨[],[]⟩ m (fun r H' _=>r= .v y.2/\H' =⟨[],[]⟩)) (hL:cd (fh own L) P):cd (fh own ((g,F)::L)) P:=by
 intro f G hf;by_cases e:g=f
 ·subst e;simp only[fh,yD,if_true,Option.map_some,de] at hf;subst hf;exact⟨av,fun m b5 y hy hB=>h b5 y hy hB m⟩
 ·simp only[fh,yD,ae e] at hf;exact hL f G hf
/-! .. and functions of values and of what lies in memory. -/
def yC:List (FuncId×(Mem->List Value->Option (Prop×Value)))->FuncId->Option (Mem->List Value->Option (Prop×Value))
 |[],_=>none
 |(g,F)::r,f=>if g=f then some F else yC r f
def ri (own:FuncId->Bool) (L:List (FuncId×(Mem->List Value->Option (Prop×Value)))):Cfg:=⟨own,yC L⟩
attribute [go_sem] yC.eq_1 yC.eq_2 ri.eq_1
theorem B5 {P:Program} {own:FuncId->Bool}:cd (ri own []) P:=fun f F h=>by cases h
theorem na {P:Program} {own:FuncId->Bool} {L:List (FuncId×(Mem->List Value->Option (Prop×Value)))} {g:FuncId} {F:Mem->List Value->Option (Prop×Value)} (av:gM P g=true)
  (h:∀m b5 y,F m b5=some y->y.1->FnH P g (b5.map SV.v) ⟨[],[]⟩ m (fun r H' _=>r= .v y.2/\H' =⟨[],[]⟩)) (hL:cd (ri own L) P):cd (ri own ((g,F)::L)) P:=by
 intro f G hf;by_cases e:g=f
 ·subst e;simp only[ri,yC,if_true,de] at hf;subst hf;exact⟨av,h⟩
 ·simp only[ri,yC,ae e] at hf;exact hL f G hf
def uG (ops:Array Oper):Nat->Nat->Nat->Bool
 |0,_,_=>false
 |f+1,j,i=>match ops[j]? with
  |some o=>o.after.toList.any fun e=>Region.binds .any e&&(e.on==i||uG ops f e.on i)
  |none=>false
def oZ (ops:Array Oper) (j i:Nat):Prop:=∃f,uG ops f j i=true
def Closed (ops:Array Oper) (listed:Array Bool) (i:Nat):Prop:=∀k,listed.getD k false=true->oZ ops k i->listed.getD i false=true
section
variable {P:Program} {ops:Array Oper} {Q:Exit->Act->World->Prop} {Cw:World->Prop}
theorem Fz {listed:Array Bool} {i:Nat} (h:listed.getD i true=false):listed.getD i false=false:=by
 rcases Nat.lt_or_ge i listed.size with h' |h'
 ·simp only[Array.getD,h',dite_true] at h ⊢;exact h
 ·simp [Array.getElem?_eq_none h'] at h
theorem Qj {listed:Array Bool} {i j:Nat} (hc:Closed ops listed i) (hi:listed.getD i false=false) (hj:j∈Region.ready .any ops listed):¬oZ ops j i:=by
 rintro⟨f,hf⟩;obtain⟨_,o,ho,lq⟩:=mem_ready.1 hj;cases f with
 |zero=>cases hf
 |succ f=>
  simp only[uG,ho] at hf;obtain⟨e,he,h⟩:=List.any_eq_true.1 hf;simp only[cO,Bool.or_eq_true,beq_iff_eq] at h;have hl:=lq e (by simpa using he) h.1;rcases h.2 with h2 |h2
  ·rw[h2,hi] at hl;cases hl
  ·have:=hc _ hl ⟨f,h2⟩;rw[hi] at this;cases this
theorem Closed.set {listed:Array Bool} {i j:Nat} (hc:Closed ops listed i) (hj:¬oZ ops j i):Closed ops (listed.setIfInBounds j true) i:=fun k hk hd=>by
 by_cases e:j=k
 ·subst e;exact absurd hd hj
 ·rw[getD_set_ne false e] at hk;exact getD_set_true (hc k hk hd)
theorem Closed.done {listed:Array Bool} {i:Nat} (h:listed.getD i false=true):Closed ops listed i:=fun _ _ _=>h
def YW (P:Program) (ops:Array Oper) (Cw:World->Prop) (o:Oper) (v:Value) (a:Act):Prop:=
 (Region.wanted o (yielded ops a.tmps)=true/\∀w,Cw w->(execOp a.eval o).run P w= .ok (.value v) w)\/(Region.wanted o (yielded ops a.tmps)=false/\v=undef)
theorem YW.same {o:Oper} {v:Value} {a a' :Act} (hy:YW P ops Cw o v a) (he:execOp a'.eval o=execOp a.eval o) (hw:Region.wanted o (yielded ops a'.tmps)=Region.wanted o (yielded ops a.tmps)):YW P ops Cw o v a' :=by
 unfold YW at *;rw[he,hw];exact hy
theorem YW.wpOp {i:Nat} {o:Oper} {v:Value} {a:Act} (hi:ops[i]? =some o) (hy:YW P ops Cw o v a) {K:Act->World->Prop} {w:World} (hw:Cw w) (h:K (a.put o.dst v) w):wpOp P ops Q i K a w:=by
 unfold Go.wpOp;simp only[hi];rcases hy with ⟨HF,hv⟩ |⟨HF,rfl⟩
 ·simp only[HF,if_true,Oper.wp,hv w hw,Oper.upon];exact .inl h
 ·simp only[HF,Bool.false_eq_true,if_false];exact h
theorem RI {j:Nat} {oi oj:Oper} {v:Value} (hj:ops[j]? =some oj) (pM:oi.apart ops oj=true) (hsi:∀cs b,oi.op≠ .select cs b) (OZ:∀cs b,oj.op≠ .select cs b)
  (hQ:∀c a w,¬Q (.panic c) a w) {K:Act->World->Prop} {a:Act} {w:World} (hy:YW P ops Cw oi v a) (h:wpOp P ops Q j K (a.put oi.dst v) w):
  wpOp P ops Q j (fun a' w' =>YW P ops Cw oi v a' /\K (a'.put oi.dst v) w') a w:=by
 obtain⟨h1,h2,h3⟩:=Oper.apart_spec pM;have sU:∀(a:Act),YW P ops Cw oi v a->∀u,YW P ops Cw oi v (a.put oj.dst u):=fun a hy u=>
  hy.same (execOp_put oi hsi a oj.dst u h3) (wanted_put oi a oj.dst u h3)
 have Yv:∀d,YW P ops Cw oi v {a with defers:=d::a.defers}:=fun d=>hy.same rfl rfl
 unfold wpOp at *;simp only[hj] at *;rw[wanted_put oj a oi.dst v h1] at h;split
 ·rename_i hw;simp only[hw,if_true] at h;rcases h with h |⟨NV,hlets⟩
  case inr=>exact .inr ⟨by unfold Oper.asks at *;rw[execOp_put oj OZ a oi.dst v h1] at NV;exact NV,hlets⟩
  refine .inl ?_;unfold Oper.wp at *;rw[execOp_put oj OZ a oi.dst v h1] at h;generalize (execOp a.eval oj).run P w=r at *
  cases r with
  |ok n w' =>
   cases n<;>simp only[Oper.upon] at h ⊢;case value u=>exact⟨sU a hy u,by rw[<- Act.put_comm a v u h2];exact h⟩
   case skip=>exact⟨sU a hy _,by rw[<- Act.put_comm a v undef h2];exact h⟩
   case defer d=>
    refine⟨sU _ (Yv d) _,?_⟩;rw[<- Act.put_comm _ v undef h2,<- Act.put_defers];exact h
   case enter f args=>
    refine Calls.mono h fun e pD he=> ?_
    cases e with
    |returned u=>exact⟨sU a hy u,by rw[<- Act.put_comm a v u h2];exact he⟩
    |panicked c=>exact absurd he (hQ _ _ _)
    |outgrown=>exact he
   case row row args=>exact Rows.mono h fun u pD he=>⟨sU a hy u,by rw[<- Act.put_comm a v u h2];exact he⟩
  |halt x w' =>
   cases x<;>simp only[Oper.upon] at h ⊢;case panic u=>exact absurd h (hQ _ _ _)
 ·rename_i hw;simp only[hw] at h;exact⟨sU a hy _,by rw[<- Act.put_comm a v undef h2];exact h⟩
def pY (P:Program) (ops:Array Oper) (Q:Exit->Act->World->Prop):Nat->(Nat×(World->Prop)->Prop)->Array Bool->Act->World->Prop
 |0,_,listed,a,w=>Region.ready .any ops listed=[]/\Q .normal a w
 |fuel+1,I,listed,a,w=>
  (Region.ready .any ops listed=[]->Q .normal a w)/\
  ∀j∈Region.ready .any ops listed,wpOp P ops Q j (fun a' w' =>(∀x,I x->¬oZ ops j x.1->x.2 w')/\pY P ops Q fuel (fun x=>I x/\¬oZ ops j x.1) (listed.setIfInBounds j true) a' w') a w
theorem I8:∀(fuel:Nat) (I:Nat×(World->Prop)->Prop) (listed:Array Bool) (a:Act) (w:World),pY P ops Q fuel I listed a w->wpAny P .any ops Q fuel listed a w
 |0,_,_,_,_,h=>h
 |fuel+1,_,_,_,_,h=>⟨h.1,fun j hj=>wpOp_mono (fun a' w' h' =>I8 fuel _ _ a' w' h'.2) (h.2 j hj)⟩
theorem yV:∀(fuel:Nat) (I J:Nat×(World->Prop)->Prop) (_:∀i,J i->I i) (listed:Array Bool) (a:Act) (w:World),pY P ops Q fuel I listed a w->pY P ops Q fuel J listed a w
 |0,_,_,_,_,_,_,h=>h
 |fuel+1,I,J,hI,_,_,_,h=>⟨h.1,fun j hj=>wpOp_mono (fun a' w' h' =>⟨fun x h1 h2=>h'.1 x (hI x h1) h2,yV fuel _ _ (fun x hx=>⟨hI x hx.1,hx.2⟩) _ a' w' h'.2⟩) (h.2 j hj)⟩
theorem hoist {i:Nat} {oi:Oper} {v:Value} (hi:ops[i]? =some oi) (DC:∀(j:Nat) (o:Oper) cs b,ops[j]? =some o->o.op≠ .select cs b) (hQ:∀c a w,¬Q (.panic c) a w):
  ∀(fuel:Nat) (I:Nat×(World->Prop)->Prop) (listed:Array Bool) (a:Act) (w:World),
   (∀j oj,ops[j]? =some oj->j≠i->listed.getD j true=false->(∀e∈oj.after,Region.binds .any e=true->e.on≠i)->oi.apart ops oj=true)->
   Closed ops listed i->i∈Region.ready .any ops listed->YW P ops Cw oi v a->Cw w->(∀x,I x->x.2 w)->
   pY P ops Q fuel (fun x=>x=(i,Cw)\/I x) (listed.setIfInBounds i true) (a.put oi.dst v) w->pY P ops Q (fuel+1) I listed a w:=by
 intro fuel;induction fuel with
 |zero=>
  intro I listed a w _ _ hr hy hC hI H;refine⟨fun h=>(by rw[h] at hr;cases hr),fun j hj=> ?_⟩;by_cases hji:j=i
  ·subst hji;exact hy.wpOp hi hC ⟨fun x h1 _=>hI x h1,H⟩
  ·have:=ready_mono hj hji;rw[H.1] at this;cases this
 |succ fuel ih=>
  intro I listed a w Dm bN hr hy hC hI H;refine⟨fun h=>(by rw[h] at hr;cases hr),fun j hj=> ?_⟩;by_cases hji:j=i
  ·subst hji;exact hy.wpOp hi hC ⟨fun x h1 _=>hI x h1,yV _ _ _ (fun x hx=> .inr hx.1) _ _ _ H⟩
  ·have h1:=H.2 j (ready_mono hj hji);obtain⟨Oh,oj,hoj,lq⟩:=mem_ready.1 hj;have Oi:=Fz (mem_ready.1 hr).1;have gv:=Qj bN Oi hj;have yp:∀e∈oj.after,Region.binds .any e=true->e.on≠i:=fun e he hb heq=>by
    have h1:=lq e he hb;rw[heq,Oi] at h1;cases h1
   have h2:=RI hoj (Dm j oj hoj hji Oh yp) (fun cs b=>DC i oi cs b hi) (fun cs b=>DC j oj cs b hoj) hQ hy h1;have Xu:∀k ok,ops[k]? =some ok->k≠i->(listed.setIfInBounds j true).getD k true=false->
     (∀e∈ok.after,Region.binds .any e=true->e.on≠i)->oi.apart ops ok=true:=fun k ok hk hki yF qL=>by
    refine Dm k ok hk hki ?_ qL;by_cases pK:j=k
    ·subst pK;exact Oh
    ·rw[getD_set_ne true pK] at yF;exact yF
   refine wpOp_mono (fun a' w' h3=> ?_) h2;obtain⟨bc,hC',h3⟩:=h3;have abF:=hC' (i,Cw) (.inl rfl) gv;have eF:∀x,I x/\¬oZ ops j x.1->x.2 w' :=fun x hx=>hC' x (.inr hx.1) hx.2
   refine⟨fun x h1 h2=>eF x ⟨h1,h2⟩,ih _ (listed.setIfInBounds j true) a' w' Xu (bN.set gv) (ready_mono hr (Ne.symm hji)) bc abF eF ?_⟩;rw[Array.setIfInBounds_comm _ _ hji];refine yV _ _ _ (fun x hx=> ?_) _ _ _ h3;rcases hx with rfl |hx
   ·exact⟨.inl rfl,gv⟩
   ·exact⟨.inr hx.1,hx.2⟩
end
inductive Plan where
 |done
 |stop
 |hoist (i:Nat) (r:Plan)
 |alt (j:Nat) (ow:List Nat) (r next:Plan)
structure HX where
 i:Nat
 bx:List Bx
 vc:List Vc
 m:Mem
def qH:List Oper->Nat->Option Oper
 |[],_=>none
 |o::_,0=>some o
 |_::r,n+1=>qH r n
def vM (st:LS) (p:be):List Operand->List Nat->List Nat
 |[],acc=>acc
 |x::r,acc=>rdIds1 st p r acc (bU st p x)
where rdIds1 (st:LS) (p:be) (r:List Operand) (acc:List Nat):Option SV->List Nat
 |some s=>vM st p r (nN acc [s])
 |none=>vM st p r acc
def kU:Op->List Operand
 | .load _ a=>[a]
 | .convert _ _ a=>[a]
 | .fieldAddr _ a _=>[a]
 | .indexAddr _ a _=>[a]
 | .call {args:=⟨[x]⟩,..}=>[x]
 | .move _=>[]
 | .assign _=>[]
 | .pick _ _ _=>[]
 | .nilCheck _=>[]
 | .binOp _ _ _ _ _=>[]
 | .unOp _ _ _=>[]
 | .field _ _ _=>[]
 | .index _ _ _=>[]
 | .slice _ _ _ _ _=>[]
 | .extract _ _=>[]
 | .build _ _=>[]
 |_=>[]
def pv (ow:List Nat):List HX->List HX
 |[]=>[]
 |⟨i,bx,vc,m⟩::r=>if ik ow i=true then⟨i,bx,vc,m⟩::pv ow r else pv ow r
def wz (st:LS):List HX->Prop
 |[]=>True
 |⟨_,bx,vc,m⟩::r=>qG st bx/\qF st vc/\ak m st.m/\wz st r
def DB {P:Program} {o:Oper} {p:be} {st:LS} {i:Nat} {K:LS->HX->Prop} (x:A (P,o,p,st,i,K) (OpK×Bool×Bool×List Nat)):Prop:=
 match x with
 | .mk (_,true,false,_)=>K (kW (put st o.dst p (.v undef)) i o.dst p (ns o.op)) ⟨i,[],[],st.m⟩
 | .mk (.qt,false,false,ks)=>qOp (.mk (k:=(P,o.op,fun s=>ix st.nid st.vc s/\K (kV (put st o.dst p s) i o.dst p (ns o.op) s) ⟨i,fz ks st.bx,fe ks st.vc,st.m⟩)) (⟨st.env,st.rho,fz ks st.bx,fe ks st.vc,st.nid,st.m⟩,p))
 |_=>False
def fQ {c:Cfg} {P:Program} {o:Oper} {i:Nat} {K:LS->HX->Prop} (x:A (c,P,o,i,K) (LS×be)):Prop:=
 match x with
 | .mk (st,p)=>DB (.mk (k:=(P,o,p,st,i,K)) (fZ c o.op,uk st.rho p,jE st.rho o.dst,vM st p (kU o.op) []))
def vT (c:Cfg) (P:Program) (l:List Oper) (K:LS->Prop):Plan->List HX->LS->Prop
 | .done,_,st=>K (clean st)
 | .stop,_,_=>True
 | .hoist i r,I,st=>aF (.mk (k:=fun o:Oper=>aF (.mk (k:=fun p:be=>fQ (.mk (k:=(c,P,o,i,fun aj X=>vT c P l K r (X::I) aj)) (st,p))) (pathOf st o.guard))) (qH l i))
 | .alt j ow r nx,I,st=>aF (.mk (k:=fun o:Oper=>aF (.mk (k:=fun p:be=>one (.mk (k:=(c,P,j,o,fun aj=>wz aj (pv ow I)/\vT c P l K r (pv ow I) aj)) (st,p))) (pathOf st o.guard))) (qH l j))/\vT c P l K nx I st
def uK {c:Cfg} {P:Program} {l:List Oper} {K:LS->Prop} {pl:Plan} {I:List HX} (x:A (c,P,l,K,pl,I) LS):Prop:=match x with | .mk st=>vT c P l K pl I st
/-! Does the plan fit the region? -/
def kN (ops:Array Oper):Plan->Nat->List Nat->Array Bool->Option (List Nat)->Bool
 | .done,_,_,listed,none=>(Region.ready .any ops listed).isEmpty
 | .hoist i r,f+1,H,listed,none=>Region.free .any ops listed i&&(Region.ready .any ops listed).contains i&&kN ops r f (i::H) (listed.setIfInBounds i true) none
 | .alt j ow r nx,f+1,H,listed,none=>(Region.ready .any ops listed).contains j&&H.all (fun i=>ik ow i||uG ops ops.size j i)&&
   kN ops r f (H.filter (ik ow)) (listed.setIfInBounds j true) none&&kN ops nx (f+1) H listed (some ((Region.ready .any ops listed).filter (· != j)))
 | .alt j ow r nx,f+1,H,listed,some R=>R.contains j&&(Region.ready .any ops listed).contains j&&H.all (fun i=>ik ow i||uG ops ops.size j i)&&
   kN ops r f (H.filter (ik ow)) (listed.setIfInBounds j true) none&&kN ops nx (f+1) H listed (some (R.filter (· != j)))
 | .stop,_,_,_,some R=>R.isEmpty
 |_,_,_,_,_=>false
section
variable {ops:Array Oper}
def AllClosed (ops:Array Oper) (listed:Array Bool):Prop:=∀i,Closed ops listed i
theorem KI {listed:Array Bool} {j:Nat} (hj:j∈Region.ready .any ops listed):j<listed.size:=by
 have h:=(mem_ready.1 hj).1;rcases Nat.lt_or_ge j listed.size with h' |h'
 ·exact h'
 ·simp [Array.getElem?_eq_none h'] at h
theorem LI {listed:Array Bool} {j:Nat} (hj:j<listed.size):(listed.setIfInBounds j true).getD j false=true:=by simp [hj]
theorem RU {listed:Array Bool} {j k:Nat} (h:(listed.setIfInBounds j true).getD k false=true):k=j\/listed.getD k false=true:=by
 by_cases e:j=k
 ·exact .inl e.symm
 ·rw[getD_set_ne false e] at h;exact .inr h
theorem AllClosed.set {listed:Array Bool} {j:Nat} (hc:AllClosed ops listed) (hj:j∈Region.ready .any ops listed):AllClosed ops (listed.setIfInBounds j true):=by
 intro i k hk hd;refine getD_set_true ?_;rcases RU hk with rfl |hk
 ·obtain⟨_,o,ho,lq⟩:=mem_ready.1 hj;obtain⟨f,hf⟩:=hd;cases f with
  |zero=>cases hf
  |succ f=>
   simp only[uG,ho] at hf;obtain⟨e,he,h⟩:=List.any_eq_true.1 hf;simp only[cO,Bool.or_eq_true,beq_iff_eq] at h;have hl:=lq e (by simpa using he) h.1;rcases h.2 with h2 |h2
   ·rw[<- h2];exact hl
   ·exact hc i _ hl ⟨f,h2⟩
 ·exact hc i k hk hd
theorem Gc:∀{l:List Oper} {i:Nat} {o:Oper},qH l i=some o->l[i]? =some o
 |[],_,_,h=>by cases h
 |o::r,0,o',h=>h
 |o::r,n+1,o',h=>by
  simp only[qH] at h;simpa using Gc h
end
section
variable {C:Ctx} {n:Nat} {st:LS} {a:Act} {V:Vl} {D:Nat->Nat} {w:World} {P:Program} {p:be} {c:Cfg} {ops:Array Oper} {L:Nat->Prop} {i:Nat} {o:Oper}
structure SX where
 h:HX
 nid:Nat
 vc:List Vc
 V:Vl
def SX.cl (C:Ctx) (x:SX) (w:World):Prop:=∃V' D',Agree x.nid x.vc x.V V' /\SatW C x.h.bx x.h.vc x.nid x.h.m V' D' w
structure SX.ok (C:Ctx) (st:LS) (V:Vl) (x:SX):Prop where
 step:Step x.nid x.vc st.nid st.vc x.V V
 hd:oN ⟨[],[],x.h.bx,x.h.vc,x.nid,x.h.m⟩
 b:∀b∈C.H0.bx,b.id<x.nid
 v:∀b∈C.H0.vc,b.id<x.nid
 m:C.m0.le x.h.m
theorem EN {L:List Nat}:∀{bx:List Bx},∀b∈fz L bx,b∈bx
 |[],_,h=>h
 |⟨k,t,cs⟩::r,b,h=>by
  simp only[fz] at h;split at h
  ·rcases List.mem_cons.1 h with rfl |h
   ·exact df ..
   ·exact cu _ (EN b h)
  ·exact cu _ (EN b h)
theorem SatW.pickW (h:SatW C st.bx st.vc st.nid st.m V D w) (ks:List Nat):SatW C (fz ks st.bx) (fe ks st.vc) st.nid st.m V D w:=by
 have oS:=(BS ks h.heap).app.1;have hv:∀b∈fe ks st.vc,b∈st.vc:=fun b hb=>(tH hb).1
 have hb:∀b∈fz ks st.bx,b∈st.bx:=fun b hb=>EN b hb
 have D5:∀{k u:Nat},bD st.vc k u->bD (fe ks st.vc) k u:=fun{k u} hh=>(xp oS.uniq).2 fun x hx e=>(xp h.heap.uniq).1 hh x (hv x hx) e
 have abn:∀s:SV,kK st.nid st.vc s->kK st.nid (fe ks st.vc) s:=fun s hs=>by
  cases s<;>first |exact hs |exact⟨hs.1,D5 hs.2⟩
 have abl:∀l:List SV,eL st.nid st.vc l->eL st.nid (fe ks st.vc) l:=fun l=>by
  induction l with
  |nil=>exact id
  |cons s r ih=>exact fun hs=>⟨abn s hs.1,ih hs.2⟩
 exact⟨oS,h.wf,h.frm,fun g hg=>h.own g (Cz hb hv g hg),h.baseB,fun b dS=>⟨(h.baseV b dS).1,(h.baseV b dS).2.1,D5 (h.baseV b dS).2.2⟩,
  ⟨fun b dS=>⟨(h.ids.1 b (hb b dS)).1,abl _ (h.ids.1 b (hb b dS)).2⟩,fun b dS=>h.ids.2 b (hv b dS)⟩,h.le0,h.m0,h.mle⟩
theorem L3 {nid:Nat} {vc:List Vc}:∀{bx:List Bx},(∀b∈bx,b.id<nid/\eL nid vc b.cs)->yh nid vc bx
 |[],_=>trivial
 |⟨k,t,cs⟩::r,h=>⟨(h ⟨k,t,cs⟩ (df ..)).1,(h ⟨k,t,cs⟩ (df ..)).2,L3 fun b hb=>h b (cu _ hb)⟩
theorem L1 {nid:Nat}:∀{vc:List Vc},(∀b∈vc,b.id<nid)->yg nid vc
 |[],_=>trivial
 |⟨k,_,_,_,_,_⟩::r,h=>⟨h _ (df ..),L1 fun b hb=>h b (cu _ hb)⟩
theorem SA (hS:Sat C n st a V D w) (hR:RInv ops L st.rho) (nZ:¬L i) (gu:ops[i]? =some o) (hd:lI n o=true) (Aq:pathOf st o.guard=some p) {K:LS->HX->Prop} (h:fQ (.mk (k:=(c,P,o,i,K)) (st,p))):
  ∃(v:Value) (x:SX) (aj:LS),x.h.i=i/\YW P ops (x.cl C) o v a/\x.cl C w/\x.ok C aj V/\aj.nid=st.nid/\aj.vc=st.vc/\K aj x.h/\Sat C n aj (a.put o.dst v) V D w/\RInv ops (fun k=>L k\/k=i) aj.rho:=by
 obtain⟨hp,hw⟩:=EO hS hR Aq;have Oc:∀ks,oN ⟨[],[],fz ks st.bx,fe ks st.vc,st.nid,st.m⟩:=fun ks=>by
  have:=(hS.w.pickW ks).ids;exact⟨trivial,L3 this.1,L1 this.2⟩
 have hB:∀b∈C.H0.bx,b.id<st.nid:=fun b hb=>(hS.w.baseB b hb).2
 have hV:∀b∈C.H0.vc,b.id<st.nid:=fun b hb=>(hS.w.baseV b hb).2.1
 simp only[fQ] at h;unfold DB at h;split at h
 ·rename_i ks q;simp only[A.mk.injEq,Prod.mk.injEq] at q;obtain⟨hq,hdead,hit,_⟩:=q;have hc:=Ci hdead;obtain⟨h1,h2⟩:=GV hS hR nZ gu hd hit hp hc (ns o.op);have bN:=hS.w.pickW [];have e1:fz [] st.bx=[]:=by
   generalize st.bx=l
   induction l with
   |nil=>rfl
   |cons x r ih=>obtain⟨_,_,_⟩:=x;simp only[fz,List.contains_nil,Bool.false_eq_true,if_false];exact ih
  have e2:fe [] st.vc=[]:=by
   generalize st.vc=l
   induction l with
   |nil=>rfl
   |cons x r ih=>obtain⟨_,_,_,_,_,_⟩:=x;simp only[fe,List.contains_nil,Bool.false_eq_true,if_false];exact ih
  rw[e1,e2] at bN;have hh:=Oc [];rw[e1,e2] at hh;refine⟨undef,⟨⟨i,[],[],st.m⟩,st.nid,st.vc,V⟩,_,rfl,.inr ⟨by rw[hw];exact hc,rfl⟩,⟨V,D,Agree.refl _ _ _,bN⟩,⟨Step.same xi.1 xi.2 V,hh,hB,hV,hS.w.m0⟩,xi.1,xi.2,h,h1,h2⟩
 ·rename_i ks q;simp only[A.mk.injEq,Prod.mk.injEq] at q;obtain⟨hq,hdead,hit,hks⟩:=q;obtain⟨s,⟨hs,hK⟩,hdet⟩:=LU _ h;have qn:∀e∈st.env,ix st.nid st.vc e.s:=hS.ids;have D5:∀{k u:Nat},bD st.vc k u->bD (fe ks st.vc) k u:=fun{k u} hh=>
   (xp (hS.w.pickW ks).heap.uniq).2 fun x hx e=>(xp hS.w.heap.uniq).1 hh x (tH hx).1 e
  have Ae:∀{V' :Vl} {D' :Nat->Nat} {w' :World},Agree st.nid st.vc V V' ->SatW C (fz ks st.bx) (fe ks st.vc) st.nid st.m V' D' w' ->
    Sat C n ⟨st.env,st.rho,fz ks st.bx,fe ks st.vc,st.nid,st.m⟩ a V' D' w' :=fun ha hW=>
   ⟨hS.f.agree qn ha,fun e he=>KX (aq _) (fun k u _ hh=>D5 hh) (qn e he),hW⟩
  have cR:∀w',(SX.cl C ⟨⟨i,fz ks st.bx,fe ks st.vc,st.m⟩,st.nid,st.vc,V⟩ w')->bF st.rho p=true->(execOp a.eval o).run P w' = .ok (.value (den V s)) w' :=by
   rintro w' ⟨V',D',ha,hW⟩ hc;obtain⟨s',e,hr⟩:=E4 (Ae ha hW) hp (o:=o) rfl hdet;subst e;rw[hr hc,Cg ha hs]
  refine⟨if bF st.rho p=true then den V s else undef,⟨⟨i,fz ks st.bx,fe ks st.vc,st.m⟩,st.nid,st.vc,V⟩,_,rfl,?_,⟨V,D,Agree.refl _ _ _,hS.w.pickW ks⟩,⟨Step.same xh.1 xh.2 V,Oc ks,hB,hV,hS.w.m0⟩,xh.1,xh.2,hK,At hS hR nZ gu hd hit hp hs rfl (ns o.op)⟩;cases hc:bF st.rho p with
  |true=>exact .inl ⟨by rw[hw];exact hc,fun w' Be=>by simpa using cR w' Be hc⟩
  |false=>exact .inr ⟨by rw[hw];exact hc,by simp⟩
 ·cases h
theorem LX {st:LS}:∀{I:List HX},wz st I->∀x∈I,qG st x.bx/\qF st x.vc/\ak x.m st.m
 |[],_,_,h=>by cases h
 |⟨_,_,_,_⟩::r,h,x,hx=>by
  rcases List.mem_cons.1 hx with rfl |hx
  ·exact⟨h.1,h.2.1,h.2.2.1⟩
  ·exact LX h.2.2.2 x hx
theorem Fi {ow:List Nat}:∀{S:List SX},pv ow (S.map (·.h))=(S.filter fun x=>ik ow x.h.i).map (·.h)
 |[]=>rfl
 |x::r=>by
  obtain⟨⟨i,bx,vc,m⟩,nid,dV,V⟩:=x;simp only[bh,pv,List.filter_cons];split
  ·rw[Fi];rfl
  ·exact Fi
theorem Us {ow:List Nat} {S:List SX}:(S.filter fun x=>ik ow x.h.i).map (·.h.i)=(S.map (·.h.i)).filter (ik ow):=by
 rw[List.filter_map];rfl
theorem MY {st aj:LS} (e:aj.bx=st.bx):∀{l:List Bx},qG st l->qG aj l
 |[],_=>trivial
 |⟨_,_,_⟩::_,h=>⟨by rw[e];exact h.1,h.2.1,MY e h.2.2⟩
theorem MX {st aj:LS} (e:aj.vc=st.vc):∀{l:List Vc},qF st l->qF aj l
 |[],_=>trivial
 |⟨_,_,_,_,_,_⟩::_,h=>⟨by rw[e];exact h.1,h.2.1,MX e h.2.2⟩
theorem SX.still {x:SX} (hx:x.ok C st V) (hS:Sat C n st a V D w) (h1:qG st x.h.bx) (h2:qF st x.h.vc) (h3:ak x.h.m st.m):x.cl C w:=by
 have hF:Sat C n ⟨[],[],st.bx,st.vc,st.nid,st.m⟩ a V D w:=
  ⟨⟨hS.f.defers,hS.f.size,fun e he=>(by cases he),fun t q s _ hl _=>(by cases hl),fun g hg=>(by cases hg)⟩,fun e he=>(by cases he),hS.w⟩
 have hM:Match ⟨[],[],st.bx,st.vc,st.nid,st.m⟩ ⟨[],[],x.h.bx,x.h.vc,x.nid,x.h.m⟩:=by
  refine⟨trivial,rfl,?_,?_,h3⟩
  ·exact MY (st:=st) (aj:=⟨[],[],st.bx,st.vc,st.nid,st.m⟩) rfl h1
  ·exact MX (st:=st) (aj:=⟨[],[],st.bx,st.vc,st.nid,st.m⟩) rfl h2
 exact⟨V,D,hx.step.agr,(hF.weaken hM hx.hd hx.b hx.v hx.m).w⟩
theorem WD (dv:cd c P) {l:List Oper} {K:LS->Prop} {Q:Exit->Act->World->Prop} {listed:Array Bool} {S:List SX} {j f:Nat} {ow:List Nat} {r:Plan} (DG:∀o∈l,lI n o=true)
  (hj:j∈Region.ready .any ⟨l⟩ listed) (hH:(S.map (·.h.i)).all (fun i=>ik ow i||uG ⟨l⟩ l.length j i)=true)
  (h:aF (.mk (k:=fun o:Oper=>aF (.mk (k:=fun p:be=>one (.mk (k:=(c,P,j,o,fun aj=>wz aj (pv ow (S.map (·.h)))/\vT c P l K r (pv ow (S.map (·.h))) aj)) (st,p))) (pathOf st o.guard))) (qH l j)))
  (hS:Sat C n st a V D w) (hR:RInv ⟨l⟩ (fun k=>listed.getD k false=true) st.rho) (hX:∀x∈S,x.ok C st V/\x.cl C w)
  (ih:∀aj a' V' D' w',vT c P l K r ((S.filter fun x=>ik ow x.h.i).map (·.h)) aj->Sat C n aj a' V' D' w' ->RInv ⟨l⟩ (fun k=>(listed.setIfInBounds j true).getD k false=true) aj.rho->
   (∀x∈S.filter (fun x=>ik ow x.h.i),x.ok C aj V' /\x.cl C w')->pY P ⟨l⟩ Q f (fun y=>∃x∈S.filter (fun x=>ik ow x.h.i),y=(x.h.i,x.cl C)) (listed.setIfInBounds j true) a' w'):
  wpOp P ⟨l⟩ Q j (fun a' w' =>(∀y,(∃x∈S,y=(x.h.i,x.cl C))->¬oZ ⟨l⟩ j y.1->y.2 w')/\pY P ⟨l⟩ Q f (fun y=>(∃x∈S,y=(x.h.i,x.cl C))/\¬oZ ⟨l⟩ j y.1) (listed.setIfInBounds j true) a' w') a w:=by
 obtain⟨o,ho,h⟩:=aB h;obtain⟨p,hp,h⟩:=aB h;have uX:l[j]? =some o:=Gc ho;have gu:(⟨l⟩:Array Oper)[j]? =some o:=by simpa using uX
 have yF:=Fz (mem_ready.1 hj).1;have yp:∀x∈S,¬oZ ⟨l⟩ j x.h.i->ik ow x.h.i=true:=fun x hx gv=>by
  have:=List.all_eq_true.1 hH x.h.i (List.mem_map.2 ⟨x,hx,rfl⟩);rcases Bool.or_eq_true_iff.1 this with h |h
  ·exact h
  ·exact absurd ⟨_,h⟩ gv
 unfold wpOp;simp only[gu];refine JX hS dv hR (by rw[yF];exact Bool.false_ne_true) gu (DG o (List.mem_of_getElem? uX)) hp h fun aj a' V' D' w' ⟨O3,hK⟩ fv tz fQ=> ?_
 rw[Fi] at O3 hK;have D9:∀x∈S.filter (fun x=>ik ow x.h.i),x.ok C aj V' /\x.cl C w' :=fun x hx=>by
  have Ba:=(hX x (List.mem_filter.1 hx).1).1;have av:x.ok C aj V' :=⟨Ba.step.trans fQ,Ba.hd,Ba.b,Ba.v,Ba.m⟩;obtain⟨h1,h2,h3⟩:=LX O3 x.h (List.mem_map.2 ⟨x,hx,rfl⟩);exact⟨av,SX.still av fv h1 h2 h3⟩
 refine⟨?_,yV _ _ _ ?_ _ _ _ (ih aj a' V' D' w' hK fv (tz.mono fun k hk=> ?_) D9)⟩
 ·rintro y ⟨x,hx,rfl⟩ gv;exact(D9 x (List.mem_filter.2 ⟨hx,yp x hx gv⟩)).2
 ·rintro y ⟨⟨x,hx,rfl⟩,gv⟩;exact⟨x,List.mem_filter.2 ⟨hx,yp x hx gv⟩,rfl⟩
 ·rcases hk with hk |rfl
  ·exact getD_set_true hk
  ·exact LI (KI hj)
theorem Rb (dv:cd c P) {l:List Oper} {K:LS->Prop} {Q:Exit->Act->World->Prop} (hQ0:∀c a w,¬Q (.panic c) a w) (hQ:∀aj a' w',K aj->jl C n aj a' w' ->Q .normal a' w')
  (DC:Region.noSelect ⟨l⟩=true) (DG:∀o∈l,lI n o=true):
  ∀(pl:Plan) (fuel:Nat) (listed:Array Bool) (rem:Option (List Nat)) (st:LS) (a:Act) (V:Vl) (D:Nat->Nat) (w:World) (S:List SX),
   kN ⟨l⟩ pl fuel (S.map (·.h.i)) listed rem=true->AllClosed ⟨l⟩ listed->vT c P l K pl (S.map (·.h)) st->Sat C n st a V D w->RInv ⟨l⟩ (fun k=>listed.getD k false=true) st.rho->(∀x∈S,x.ok C st V/\x.cl C w)->
   match rem with
   |none=>pY P ⟨l⟩ Q fuel (fun y=>∃x∈S,y=(x.h.i,x.cl C)) listed a w
   |some R=>∀f,fuel=f+1->∀j∈R,wpOp P ⟨l⟩ Q j (fun a' w' =>(∀y,(∃x∈S,y=(x.h.i,x.cl C))->¬oZ ⟨l⟩ j y.1->y.2 w')/\pY P ⟨l⟩ Q f (fun y=>(∃x∈S,y=(x.h.i,x.cl C))/\¬oZ ⟨l⟩ j y.1) (listed.setIfInBounds j true) a' w') a w:=by
 intro pl;induction pl with
 |done=>
  intro fuel listed rem st a V D w S hc bN h hS hR hX;cases rem with
  |some R=>simp [kN] at hc
  |none=>
   simp only[kN,List.isEmpty_iff] at hc;have hq:=hQ _ _ _ h (ED hS);cases fuel with
   |zero=>exact⟨hc,hq⟩
   |succ f=>exact⟨fun _=>hq,by rw[hc];intro j hj;cases hj⟩
 |stop=>
  intro fuel listed rem st a V D w S hc bN h hS hR hX;cases rem with
  |none=>simp [kN] at hc
  |some R=>
   simp only[kN,List.isEmpty_iff] at hc;subst hc;intro f _ j hj;cases hj
 |hoist i r ih=>
  intro fuel listed rem st a V D w S hc bN h hS hR hX;cases rem with
  |some R=>cases fuel<;>simp [kN] at hc
  |none=>
   cases fuel with
   |zero=>simp [kN] at hc
   |succ f=>
    simp only[kN,cO] at hc;obtain⟨⟨Dm,bP⟩,hc⟩:=hc;have bP:i∈Region.ready .any ⟨l⟩ listed:=by simpa using bP
    obtain⟨o,ho,h⟩:=aB h;obtain⟨p,hp,h⟩:=aB h;have uX:l[i]? =some o:=Gc ho;have gu:(⟨l⟩:Array Oper)[i]? =some o:=by simpa using uX
    have yF:=Fz (mem_ready.1 bP).1;obtain⟨v,x,aj,hxi,hy,hclw,av,hn,hv,hK,fv,tz⟩:=SA hS hR (by rw[yF];exact Bool.false_ne_true) gu (DG o (List.mem_of_getElem? uX)) hp h;refine hoist gu (Region.noSelect_spec DC) hQ0 f _ listed a w (Region.free_spec gu Dm) (bN i) bP hy hclw ?_ ?_
    ·rintro y ⟨z,hz,rfl⟩;exact(hX z hz).2
    ·have:=ih f (listed.setIfInBounds i true) none aj (a.put o.dst v) V D w (x::S) (by simp only[bh,hxi];exact hc) (bN.set bP) hK fv (tz.mono fun k hk=>by
      rcases hk with hk |rfl
      ·exact getD_set_true hk
      ·exact LI (KI bP)) (fun z hz=>by
      rcases List.mem_cons.1 hz with rfl |hz
      ·exact⟨av,hclw⟩
      ·obtain⟨h1,h2⟩:=hX z hz
       exact⟨⟨by rw[hn,hv];exact h1.step,h1.hd,h1.b,h1.v,h1.m⟩,h2⟩)
     refine yV _ _ _ ?_ _ _ _ this;rintro y (rfl |⟨z,hz,rfl⟩)
     ·exact⟨x,df ..,by rw[hxi]⟩
     ·exact⟨z,cu _ hz,rfl⟩
 |alt j ow r nx ihr ihn=>
  intro fuel listed rem st a V D w S hc bN h hS hR hX;cases fuel with
  |zero=>cases rem<;>simp [kN] at hc
  |succ f=>
   obtain⟨h,qK⟩:=h;have key:∀(hj:j∈Region.ready .any ⟨l⟩ listed) (hH:(S.map (·.h.i)).all (fun i=>ik ow i||uG ⟨l⟩ l.length j i)=true) (H5:kN ⟨l⟩ r f ((S.map (·.h.i)).filter (ik ow)) (listed.setIfInBounds j true) none=true),
     wpOp P ⟨l⟩ Q j (fun a' w' =>(∀y,(∃x∈S,y=(x.h.i,x.cl C))->¬oZ ⟨l⟩ j y.1->y.2 w')/\pY P ⟨l⟩ Q f (fun y=>(∃x∈S,y=(x.h.i,x.cl C))/\¬oZ ⟨l⟩ j y.1) (listed.setIfInBounds j true) a' w') a w:=by
    intro hj hH H5;refine WD dv DG hj hH h hS hR hX fun aj a' V' D' w' hK fv tz D9=> ?_
    exact ihr f (listed.setIfInBounds j true) none aj a' V' D' w' (S.filter fun x=>ik ow x.h.i) (by rw[Us];exact H5) (bN.set hj) hK fv tz D9
   cases rem with
   |none=>
    simp only[kN,cO] at hc;obtain⟨⟨⟨h1,h2⟩,h3⟩,h4⟩:=hc;have hj:j∈Region.ready .any ⟨l⟩ listed:=by simpa using h1
    have ya:=ihn (f+1) listed (some _) st a V D w S h4 bN qK hS hR hX f rfl;refine⟨fun h0=>(by rw[h0] at hj;cases hj),fun k hk=> ?_⟩;by_cases e:k=j
    ·subst e;exact key hj h2 h3
    ·exact ya k (List.mem_filter.2 ⟨hk,by simpa using e⟩)
   |some R=>
    simp only[kN,cO] at hc;obtain⟨⟨⟨⟨h0,h1⟩,h2⟩,h3⟩,h4⟩:=hc;have hj:j∈Region.ready .any ⟨l⟩ listed:=by simpa using h1
    have ya:=ihn (f+1) listed (some _) st a V D w S h4 bN qK hS hR hX f rfl;rintro f' e k hk;obtain rfl:f=f' :=Nat.succ.inj e;by_cases e:k=j
    ·subst e;exact key hj h2 h3
    ·exact ya k (List.mem_filter.2 ⟨hk,by simpa using e⟩)
theorem cw (pl:Plan) (dv:cd c P) {id:Nat} {l:List Oper} {Q:Exit->LS->Prop} {st:LS} (hm:P.follows .mixedOrders=true)
  (hc:(kN ⟨l⟩ pl l.length [] (Array.replicate l.length false) none&&Region.noSelect ⟨l⟩&&l.all (lI n))=true)
  (h:uK (.mk (k:=(c,P,l,Q .normal,pl,[])) st)):js (.mk (k:=(P,n,.region id ⟨l⟩ true,Q)) st):=by
 simp only[cO] at hc;obtain⟨⟨hc,HN⟩,hd⟩:=hc;rintro C a w ⟨fD,V,D,hS⟩;refine wp_mono (Q:=fun e a' w' =>match e with | .normal=>∃aj,jl C n aj a' w' /\Q .normal aj |_=>False) (wp_region_any hm (I8 _ (fun y=>∃x∈([]:List SX),y=(x.h.i,x.cl C)) _ _ _ ?_)) ?_
 ·refine Rb dv (K:=Q .normal) (fun _ _ _ h=>h) (fun aj a' w' hq hE=>⟨aj,hE,hq⟩) HN (fun o ho=>List.all_eq_true.1 hd o ho) pl l.length (Array.replicate l.length false) none st a V D _ [] hc ?_ h
   ⟨hS.f,hS.ids,hS.w.drew _⟩ ?_ (fun x hx=>by cases hx)
  ·intro i k hk;exfalso;rcases Nat.lt_or_ge k l.length with h' |h'
   ·simp [h'] at hk
   ·simp [Nat.not_lt.2 h'] at hk
  ·rw[fD];intro g hg;cases hg
 ·intro e a' w' hq;cases e with
  |normal=>exact hq
  |_=>exact False.elim hq
end
section
variable {c:Cfg} {P:Program} {l:List Oper} {K:LS->Prop} {I:List HX} {st:LS}
theorem S8:uK (.mk (k:=(c,P,l,K,Plan.done,I)) st)=K (clean st):=rfl
theorem S7:uK (.mk (k:=(c,P,l,K,Plan.stop,I)) st)=True:=rfl
theorem RL {i:Nat} {r:Plan}:uK (.mk (k:=(c,P,l,K,Plan.hoist i r,I)) st)=
  aF (.mk (k:=fun o:Oper=>aF (.mk (k:=fun p:be=>fQ (.mk (k:=(c,P,o,i,fun aj X=>uK (.mk (k:=(c,P,l,K,r,X::I)) aj))) (st,p))) (pathOf st o.guard))) (qH l i)):=rfl
theorem U1 {j:Nat} {ow:List Nat} {r nx:Plan}:uK (.mk (k:=(c,P,l,K,Plan.alt j ow r nx,I)) st)=
  (aF (.mk (k:=fun o:Oper=>aF (.mk (k:=fun p:be=>one (.mk (k:=(c,P,j,o,fun aj=>wz aj (pv ow I)/\uK (.mk (k:=(c,P,l,K,r,pv ow I)) aj))) (st,p))) (pathOf st o.guard))) (qH l j))/\
   uK (.mk (k:=(c,P,l,K,nx,I)) st)):=rfl
end
theorem Xd {x:ByteArray}:(Value.string x).oneCell' =true:=rfl
theorem Xf {k:IntKind} {x:Int}:(Value.int k x).oneCell' =true:=rfl
theorem Vx {x:Bool}:(Value.bool x).oneCell' =true:=rfl
theorem Xe {x:Option Addr}:(Value.pointer x).oneCell' =true:=rfl
theorem Yo {x:Option Addr} {n c:Nat}:(Value.slice x n c).oneCell' =true:=rfl
attribute [go_sem] Xd Xf Vx Xe Yo
attribute [go_sem] fQ.eq_1 DB.eq_1 DB.eq_2 vM.eq_1 vM.eq_2 vM.rdIds1.eq_1 vM.rdIds1.eq_2 kU.eq_1 kU.eq_2 kU.eq_3 kU.eq_4 kU.eq_5 kU.eq_6 kU.eq_7 kU.eq_8 kU.eq_9 kU.eq_10 kU.eq_11 kU.eq_12 kU.eq_13 kU.eq_14 kU.eq_15 kU.eq_16 S8 S7 RL U1 qH.eq_1 qH.eq_2 qH.eq_3 pv.eq_1 pv.eq_2 wz.eq_1 wz.eq_2
theorem least {J:Nat->Prop}:∀n,J n->∃k,J k/\∀j,j<k->¬J j:=by
 intro n;induction n using Nat.strongRecOn with
 |_ n ih=>
  intro h;by_cases hj:∃j,j<n/\J j
  ·obtain⟨j,ao,hJ⟩:=hj;exact ih j ao hJ
  ·exact⟨n,h,fun j ao hJ=>hj ⟨j,ao,hJ⟩⟩
section
variable {P:Program} {a:Act} {w:World} {Q:Exit->Act->World->Prop}
theorem PK {c rest:Code} (l:Nat) (J:Nat->Act->World->Prop) (hf:findLabel c l=some rest) (first:c.wp P (Exit.jump l (fun a' w' =>∃k,J k a' w') Q) a w)
  (pass:∀k a w,J k a w->rest.wp P (Exit.jump l (fun a' w' =>∃k',k' <k/\J k' a' w') Q) a w):(Code.scope c).wp P Q a w:=by
 classical
 refine wp_scope_jumps l (fun a w=>∃k,J k a w) (fun a w=>if h:∃k,J k a w/\∀j,j<k->¬J j a w then Classical.choose h else 0) hf first ?_
 rintro a w ⟨k0,h0⟩;have hex:∃k,J k a w/\∀j,j<k->¬J j a w:=least k0 h0;obtain⟨h1,h2⟩:=Classical.choose_spec hex;refine wp_mono (pass _ a w h1) ?_;intro e a' w' hq;cases e with
 |goto l' =>
  obtain⟨rfl,k',ao,hk⟩:=hq;refine⟨rfl,⟨k',hk⟩,?_⟩;have we:∃k,J k a' w' /\∀j,j<k->¬J j a' w' :=least k' hk;simp only[dif_pos hex,dif_pos we];rcases Nat.lt_or_ge (Classical.choose we) (Classical.choose hex) with h |h
  ·exact h
  ·exact absurd hk ((Classical.choose_spec we).2 k' (dM ao h))
 |_=>exact hq
end
section
variable {P:Program} {n:Nat} {c:Cfg} {st:LS}
theorem UQ (dv:cd c P) {body rest:Code} {l:Nat} {Q:Exit->LS->Prop} {X:Type} (S:X->LS) (I:X->Prop) (μ:X->Nat) (hf:findLabel body l=some rest)
  (qP:ib n rest=true) (hn:∀x,I x->st.nid<=(S x).nid) (hm:∀x,I x->ak st.m (S x).m) (av:∀x,oN (S x))
  (first:WP P n body (Am l (fun aj=>∃x',Match aj (S x')/\I x') Q) st)
  (pass:∀x,I x->dq (.mk (k:=(c,P,n,rest,Am l (fun aj=>∃x',Match aj (S x')/\I x' /\μ x' <μ x) Q)) (S x))):js (.mk (k:=(P,n,.scope body,Q)) st):=by
 rintro C a w ⟨fD,V,D,hS⟩;have hB:∀b∈C.H0.bx,b.id<st.nid:=fun b hb=>(hS.w.baseB b hb).2
 have hV:∀b∈C.H0.vc,b.id<st.nid:=fun b hb=>(hS.w.baseV b hb).2.1
 have Bl:∀x,I x->C.m0.le (S x).m:=fun x hx=>by
  rcases hm x hx with e |h
  ·rw[<- e];exact hS.w.m0
  ·exact Mem.le_trans hS.w.m0 h
 have ur:∀(kJ:LS) (a1:Act) (w1:World) (x:X),jl C n kJ a1 w1->Match kJ (S x)->I x->jl C n (S x) a1 w1:=by
  rintro kJ a1 w1 x ⟨_,V1,D1,hS1⟩ hM hx;exact⟨hM.2.1,V1,D1,hS1.weaken hM (av x) (fun b hb=>dM (hB b hb) (hn x hx)) (fun b hb=>dM (hV b hb) (hn x hx)) (Bl x hx)⟩
 refine PK l (fun k a w=>∃x,I x/\μ x=k/\jl C n (S x) a w) hf ?_ ?_
 ·refine wp_mono (first C a w ⟨fD,V,D,hS⟩) ?_;rintro e a2 w2 ⟨bC,bz,hq⟩;cases e with
  |goto l' =>
   obtain⟨rfl,x',hM,bR⟩:=hq;exact⟨rfl,μ x',x',bR,rfl,ur _ _ _ _ bz hM bR⟩
  |normal=>exact⟨bC,bz,hq⟩
  |exit id=>exact⟨bC,bz,hq⟩
  |ret=>exact⟨bC,bz,hq⟩
  |panic ch=>exact⟨bC,bz,hq⟩
  |outgrown=>exact⟨bC,bz,hq⟩
 ·rintro k a1 w1 ⟨x,hx,rfl,hE⟩;refine wp_mono (pQ dv qP (pass x hx) C a1 w1 hE) ?_;rintro e a2 w2 ⟨bC,bz,hq⟩;cases e with
  |goto l' =>
   obtain⟨rfl,x',hM,bR,ao⟩:=hq;exact⟨rfl,μ x',ao,x',bR,rfl,ur _ _ _ _ bz hM bR⟩
  |normal=>exact⟨bC,bz,hq⟩
  |exit id=>exact⟨bC,bz,hq⟩
  |ret=>exact⟨bC,bz,hq⟩
  |panic ch=>exact⟨bC,bz,hq⟩
  |outgrown=>exact⟨bC,bz,hq⟩
def Hz (Q:Exit->LS->Prop):Exit->LS->Prop
 | .goto _,_=>False
 |e,st=>Q e st
theorem S1 (dv:cd c P) {body:Code} {Q:Exit->LS->Prop} (hd:ib n body=true) (h:dq (.mk (k:=(c,P,n,body,Hz Q)) st)):js (.mk (k:=(P,n,.scope body,Q)) st):=by
 intro C a w hE;refine wp_scope_straight (wp_mono (pQ dv hd h C a w hE) ?_);rintro e a2 w2 ⟨bC,bz,hq⟩;cases e with
 |goto l=>exact hq.elim
 |normal=>exact⟨bC,bz,hq⟩
 |exit id=>exact⟨bC,bz,hq⟩
 |ret=>exact⟨bC,bz,hq⟩
 |panic ch=>exact⟨bC,bz,hq⟩
 |outgrown=>exact⟨bC,bz,hq⟩
theorem S0 (dv:cd c P) {rest:Code} {l:Nat} {Q:Exit->LS->Prop} {X:Type} (S:X->LS) (I:X->Prop) (μ:X->Nat) (x0:X)
  (hd:ib n rest=true) (hn:∀x,I x->st.nid<=(S x).nid) (hm:∀x,I x->ak st.m (S x).m) (av:∀x,oN (S x)) (h0:Match st (S x0)) (hI:I x0)
  (pass:∀x,I x->dq (.mk (k:=(c,P,n,rest,Am l (fun aj=>∃x',Match aj (S x')/\I x' /\μ x' <μ x) Q)) (S x))):js (.mk (k:=(P,n,.scope (.seq (.label l) rest),Q)) st):=by
 have Bp:ib n (.seq .skip rest)=true:=by simp only[ib,Bool.true_and];exact hd
 have u7:ib n (.seq (.label l) rest)=true:=by simp only[ib,Bool.true_and];exact hd
 refine UQ dv S I μ (rest:= .seq .skip rest) (by simp [findLabel]) Bp hn hm av ?_ pass;rintro C a w ⟨fD,V,D,hS⟩
 have hE:jl C n (S x0) a w:=⟨h0.2.1,V,D,hS.weaken h0 (av x0) (fun b hb=>dM (hS.w.baseB b hb).2 (hn x0 hI)) (fun b hb=>dM (hS.w.baseV b hb).2.1 (hn x0 hI)) (by
  rcases hm x0 hI with e |h
  ·rw[<- e];exact hS.w.m0
  ·exact Mem.le_trans hS.w.m0 h)⟩
 have hw:WP P n (.seq (.label l) rest) _ (S x0):=pQ dv u7 (pass x0 hI);refine(WP.mono hw ?_) C a w hE;intro e aj hq;cases e with
 |goto l' =>
  obtain⟨rfl,x',hM,bR,_⟩:=hq;exact⟨rfl,x',hM,bR⟩
 |_=>exact hq
theorem UR (dv:cd c P) {id:Nat} {body:Code} {K:LS->Prop} {Q:Exit->LS->Prop} {X Y:Type} (S:X->LS) (I:X->Prop) (μ:X->Nat) (x0:X) (E:Y->LS) (J:Y->Prop)
  (hd:ib n body=true) (hn:∀x,I x->st.nid<=(S x).nid) (hm:∀x,I x->ak st.m (S x).m) (av:∀x,oN (S x)) (h0:Match st (S x0)) (hI:I x0)
  (O4:∀y,J y->st.nid<=(E y).nid) (hmE:∀y,J y->ak st.m (E y).m) (abm:∀y,oN (E y)) (out:∀y,J y->K (E y))
  (round:∀x,I x->dq (.mk (k:=(c,P,n,body,jf (fun aj=>∃x',Match aj (S x')/\I x' /\μ x' <μ x) (pf id (jf (fun aj=>∃y,Match aj (E y)/\J y) Q)))) (S x))):
  js (.mk (k:=(P,n,.loop body,pf id (jf K Q))) st):=by
 have hW:WP P n (.loop body) (pf id (jf (fun aj=>∃y,Match aj (E y)/\J y) Q)) st:=fy dv S I μ x0 hd hn hm av h0 hI round;rintro C a w ⟨fD,V,D,hS⟩;have hK:∀bC a2 w2,jl C n bC a2 w2->(∃y,Match bC (E y)/\J y)->∃aj,jl C n aj a2 w2/\K aj:=by
  rintro bC a2 w2 ⟨_,V2,D2,hS2⟩ ⟨y,hM,hy⟩;refine⟨E y,⟨hM.2.1,V2,D2,hS2.weaken hM (abm y) (fun b hb=>dM (hS.w.baseB b hb).2 (O4 y hy)) (fun b hb=>dM (hS.w.baseV b hb).2.1 (O4 y hy)) ?_⟩,out y hy⟩;rcases hmE y hy with e |h
  ·rw[<- e];exact hS.w.m0
  ·exact Mem.le_trans hS.w.m0 h
 refine wp_mono (hW C a w ⟨fD,V,D,hS⟩) ?_;rintro e a2 w2 ⟨bC,bz,hq⟩;cases e with
 |normal=>
  obtain⟨DP,h1,h2⟩:=hK bC a2 w2 bz hq;exact⟨DP,h1,h2⟩
 |exit id' =>
  simp only[pf] at hq;split at hq
  ·rename_i e;obtain⟨DP,h1,h2⟩:=hK bC a2 w2 bz hq;exact⟨DP,h1,by simp only[pf];rw[ah e];exact h2⟩
  ·rename_i e;exact⟨bC,bz,by simp only[pf];rw[ae e];exact hq⟩
 |goto l=>exact⟨bC,bz,hq⟩
 |ret=>exact⟨bC,bz,hq⟩
 |panic ch=>exact⟨bC,bz,hq⟩
 |outgrown=>exact⟨bC,bz,hq⟩
theorem qV {x:Code} {Q:Exit->LS->Prop} (t:Nat) (e:TypeId) (sz:Nat) (h0:0<sz) (hl:fj st.env t []=some (.v (.slice none 0 0)))
  (h:js (.mk (k:=(P,n,x,Q)) ⟨⟨t,[],.vec st.nid 0⟩::st.env,st.rho,st.bx,⟨st.nid,0,e,sz,0,[]⟩::st.vc,st.nid+1,st.m⟩)):js (.mk (k:=(P,n,x,Q)) st):=by
 rintro C a w ⟨fD,V,D,hS⟩;obtain⟨V',ha,hγ,hW⟩:=hS.w.addVc (w' :=w) (hd:=⟨none,0,0⟩) (e:=e) (sz:=sz) (n:=0) (xs:=[]) rfl rfl rfl (aq _) (fun _ _=>rfl) (World.ownsRow_nil w 0 e sz) (fun g hg=>by cases hg) h0 (fun u hu=>by cases hu);have fv:Sat C n _ a V' D w:=hS.to ha (Nat.le_succ _) (fun k u hk hv=>rU rfl k u hk hv) hW;refine h C a w ⟨fD,V',D,⟨fv.f.defers,fv.f.size,fun e' qO=> ?_,fun t' q s' hq mU hc=> ?_,fv.f.rho⟩,fun e' qO=> ?_,hW⟩
 ·rcases List.mem_cons.1 qO with rfl |qO
  ·exact pV
  ·exact fv.f.pth e' qO
 ·simp only[fj] at mU;split at mU
  ·rename_i ht;subst ht;split at mU
   ·cases mU;have:=hS.f.env t [] _ pV hl rfl;rw[this];show some (Value.slice none 0 0)=some (Hd.val (V'.γ st.nid 0));rw[hγ];rfl
   ·cases mU
  ·exact fv.f.env t' q s' hq mU hc
 ·rcases List.mem_cons.1 qO with rfl |qO
  ·exact⟨Nat.lt_succ_self _,by simp [bD]⟩
  ·exact fv.ids e' qO
end
attribute [go_sem] Hz.eq_1 Hz.eq_2
end Go.Proofs.YtimddhkipjedcaaGreatDoor.E
namespace Go.Proofs
open Go.Shelf
def Tryz.lays137_ren:Go.Shelf.Ren:=⟨fun |137=>183 |217=>222 |266=>244 |n=>n,fun |9=>9 |5=>5 |3=>3 |n=>n,fun |n=>n⟩
theorem Tryz.lays137:Go.Proofs.Lays.n137 Tryz.prog Tryz.lays137_ren:={
 mixed:=by kernel_rfl
 f137:=Tryz.func183.trans (congrArg some (by kernel_rfl))
 f217:=Tryz.func222.trans (congrArg some (by kernel_rfl))
 f266:=Tryz.func244.trans (congrArg some (by kernel_rfl))
 t3:=Tryz.underlying3
 a3:=Tryz.isAgg3
 z3:=Tryz.sizeOf3
 v3:=Tryz.zeroValue3
 t5:=Tryz.underlying5
 a5:=Tryz.isAgg5
 z5:=Tryz.sizeOf5
 v5:=Tryz.zeroValue5
 t9:=Tryz.underlying9
 a9:=Tryz.isAgg9
 z9:=Tryz.sizeOf9
 v9:=Tryz.zeroValue9}
open Go.RowKit in
theorem Tryz.strings_IndexByte (s:ByteArray) (c:Int) (w:World):
  Calls Tryz.prog 183 #[.string s,.int .u8 c] w fun e w' =>e= .returned (.int .i64 (Lib.indexByte s.data.toList c.toNat.toUInt8))/\w' =w:=Any.strings_IndexByte Tryz.lays137 s c w
def Tryz.lays155_ren:Go.Shelf.Ren:=⟨fun |155=>224 |154=>245 |138=>254 |165=>255 |143=>248 |166=>256 |197=>257 |169=>258 |195=>267 |218=>268 |240=>269 |241=>270 |219=>264 |260=>271 |276=>280 |277=>281 |217=>222 |225=>277 |224=>278 |267=>279 |266=>244 |314=>283 |n=>n,fun |9=>9 |3=>3 |4=>4 |72=>210 |0=>0 |76=>212 |105=>214 |21=>21 |5=>5 |70=>208 |20=>20 |37=>83 |75=>195 |127=>225 |164=>230 |46=>220 |119=>233 |139=>236 |138=>235 |146=>241 |51=>240 |80=>85 |n=>n,fun |1=>1 |3=>4 |4=>5 |n=>n⟩
theorem Tryz.lays155:Go.Proofs.Lays.n155 Tryz.prog Tryz.lays155_ren:={
 mixed:=by kernel_rfl
 f138:=Tryz.func254.trans (congrArg some (by kernel_rfl))
 f143:=Tryz.func248.trans (congrArg some (by kernel_rfl))
 f154:=Tryz.func245.trans (congrArg some (by kernel_rfl))
 f155:=Tryz.func224.trans (congrArg some (by kernel_rfl))
 f165:=Tryz.func255.trans (congrArg some (by kernel_rfl))
 f166:=Tryz.func256.trans (congrArg some (by kernel_rfl))
 f169:=Tryz.func258.trans (congrArg some (by kernel_rfl))
 f195:=Tryz.func267.trans (congrArg some (by kernel_rfl))
 f197:=Tryz.func257.trans (congrArg some (by kernel_rfl))
 f217:=Tryz.func222.trans (congrArg some (by kernel_rfl))
 f218:=Tryz.func268.trans (congrArg some (by kernel_rfl))
 f219:=Tryz.func264.trans (congrArg some (by kernel_rfl))
 f224:=Tryz.func278.trans (congrArg some (by kernel_rfl))
 f225:=Tryz.func277.trans (congrArg some (by kernel_rfl))
 f240:=Tryz.func269.trans (congrArg some (by kernel_rfl))
 f241:=Tryz.func270.trans (congrArg some (by kernel_rfl))
 f260:=Tryz.func271.trans (congrArg some (by kernel_rfl))
 f266:=Tryz.func244.trans (congrArg some (by kernel_rfl))
 f267:=Tryz.func279.trans (congrArg some (by kernel_rfl))
 f276:=Tryz.func280.trans (congrArg some (by kernel_rfl))
 f277:=Tryz.func281.trans (congrArg some (by kernel_rfl))
 f314:=Tryz.func283.trans (congrArg some (by kernel_rfl))
 t0:=Tryz.underlying0
 a0:=Tryz.isAgg0
 z0:=Tryz.sizeOf0
 v0:=Tryz.zeroValue0
 t3:=Tryz.underlying3
 a3:=Tryz.isAgg3
 z3:=Tryz.sizeOf3
 v3:=Tryz.zeroValue3
 t4:=Tryz.underlying4
 a4:=Tryz.isAgg4
 z4:=Tryz.sizeOf4
 v4:=Tryz.zeroValue4
 t5:=Tryz.underlying5
 a5:=Tryz.isAgg5
 z5:=Tryz.sizeOf5
 v5:=Tryz.zeroValue5
 t9:=Tryz.underlying9
 a9:=Tryz.isAgg9
 z9:=Tryz.sizeOf9
 v9:=Tryz.zeroValue9
 t20:=Tryz.underlying20
 a20:=Tryz.isAgg20
 z20:=Tryz.sizeOf20
 v20:=Tryz.zeroValue20
 t21:=Tryz.underlying21
 a21:=Tryz.isAgg21
 z21:=Tryz.sizeOf21
 v21:=Tryz.zeroValue21
 t37:=Tryz.underlying83
 a37:=Tryz.isAgg83
 z37:=Tryz.sizeOf83
 v37:=Tryz.zeroValue83
 t46:=Tryz.underlying220
 a46:=Tryz.isAgg220
 z46:=Tryz.sizeOf220
 v46:=Tryz.zeroValue220
 t51:=Tryz.underlying240
 a51:=Tryz.isAgg240
 z51:=Tryz.sizeOf240
 v51:=Tryz.zeroValue240
 t70:=Tryz.underlying208
 a70:=Tryz.isAgg208
 z70:=Tryz.sizeOf208
 v70:=Tryz.zeroValue208
 t72:=Tryz.underlying210
 a72:=Tryz.isAgg210
 z72:=Tryz.sizeOf210
 v72:=Tryz.zeroValue210
 t75:=Tryz.underlying195
 a75:=Tryz.isAgg195
 z75:=Tryz.sizeOf195
 v75:=Tryz.zeroValue195
 t76:=Tryz.underlying212
 a76:=Tryz.isAgg212
 z76:=Tryz.sizeOf212
 v76:=Tryz.zeroValue212
 t105:=Tryz.underlying214
 a105:=Tryz.isAgg214
 z105:=Tryz.sizeOf214
 v105:=Tryz.zeroValue214
 t119:=Tryz.underlying233
 a119:=Tryz.isAgg233
 z119:=Tryz.sizeOf233
 t127:=Tryz.underlying225
 a127:=Tryz.isAgg225
 z127:=Tryz.sizeOf225
 v127:=Tryz.zeroValue225
 t138:=Tryz.underlying235
 a138:=Tryz.isAgg235
 z138:=Tryz.sizeOf235
 v138:=Tryz.zeroValue235
 t139:=Tryz.underlying236
 a139:=Tryz.isAgg236
 z139:=Tryz.sizeOf236
 v139:=Tryz.zeroValue236
 t146:=Tryz.underlying241
 a146:=Tryz.isAgg241
 z146:=Tryz.sizeOf241
 v146:=Tryz.zeroValue241
 t164:=Tryz.underlying230
 a164:=Tryz.isAgg230
 z164:=Tryz.sizeOf230
 v164:=Tryz.zeroValue230
 g1:=by kernel_rfl
 g3:=by kernel_rfl
 g4:=by kernel_rfl}
theorem Tryz.Builder_Extra_155:Builder.Extra Tryz.prog Tryz.lays155_ren:={
 sizeBuilder:=by kernel_rfl
 liesBuilder:=by kernel_rfl
 t5:=Tryz.underlying5
 a5:=Tryz.isAgg5
 z5:=Tryz.sizeOf5
 v5:=Tryz.zeroValue5
 infoByte:=by kernel_rfl
 cellsByte:=by kernel_rfl
 sizeByte:=by kernel_rfl
 neB5:=by decide}
open Go.RowKit Go.Lib in
theorem Tryz.strings_ReplaceAll (s dR new:ByteArray) (m:Int) (w:World) (hs:s.size<4294967281) (hm:w.cell? ⟨1,0,none⟩=some (.int .i64 m)) (h1:1<=dR.size) (hlen:s.size+Lib.countB s dR * new.size<=140737488355328):
  Calls Tryz.prog 224 #[.string s,.string dR,.string new] w fun e w' =>
   e= .returned (.string ⟨(Lib.replaceAll s.data.toList dR.data.toList new.data.toList).toArray⟩)/\Below w.heap.size w w' :=Any.strings_ReplaceAll Tryz.lays155 Tryz.Builder_Extra_155 s dR new m w hs hm h1 hlen
def Tryz.lays144_ren:Go.Shelf.Ren:=⟨fun |144=>228 |143=>248 |219=>264 |217=>222 |225=>277 |224=>278 |267=>279 |266=>244 |314=>283 |n=>n,fun |9=>9 |4=>4 |3=>3 |5=>5 |46=>220 |146=>241 |51=>240 |n=>n,fun |1=>1 |n=>n⟩
theorem Tryz.lays144:Go.Proofs.Lays.n144 Tryz.prog Tryz.lays144_ren:={
 mixed:=by kernel_rfl
 f143:=Tryz.func248.trans (congrArg some (by kernel_rfl))
 f144:=Tryz.func228.trans (congrArg some (by kernel_rfl))
 f217:=Tryz.func222.trans (congrArg some (by kernel_rfl))
 f219:=Tryz.func264.trans (congrArg some (by kernel_rfl))
 f224:=Tryz.func278.trans (congrArg some (by kernel_rfl))
 f225:=Tryz.func277.trans (congrArg some (by kernel_rfl))
 f266:=Tryz.func244.trans (congrArg some (by kernel_rfl))
 f267:=Tryz.func279.trans (congrArg some (by kernel_rfl))
 f314:=Tryz.func283.trans (congrArg some (by kernel_rfl))
 t3:=Tryz.underlying3
 a3:=Tryz.isAgg3
 z3:=Tryz.sizeOf3
 v3:=Tryz.zeroValue3
 t4:=Tryz.underlying4
 a4:=Tryz.isAgg4
 z4:=Tryz.sizeOf4
 v4:=Tryz.zeroValue4
 t5:=Tryz.underlying5
 a5:=Tryz.isAgg5
 z5:=Tryz.sizeOf5
 v5:=Tryz.zeroValue5
 t9:=Tryz.underlying9
 a9:=Tryz.isAgg9
 z9:=Tryz.sizeOf9
 v9:=Tryz.zeroValue9
 t46:=Tryz.underlying220
 a46:=Tryz.isAgg220
 z46:=Tryz.sizeOf220
 v46:=Tryz.zeroValue220
 t51:=Tryz.underlying240
 a51:=Tryz.isAgg240
 z51:=Tryz.sizeOf240
 v51:=Tryz.zeroValue240
 t146:=Tryz.underlying241
 a146:=Tryz.isAgg241
 z146:=Tryz.sizeOf241
 v146:=Tryz.zeroValue241
 g1:=by kernel_rfl}
theorem Tryz.strings_Contains_one (s:ByteArray) (c:UInt8) (w:World):
  Calls Tryz.prog 228 #[.string s,.string ⟨#[c]⟩] w fun e w' =>e= .returned (.bool (decide (0<=Lib.indexByte s.data.toList c)))/\w' =w:=Any.strings_Contains_one Tryz.lays144 s c w
end Go.Proofs
namespace Go.Proofs.YtimddhkipjedcaaGreatDoor.E
open Go Go.RowKit
attribute [go_sem] or_true or_false true_or false_or de exists_eq_left exists_eq_left' true_implies true_and and_true Bool.and_true Bool.true_and Bool.or_false Bool.false_or Bool.not_true Bool.not_false Bool.and_false Bool.false_and jt List.nil_append List.append_nil K8 xS List.getElem?_cons_zero List.getElem?_cons_succ eq_self implies_true false_implies gA decide_eq_false_iff_not cO Bool.or_eq_true Bool.not_eq_true' Bool.and_eq_false_iff Bool.or_eq_false_iff Bool.not_eq_false' SV.v.injEq Value.int.injEq Value.bool.injEq Value.string.injEq List.contains_cons List.contains_nil beq_self_eq_true Nat.max_def Int.toNat_natCast Nat.mul_one Int.toNat_zero List.drop_zero Bx.mk.injEq Vc.mk.injEq List.cons.injEq List.take_length List.getElem?_nil List.getD_cons_zero List.getD_cons_succ not_false_eq_true aq Nat.reduceBEq Nat.reduceAdd Nat.reduceMul Nat.reduceSub Nat.reduceEqDiff Nat.reduceLT Nat.reduceLeDiff Option.map Option.bind List.map List.length reduceCtorEq Option.toList Option.getD List.set List.drop List.take Int.reduceToNat
def cf0:Cfg:=⟨fun _=>false,fun _=>none⟩
theorem mQ {P:Program}:cd cf0 P:=fun f F h=>by cases h
def cM (c:Int):Bool:=decide (97<=c)&&decide (c<=122)||decide (65<=c)&&decide (c<=90)||decide (c=95)||decide (c=36)
def dk (c:Int):Bool:=decide (48<=c)&&decide (c<=57)
def lv (F:Int->Bool):List Value->Option (Prop×Value)
 |[.int .u8 c]=>some (True,.bool (F c))
 |_=>none
theorem FH {F:Int->Bool} {l:List Value} {y:Prop×Value} (h:lv F l=some y):∃c,l=[.int .u8 c]/\y=(True,.bool (F c)):=by
 unfold lv at h;split at h
 ·cases h;exact⟨_,rfl,rfl⟩
 ·cases h
theorem ab6:dY Tryz.prog 9=some none:=by kernel_rfl
theorem ab9:dY Tryz.prog 3=some none:=by kernel_rfl
theorem ZO:Tryz.prog.underlying 9=some .string:=by kernel_rfl
attribute [go_sem] ab6 ab9 ZO lv.eq_1
theorem YY:gV Tryz.prog 55=some 9:=by kernel_rfl
theorem sz9:bf Tryz.prog 9=1:=by kernel_rfl
theorem by9:mY Tryz.prog 9=16:=by kernel_rfl
theorem X6:eV Tryz.prog 9=some [.v (.string (bs []))]:=by kernel_rfl
theorem sz3:bf Tryz.prog 3=1:=by kernel_rfl
attribute [go_sem] YY sz9 by9 X6 sz3
abbrev gp:Cfg:=fh (fun _=>false) []
theorem aw:cd gp Tryz.prog:=pure_nil
def strs (l:List (List UInt8)):List Value:=l.map fun b=> .string (bs b)
theorem CU {m:Mem} {a:Option Addr} {n:Nat} {xs:List Value} (h:aM m a n 1 xs) {i:Nat} (hi:i<n):∃hx:i<xs.length,Rd m (cI a i) [xs[i]]/\a≠none:=by
 have hl:xs.length=n:=by rw[h.1,Nat.mul_one]
 refine⟨by omega,?_,?_⟩
 ·obtain⟨ad,rfl,hs,hc⟩:=h.2 (by omega);obtain⟨e1,e2,e3⟩:=oc ad i hs;refine⟨ad.add i,rfl,e3,fun j hj=> ?_⟩;obtain rfl:j=0:=by simp at hj;omega
  obtain⟨h1,h2⟩:=hc i (by omega);refine⟨?_,by rw[e1,e2];exact h2⟩;rw[show(ad.add i).add 0=ad.add i from rfl,h1];simp [hl,hi]
 ·obtain⟨ad,rfl,_⟩:=h.2 (by omega);simp
theorem Kx {l:List (List UInt8)} {s:List UInt8} {k:Nat} (h:k<l.length):(l.take (k+1)).contains s=((l.take k).contains s||decide (s=l[k])):=by
 rw[List.take_succ_eq_append_getElem h,Bool.eq_iff_iff];simp only[List.contains_iff_mem,List.mem_append,List.mem_singleton,Bool.or_eq_true,gA]
theorem index_spec (l:List (List UInt8)) (s:List UInt8) (a:Option Addr) (n c:Nat) (m:Mem) (h:aM m a n 1 (strs l)) (hn:n<=4611686018427387904):
  FnH Tryz.prog 202 [.v (.slice a n c),.v (.string (bs s))] ⟨[],[]⟩ m fun r H' _=>(∃i:Int,r= .v (.int .i64 i)/\(decide (0<=i)=l.contains s))/\H' =⟨[],[]⟩:=by
 have hl:l.length=n:=by have:=h.1;simpa [strs] using this
 refine aH mQ Tryz.func202 ?_
 ·simp only[go_sem];refine cK mQ (fun k:Nat=>⟨[⟨0,[],.v (.slice a n c)⟩,⟨1,[],.v (.string (bs s))⟩,⟨7,[],.v (.int .i64 n)⟩,⟨8,[],.v (.int .i64 k)⟩],[],[],[],0,m⟩)
   (fun k=>k<=n/\(l.take k).contains s=false) (fun k=>n - k) 0 (fun _ _=>aq _) (fun _ _=> .inl rfl) ?_ ?_ ?_
  ·simp only[go_sem];rfl
  ·simp
  ·rintro k ⟨hk,hp⟩;simp only[go_sem];refine⟨fun ao=> ?_,fun cA=> ?_⟩
   ·have HT:k<n:=by omega
    obtain⟨hx,hr,cY⟩:=CU h HT;refine⟨⟨by omega,ao,cY⟩,_,by simpa using hr,?_⟩;have bV:k<l.length:=by omega
    have e:(strs l)[k]= .string (bs l[k]):=by simp [strs]
    have ec:=Kx (s:=s) bV;simp only[e];simp only[go_sem];refine⟨fun he=> ?_,fun he=>⟨by unfold ax;omega,k+1,by omega,⟨by omega,?_⟩,by omega⟩⟩
    ·have:s∈l:=by rw[he];exact List.getElem_mem bV
     simp [this]
    ·rw[ec,hp];simp [he]
   ·have:l.take k=l:=fH (by omega);rw[this] at hp;rw[hp];rfl
theorem xb (l:List (List UInt8)) (s:List UInt8) (a:Option Addr) (n c:Nat) (m:Mem) (h:aM m a n 1 (strs l)) (hn:n<=4611686018427387904):
  FnH Tryz.prog 144 [.v (.slice a n c),.v (.string (bs s))] ⟨[],[]⟩ m fun r H' _=>r= .v (.bool (l.contains s))/\H' =⟨[],[]⟩:=by
 refine aH aw Tryz.func144 ?_
 ·simp only[go_sem];refine ab ((index_spec l s a n c m h hn).mono ?_);rintro r H' m' hm ⟨⟨i,rfl,hi⟩,rfl⟩;simp only[go_sem];exact hi
def fb:List (List UInt8):=[[97,98,115,116,114,97,99,116],[97,115],[99,97,116,99,104],[99,108,97,115,115],[101,108,115,101],[101,120,116,101,110,100,115],[102,105,110,97,108],[105,102],[105,109,112,108,101,109,101,110,116,115],[105,110,116],[105,110,116,101,114,102,97,99,101],[105,115],[108,101,110],[108,111,110,103],[110,101,119],[110,117,108,108],[112,114,105,118,97,116,101],[112,114,111,116,101,99,116,101,100],[112,117,98,108,105,99],[114,101,116,117,114,110],[115,116,97,116,105,99],[115,117,112,101,114],[115,121,110,99],[116,104,105,115],[116,104,114,111,119],[116,114,121],[118,111,105,100],[119,104,105,108,101]]
def eQ:List (List UInt8):=[[62,62,62],[60,60],[62,62],[61,61],[33,61],[60,61],[62,61],[38,38],[124,124],[123],[125],[40],[41],[91],[93],[59],[44],[46],[61],[43],[45],[42],[47],[37],[38],[124],[94],[33],[60],[62]]
theorem Ek (m:Mem):FnH Tryz.prog 209 [] ⟨[],[]⟩ m fun r H' m' =>r= .vec 0 0/\H' =⟨[],[⟨0,0,9,1,28,strs fb⟩]⟩/\m' =m:=by
 refine aH aw Tryz.func209 ?_
 ·simp only[go_sem];rfl
theorem PN (m:Mem):FnH Tryz.prog 227 [] ⟨[],[]⟩ m fun r H' m' =>r= .vec 0 0/\H' =⟨[],[⟨0,0,9,1,30,strs eQ⟩]⟩/\m' =m:=by
 refine aH aw Tryz.func227 ?_
 ·simp only[go_sem];rfl
def eB (B:List UInt8->Prop) (F:List UInt8->Value):List Value->Option (Prop×Value)
 |[.string a]=>some (B (tl a),F (tl a))
 |_=>none
attribute [go_sem] eB.eq_1
def nJ (P:Program) (f:FuncId) (G:List Value->Option (Prop×Value)):Prop:=∀b5 y,G b5=some y->y.1->∀m,FnH P f (b5.map SV.v) ⟨[],[]⟩ m (fun r H' _=>r= .v y.2/\H' =⟨[],[]⟩)
theorem qc {P:Program} {f:FuncId} {F:Int->Bool} (h:∀c m,FnH P f [.v (.int .u8 c)] ⟨[],[]⟩ m fun r H' _=>r= .v (.bool (F c))/\H' =⟨[],[]⟩):nJ P f (lv F):=fun b5 y hy _ m=>by
 obtain⟨c,rfl,rfl⟩:=FH hy;exact h c m
theorem ff {P:Program} {f:FuncId} {B:List UInt8->Prop} {F:List UInt8->Value} (h:∀a m,B a->FnH P f [.v (.string (bs a))] ⟨[],[]⟩ m fun r H' _=>r= .v (F a)/\H' =⟨[],[]⟩):nJ P f (eB B F):=fun b5 y hy hB m=>by
 unfold eB at hy;split at hy
 ·rename_i a;cases hy;have:=h (tl a) m hB;rwa [la] at this
 ·cases hy
def tT (c:Int):Int:=if cM c then 1 else if dk c then 2 else 0
theorem SI (c:Int):tT c=if 97<=c/\c<=122\/65<=c/\c<=90\/c=95\/c=36 then 1 else if 48<=c/\c<=57 then 2 else 0:=by
 simp [tT,cM,dk,or_assoc]
theorem Rz (c:Int) (m:Mem):FnH Tryz.prog 229 [.v (.int .u8 c)] ⟨[],[]⟩ m fun r H' _=>r= .v (.int .i64 (tT c))/\H' =⟨[],[]⟩:=by
 refine aH aw Tryz.func229 ?_
 ·simp only[go_sem];rw[SI];split
  ·omega
  ·split<;>omega
def DS (F:Int->Value):List Value->Option (Prop×Value)
 |[.int .u8 c]=>some (True,F c)
 |_=>none
attribute [go_sem] DS.eq_1
theorem W9 {P:Program} {f:FuncId} {F:Int->Value} (h:∀c m,FnH P f [.v (.int .u8 c)] ⟨[],[]⟩ m fun r H' _=>r= .v (F c)/\H' =⟨[],[]⟩):nJ P f (DS F):=fun b5 y hy _ m=>by
 unfold DS at hy;split at hy
 ·cases hy;exact h _ m
 ·cases hy
theorem Fs (c:Int):tT c=1↔cM c=true:=by
 unfold tT;split
 ·simp_all
 ·split<;>simp_all
theorem Km (c:Int):tT c=2↔¬cM c=true/\dk c=true:=by
 unfold tT;split
 ·simp_all
 ·split<;>simp_all
def fS:Bool->List UInt8->Bool
 |start,[]=> !start
 |start,c::r=>if c.toNat=47/\start=false then fS true r else if cM c.toNat=true\/(dk c.toNat=true/\start=false) then fS false r else false
def dX (s:List UInt8):Bool:=decide (s.length<=64)&&fS true s
abbrev PB:Cfg:=fh (fun _=>false) [(229,DS fun c=> .int .i64 (tT c))]
theorem OK:cd PB Tryz.prog:=pure_cons (by kernel_rfl) (W9 Rz) pure_nil
theorem drop_at {s:List UInt8} {k:Nat} (h:k<s.length):s.drop k=s.getD k 0::s.drop (k+1):=by
 rw[List.drop_eq_getElem_cons h,List.getD_eq_getElem?_getD,List.getElem?_eq_getElem h];rfl
theorem EC (s:List UInt8) (m:Mem) (hs:s.length<=4611686018427387904):FnH Tryz.prog 192 [.v (.string (bs s))] ⟨[],[]⟩ m fun r H' _=>r= .v (.bool (dX s))/\H' =⟨[],[]⟩:=by
  refine enter PB OK Tryz.func192 rfl rfl (by kernel_rfl) rfl ?_ ?_
  · simp only[go_sem]
  · simp only[go_sem]
    refine⟨fun h=> ?_,fun h=> ?_⟩
    · rcases h with rfl |h
      · rfl
      · have:¬s.length<=64:=by omega
        simp [dX,this]
    · refine fy OK (fun x:Nat×Bool=>⟨[⟨0,[],.v (.string (bs s))⟩,⟨3,[],.v (.bool x.2)⟩,⟨14,[],.v (.int .i64 s.length)⟩,⟨15,[],.v (.int .i64 x.1)⟩],[],[],[],0,m⟩)
        (fun x=>x.1<=s.length/\fS true s=fS x.2 (s.drop x.1)) (fun x=>s.length - x.1) (0,true) (by kernel_rfl) (fun _ _=>aq _) (fun _ _=> .inl rfl) (fun _=> ?_) ?_ ?_ ?_
      · simp only[go_sem]
      · simp only[go_sem]
        rfl
      · simp
      · rintro⟨k,st⟩ ⟨hk,hp⟩
        simp only at hk hp;simp only[go_sem];have hN:dX s=fS true s:=by
          have:s.length<=64:=by omega
          simp [dX,this]
        rw[hN];refine⟨fun ao=> ?_,fun cA=> ?_⟩
        · have bV:k<s.length:=by omega
          rw[drop_at bV] at hp;simp only[fS] at hp;have hI:ax (k+1):=by unfold ax;omega
          refine⟨⟨by omega,ao⟩,⟨by omega,ao⟩,fun h1=>⟨hI,(k+1,true),⟨rfl,rfl⟩,⟨bV,?_⟩,by simp only;omega⟩,fun h1=>⟨fun h2=>⟨fun _=>⟨hI,(k+1,false),⟨rfl,rfl⟩,⟨bV,?_⟩,by simp only;omega⟩,fun h3=>absurd h2 h3⟩,
            fun h2=>⟨fun h3=>⟨hI,(k+1,false),⟨rfl,rfl⟩,⟨bV,?_⟩,by simp only;omega⟩,fun h3=> ?_⟩⟩⟩
          · rw[hp,ah ⟨by omega,h1.2⟩]
          · rw[hp,ae (by rintro⟨e,e'⟩;rcases h1 with h1 |h1;· omega
                         · rw[e'] at h1;cases h1),ah (.inl ((Fs _).1 h2))]
          · rw[hp,ae (by rintro⟨e,e'⟩;rcases h1 with h1 |h1;· omega
                         · rw[e'] at h1;cases h1),ah (.inr ⟨((Km _).1 h3.1).2,h3.2⟩)]
          · rw[hp,ae (by rintro⟨e,e'⟩;rcases h1 with h1 |h1;· omega
                         · rw[e'] at h1;cases h1),ae]
            rintro(e |⟨e,e'⟩)
            · exact h2 ((Fs _).2 e)
            · rcases h3 with h3 |h3
              · exact h3 ((Km _).2 ⟨fun x=>h2 ((Fs _).2 x),e⟩)
              · rw[e'] at h3;cases h3
        · rw[hp,List.drop_of_length_le (by omega)]
          rfl
theorem P6 (c:Int) (m:Mem):FnH Tryz.prog 242 [.v (.int .u8 c)] ⟨[],[]⟩ m fun r H' _=>r= .v (.bool (cM c))/\H' =⟨[],[]⟩:=by
 refine aH aw Tryz.func242 ?_
 ·simp only[go_sem];rfl
def qf (c:UInt8):Bool:=cM c.toNat||dk c.toNat
def nr:List UInt8->Bool
 |[]=>false
 |c::r=>cM c.toNat&&r.all qf
theorem Gt:∀(p r:List UInt8),(∀c∈p,c.toNat≠47)->fS false (p++r)=(p.all qf&&fS false r)
 |[],r,_=>by simp
 |c::p,r,h=>by
  have h1:=h c (df ..);have ih:=Gt p r fun x hx=>h x (cu _ hx)
  simp only[jt,fS,List.all_cons,qf];rw[ae (fun e=>h1 e.1)];cases e1:cM c.toNat<;>cases e2:dk c.toNat<;>simp [ih]
theorem Vz (p r:List UInt8) (h:∀c∈p,c.toNat≠47):fS true (p++47::r)=(nr p&&fS true r):=by
 cases p with
 |nil=>simp [fS,nr,cM,dk]
 |cons c p=>
  have h1:=h c (df ..);have ih:=Gt p (47::r) fun x hx=>h x (cu _ hx)
  simp only[jt,fS,nr];rw[ae (fun e=>h1 e.1),ih];cases e1:cM c.toNat<;>simp [fS]
theorem L6 (p:List UInt8) (h:∀c∈p,c.toNat≠47):fS true p=nr p:=by
 cases p with
 |nil=>rfl
 |cons c p=>
  have h1:=h c (df ..);have ih:=Gt p [] fun x hx=>h x (cu _ hx)
  rw[List.append_nil] at ih;simp only[fS,nr];rw[ae (fun e=>h1 e.1),ih];cases e1:cM c.toNat<;>simp [fS]
abbrev cf4:Cfg:=fh (fun _=>false) [(242,lv cM)]
theorem OJ:cd cf4 Tryz.prog:=pure_cons (by kernel_rfl) (qc P6) pure_nil
theorem Rf (s:List UInt8) (m:Mem) (hs:s.length<=4611686018427387904):FnH Tryz.prog 216 [.v (.string (bs s))] ⟨[],[]⟩ m fun r H' _=>r= .v (.bool (nr s))/\H' =⟨[],[]⟩:=by
 refine aH OJ Tryz.func216 ?_
 ·simp only[go_sem];refine cK OJ (fun k:Nat=>⟨[⟨0,[],.v (.string (bs s))⟩,⟨3,[],.v (.int .i64 k)⟩],[],[],[],0,m⟩)
    (fun k=>k<=s.length/\(k=0\/nr s=(s.drop k).all qf)) (fun k=>s.length - k) 0 (fun _ _=>aq _) (fun _ _=> .inl rfl) ?_ ?_ ?_
  ·simp only[go_sem];rfl
  ·simp
  ·rintro k ⟨hk,hp⟩;simp only[go_sem];have av:∀x:UInt8,qf x=true↔cM x.toNat=true\/¬(x.toNat:Int)<48/\¬57<(x.toNat:Int):=fun x=>by
    simp [qf,dk]
   have mS:k=0->k<s.length->nr s=(cM (s.getD k 0).toNat&&(s.drop (k+1)).all qf):=by
    rintro rfl ao;have:=drop_at ao;rw[List.drop_zero] at this;rw[this];rfl
   refine⟨fun ao=>⟨⟨by omega,ao⟩,fun _=>⟨by omega,ao⟩,fun _=>⟨by omega,ao⟩,fun h=> ?_,fun h=>⟨by unfold ax;omega,k+1,by omega,⟨by omega,.inr ?_⟩,by omega⟩⟩,fun cA=> ?_⟩
   ·have bV:k<s.length:=by omega
    rcases Nat.eq_zero_or_pos k with h0 |h0
    ·rw[mS h0 bV,h.1];rfl
    ·rcases hp with hp |hp
     ·omega
     ·rw[hp,drop_at bV,List.all_cons];have:qf (s.getD k 0)=false:=by
       rw[Bool.eq_false_iff];intro e;rcases(av _).1 e with e |e
       ·rw[e] at h;cases h.1
       ·omega
      rw[this];rfl
   ·have bV:k<s.length:=by omega
    rcases Nat.eq_zero_or_pos k with h0 |h0
    ·rw[mS h0 bV];have:cM (s.getD k 0).toNat=true:=by
      rcases h with h |h
      ·exact h
      ·omega
     rw[this];rfl
    ·rcases hp with hp |hp
     ·omega
     ·rw[hp,drop_at bV,List.all_cons]
      have:qf (s.getD k 0)=true:=(av _).2 (by
       rcases h with h |h
       ·exact .inl h
       ·exact .inr ⟨h.1.2,h.2⟩)
      rw[this];rfl
   ·rcases Nat.eq_zero_or_pos s.length with h0 |h0
    ·rw[List.eq_nil_of_length_eq_zero h0];rfl
    ·rcases hp with hp |hp
     ·omega
     ·rw[hp,List.drop_of_length_le (by omega)];simpa using h0
def jd (s:List UInt8) (c:Int):Nat->Int
 |0=> -1
 |k+1=>if((s.getD k 0).toNat:Int)=c then k else jd s c k
theorem lastIdx_spec (s:List UInt8) (c:Int) (m:Mem) (hs:s.length<=4611686018427387904):FnH Tryz.prog 265 [.v (.string (bs s)),.v (.int .u8 c)] ⟨[],[]⟩ m fun r H' _=>r= .v (.int .i64 (jd s c s.length))/\H' =⟨[],[]⟩:=by
 refine aH aw Tryz.func265 ?_
 ·simp only[go_sem];refine⟨by unfold ax;omega,?_⟩;refine cK aw (fun k:Nat=>⟨[⟨0,[],.v (.string (bs s))⟩,⟨1,[],.v (.int .u8 c)⟩,⟨5,[],.v (.int .i64 (k - 1))⟩],[],[],[],0,m⟩)
    (fun k=>k<=s.length/\jd s c s.length=jd s c k) (fun k=>k) s.length (fun _ _=>aq _) (fun _ _=> .inl rfl) ?_ ?_ ?_
  ·simp only[go_sem]
  ·simp
  ·rintro k ⟨hk,hp⟩;simp only[go_sem];refine⟨fun h0=>⟨⟨h0,by omega⟩,fun h=> ?_,fun h=>⟨by unfold ax;omega,k - 1,by omega,⟨by omega,?_⟩,by omega⟩⟩,fun h=> ?_⟩
   ·obtain⟨k,rfl⟩:∃j,k=j+1:=⟨k - 1,by omega⟩;have e:((k+1:Nat):Int) - 1=k:=by omega
    rw[e,Int.toNat_natCast] at h;rw[e];rw[hp];simp only[jd];rw[ah h]
   ·obtain⟨k,rfl⟩:∃j,k=j+1:=⟨k - 1,by omega⟩;have e:((k+1:Nat):Int) - 1=k:=by omega
    rw[e,Int.toNat_natCast] at h;rw[hp];simp only[jd];rw[ae h];rfl
   ·obtain rfl:k=0:=by omega
    rw[hp];rfl
theorem P9 (s:List UInt8) (m:Mem) (hs:s.length<=4611686018427387904):FnH Tryz.prog 217 [.v (.string (bs s))] ⟨[],[]⟩ m fun r H' _=>r= .v (.int .i64 (jd s 47 s.length))/\H' =⟨[],[]⟩:=by
 refine aH aw Tryz.func217 ?_
 ·simp only[go_sem];refine⟨by unfold ax;omega,?_⟩;refine cK aw (fun k:Nat=>⟨[⟨0,[],.v (.string (bs s))⟩,⟨3,[],.v (.int .i64 (k - 1))⟩],[],[],[],0,m⟩)
    (fun k=>k<=s.length/\jd s 47 s.length=jd s 47 k) (fun k=>k) s.length (fun _ _=>aq _) (fun _ _=> .inl rfl) ?_ ?_ ?_
  ·simp only[go_sem]
  ·simp
  ·rintro k ⟨hk,hp⟩;simp only[go_sem];refine⟨fun h0=>⟨⟨h0,by omega⟩,fun h=> ?_,fun h=>⟨by unfold ax;omega,k - 1,by omega,⟨by omega,?_⟩,by omega⟩⟩,fun h=> ?_⟩
   ·obtain⟨k,rfl⟩:∃j,k=j+1:=⟨k - 1,by omega⟩;have e:((k+1:Nat):Int) - 1=k:=by omega
    rw[e,Int.toNat_natCast] at h;rw[e];rw[hp];simp only[jd];rw[ah h]
   ·obtain⟨k,rfl⟩:∃j,k=j+1:=⟨k - 1,by omega⟩;have e:((k+1:Nat):Int) - 1=k:=by omega
    rw[e,Int.toNat_natCast] at h;rw[hp];simp only[jd];rw[ae h];rfl
   ·obtain rfl:k=0:=by omega
    rw[hp];rfl
theorem PY (s:List UInt8) (c:Int) (m:Mem) (hs:s.length<=4611686018427387904):FnH Tryz.prog 249 [.v (.string (bs s)),.v (.int .u8 c)] ⟨[],[]⟩ m fun r H' _=>r= .v (.int .i64 (jd s c s.length))/\H' =⟨[],[]⟩:=by
 refine aH aw Tryz.func249 ?_
 ·simp only[go_sem];refine ab ((lastIdx_spec s c m hs).mono ?_);rintro r H' m' hm ⟨rfl,rfl⟩;simp only[go_sem]
theorem QN (s:List UInt8) (m:Mem) (hs:s.length<=4611686018427387904):FnH Tryz.prog 230 [.v (.string (bs s))] ⟨[],[]⟩ m fun r H' _=>r= .v (.int .i64 (jd s 47 s.length))/\H' =⟨[],[]⟩:=by
 refine aH aw Tryz.func230 ?_
 ·simp only[go_sem];refine ab ((PY s 47 m hs).mono ?_);rintro r H' m' hm ⟨rfl,rfl⟩;simp only[go_sem]
theorem B8 (s:List UInt8) (c:Int):∀k,-1<=jd s c k/\jd s c k<k
 |0=>⟨by simp [jd],by simp [jd]⟩
 |k+1=>by
  obtain⟨h1,h2⟩:=B8 s c k;simp only[jd];split<;>omega
def tK (s:List UInt8):List UInt8:=s.drop (jd s 47 s.length+1).toNat
theorem Qa (s:List UInt8) (m:Mem) (hs:s.length<=4611686018427387904):FnH Tryz.prog 193 [.v (.string (bs s))] ⟨[],[]⟩ m fun r H' _=>r= .v (.string (bs (tK s)))/\H' =⟨[],[]⟩:=by
 refine aH aw Tryz.func193 ?_
 ·simp only[go_sem];refine ab ((QN s m hs).mono ?_);rintro r H' m' hm ⟨rfl,rfl⟩;simp only[go_sem];obtain⟨h1,h2⟩:=B8 s 47 s.length;refine⟨by unfold ax;omega,⟨by omega,by omega,by omega⟩,?_⟩;rfl
theorem P0 (s:List UInt8) (m:Mem) (hs:s.length<=4611686018427387904):FnH Tryz.prog 171 [.v (.string (bs s))] ⟨[],[]⟩ m fun r H' _=>r= .v (.string (bs (tK s)))/\H' =⟨[],[]⟩:=by
 refine aH aw Tryz.func171 ?_
 ·simp only[go_sem];refine ab ((P9 s m hs).mono ?_);rintro r H' m' hm ⟨rfl,rfl⟩;simp only[go_sem];obtain⟨h1,h2⟩:=B8 s 47 s.length;refine⟨by unfold ax;omega,⟨by omega,by omega,by omega⟩,?_⟩;rfl
theorem UB {s:List UInt8} {f k:Nat} (hf:f<=k) (hk:k<=s.length):s.drop f=(s.take k).drop f++s.drop k:=by
 conv=>lhs;rw[<- List.take_append_drop k s]
 rw[List.drop_append_of_le_length (by rw[List.length_take];omega)]
theorem Tz {s:List UInt8} {f k:Nat} (hf:f<=k) (hk:k<s.length):(s.take (k+1)).drop f=(s.take k).drop f++[s.getD k 0]:=by
 rw[List.take_succ_eq_append_getElem hk,List.drop_append_of_le_length (by rw[List.length_take];omega),List.getD_eq_getElem?_getD,List.getElem?_eq_getElem hk];rfl
abbrev cf5:Cfg:=fh (fun _=>false) [(216,eB (fun s=>s.length<=4611686018427387904) fun s=> .bool (nr s))]
theorem Hx:cd cf5 Tryz.prog:=pure_cons (by kernel_rfl) (ff fun s m h=>Rf s m h) pure_nil
theorem Em (s:List UInt8) (m:Mem) (hs:s.length<=4611686018427387904):FnH Tryz.prog 170 [.v (.string (bs s))] ⟨[],[]⟩ m fun r H' _=>r= .v (.bool (dX s))/\H' =⟨[],[]⟩:=by
 refine aH Hx Tryz.func170 ?_
 ·simp only[go_sem];refine⟨fun h=> ?_,fun h=> ?_⟩
  ·have:¬s.length<=64:=by omega
   simp [dX,this]
  ·refine cK Hx (fun x:Nat×Nat=>⟨[⟨0,[],.v (.string (bs s))⟩,⟨3,[],.v (.int .i64 x.1)⟩,⟨4,[],.v (.int .i64 x.2)⟩],[],[],[],0,m⟩)
    (fun x=>x.1<=x.2/\x.2<=s.length/\(∀c∈(s.take x.2).drop x.1,c.toNat≠47)/\dX s=fS true (s.drop x.1)) (fun x=>s.length - x.2) (0,0) (fun _ _=>aq _) (fun _ _=> .inl rfl) ?_ ?_ ?_
   ·simp only[go_sem];exact⟨rfl,rfl⟩
   ·have:s.length<=64:=by omega
    simp [dX,this]
   ·rintro⟨f,k⟩ ⟨hf,hk,qL,hp⟩;simp only at hf hk qL hp;simp only[go_sem];have hlen:∀l:List UInt8,(l.take k).length<=k:=fun l=>by rw[List.length_take];omega
    refine⟨fun ao=> ?_,fun cA=> ?_⟩
    ·have bV:k<s.length:=by omega
     have hI:ax (k+1):=by unfold ax;omega
     refine⟨⟨by omega,ao⟩,fun h47=> ?_,fun h47=>⟨hI,(f,k+1),⟨rfl,rfl⟩,⟨by simp only;omega,bV,?_,hp⟩,by simp only;omega⟩⟩
     ·have e47:s.getD k 0=47:=by
       have:(s.getD k 0).toNat=47:=by omega
       exact UInt8.toNat_inj.1 this
      have oS:dX s=(nr ((s.take k).drop f)&&fS true (s.drop (k+1))):=by
       rw[hp,UB hf hk,drop_at bV,e47];exact Vz _ _ qL
      refine⟨⟨by omega,by omega,by omega⟩,by simp only[cj,List.length_take];omega,fun h=> ?_,fun h=>⟨hI,hI,(k+1,k+1),⟨rfl,rfl⟩,⟨aq _,bV,?_,?_⟩,by simp only;omega⟩⟩
      ·rw[oS,h];rfl
      ·rw[List.drop_of_length_le (by simp;omega)];intro c hc;cases hc
      ·rw[oS,h];rfl
     ·simp only;rw[Tz hf bV];intro c hc;rcases List.mem_append.1 hc with hc |hc
      ·exact qL c hc
      ·rw[List.mem_singleton.1 hc];omega
    ·obtain rfl:k=s.length:=by omega
     refine⟨⟨by omega,by omega,by omega⟩,by simp only[cj,List.length_take];omega,?_⟩;rw[hp];have:=L6 _ qL;rw[List.take_length] at this;exact this.symm
theorem MU:∀(s:List UInt8) (b:Bool),fS b s=true->s=[]\/((s.getD (s.length - 1) 0).toNat≠47/\fS b s=true)
 |[],_,_=> .inl rfl
 |c::r,b,h=>by
  refine .inr ⟨?_,h⟩;simp only[fS] at h;cases r with
  |nil=>
   intro e;have e:c.toNat=47:=e;rw[e] at h;cases b<;>simp [fS,cM,dk] at h
  |cons d r=>
   have go:∀b',fS b' (d::r)=true->((c::d::r).getD ((c::d::r).length - 1) 0).toNat≠47:=fun b' hb=>by
    rcases MU (d::r) b' hb with e |e
    ·cases e
    ·simpa using e.1
   split at h
   ·exact go _ h
   ·split at h
    ·exact go _ h
    ·cases h
theorem JM {s:List UInt8} (h:dX s=true):0<(tK s).length:=by
 simp only[dX,cO] at h;rcases MU s true h.2 with rfl |⟨e,_⟩
 ·simp [fS] at h
 ·have hl:0<s.length:=by
   cases s with
   |nil=>simp [fS] at h
   |cons c r=>simp
  unfold tK;rw[cj];obtain⟨n,hn⟩:∃n,s.length=n+1:=⟨s.length - 1,by omega⟩;rw[hn] at e ⊢;simp only[Nat.add_sub_cancel] at e;have h2:=B8 s 47 n;have:jd s 47 (n+1)=jd s 47 n:=by
   simp only[jd];rw[ae (by omega)]
  rw[this];omega
def dz (s:List UInt8):Bool:=dX s&&decide (65<=((tK s).getD 0 0).toNat)&&decide (((tK s).getD 0 0).toNat<=90)
abbrev BL (s:List UInt8):Prop:=s.length<=4611686018427387904
abbrev cf6:Cfg:=fh (fun _=>false) [(192,eB BL fun s=> .bool (dX s)),(170,eB BL fun s=> .bool (dX s)),(193,eB BL fun s=> .string (bs (tK s))),(171,eB BL fun s=> .string (bs (tK s)))]
theorem Hw:cd cf6 Tryz.prog:=pure_cons (by kernel_rfl) (ff EC) (pure_cons (by kernel_rfl) (ff Em) (pure_cons (by kernel_rfl) (ff Qa) (pure_cons (by kernel_rfl) (ff P0) pure_nil)))
theorem zb (s:List UInt8) (m:Mem) (hs:BL s):FnH Tryz.prog 134 [.v (.string (bs s))] ⟨[],[]⟩ m fun r H' _=>r= .v (.bool (dz s))/\H' =⟨[],[]⟩:=by
 refine aH Hw Tryz.func134 ?_
 ·simp only[go_sem];refine⟨hs,fun h=>by simp [dz,h],fun h=>⟨hs,⟨by omega,by have:=JM h;omega⟩,?_⟩⟩;rw[dz,h,Bool.true_and];have e1:∀n:Nat,decide ((65:Int)<=n)=decide (65<=n):=fun n=>by rw[decide_eq_decide];omega
  have e2:∀n:Nat,decide ((n:Int)<=90)=decide (n<=90):=fun n=>by rw[decide_eq_decide];omega
  rw[e1,e2]
theorem Db {P:Program} {f:FuncId} {args:List Value} {m:Mem} {R:Value->Prop} (h:∀w D,Wf w D->m.le ⟨w,D⟩->Calls P f ⟨args⟩ w fun e w' =>∃y,e= .returned y/\R y/\Below w.heap.size w w'):
  FnH P f (args.map SV.v) ⟨[],[]⟩ m fun r H' m' =>(∃y,r= .v y/\R y)/\H' =⟨[],[]⟩/\m' =m:=by
 intro V w D jN hle hH;have ha:(args.map SV.v).map (den V)=args:=by rw[List.map_map];exact List.map_id'' (fun _=>rfl) args
 rw[ha];refine(h w D jN hle).mono ?_;rintro e w' ⟨y,rfl,hy,hb⟩;have ao:∀b,0<D b->b<w.heap.size:=fun b hb=>by
  rcases Nat.lt_or_ge b w.heap.size with h |h
  ·exact h
  ·have:=jN b h;omega
 have Of:Mem.le ⟨w,D⟩ ⟨w',D⟩:=fun b=>⟨aq _,fun h0=>⟨ao b h0,rS (hb.block b (ao b h0))⟩⟩
 exact⟨.v y,V,D,⟨[],[]⟩,m,rfl,fun b nY=>jN b (cg hb.size nY),⟨fun b hb=>(by cases hb),fun b hb=>(by cases hb),by simp [aW],by simp⟩,fun b hb=>(by cases hb),fun b hb=>(by cases hb),
  ⟨hb.os,hb.tape,hb.output,hb.size,fun b nY _=>⟨hb.block b nY,rfl⟩⟩,fun b hb=>(by simp [aW] at hb),Of,fun b=>⟨aq _,fun h=>⟨((hle b).2 h).1,rS rfl⟩⟩,Mem.le_trans hle Of,⟨y,rfl,hy⟩,rfl,rfl⟩
theorem Ab {m m' :Mem} {a:Option Addr} {n sz:Nat} {xs:List Value} (hle:m.le m') (h:aM m a n sz xs):aM m' a n sz xs:=by
 refine⟨h.1,fun h0=> ?_⟩;obtain⟨ad,rfl,hs,hc⟩:=h.2 h0;refine⟨ad,rfl,hs,fun j hj=> ?_⟩;obtain⟨h1,h2⟩:=hc j hj;obtain⟨e1,e2,e3⟩:=oc ad j hs;have hx:xs[j]? =some (xs[j]'(by rw[h.1];exact hj)):=List.getElem?_eq_getElem _;exact⟨(B4 hle e3 (by rw[e1,e2];exact h2) (h1.trans hx)).trans hx.symm,dM h2 (hle _).1⟩
theorem ZB {m m' :Mem} {x:Value} {cs:List Value} (hle:m.le m') (h:Rd m x cs):Rd m' x cs:=by
 obtain⟨ad,rfl,hs,hc⟩:=h;refine⟨ad,rfl,hs,fun j hj=> ?_⟩;obtain⟨h1,h2⟩:=hc j hj;obtain⟨e1,e2,e3⟩:=oc ad j hs;have hx:cs[j]? =some (cs[j]'hj):=List.getElem?_eq_getElem _;exact⟨(B4 hle e3 (by rw[e1,e2];exact h2) (h1.trans hx)).trans hx.symm,dM h2 (hle _).1⟩
def opsL:List (List UInt8):=[[124,124],[38,38],[124],[94],[38],[61,61],[33,61],[60],[60,61],[62],[62,61],[60,60],[62,62],[62,62,62],[43],[45],[42],[47],[37]]
def Glob (m:Mem):Prop:=(∀w D,m.le ⟨w,D⟩->(∃k,w.cell? ⟨1,0,none⟩=some (.int .i64 k))/\Lib.TabIs Tryz.prog w "internal/strconv.uint64pow10" .u64 Lib.pow10Tab)/\
 ∃ad c,Rd m (.pointer (some ⟨0,0,none⟩)) [.slice (some ad) 19 c]/\19<=c/\aM m (some ad) 19 1 (strs opsL)
theorem Glob.up {m m' :Mem} (h:Glob m) (hm:m.le m'):Glob m' :=
 ⟨fun w D hw=>h.1 w D (Mem.le_trans hm hw),h.2.elim fun ad h=>h.elim fun c h=>⟨ad,c,ZB hm h.1,h.2.1,Ab hm h.2.2⟩⟩
theorem FY (b:ByteArray):(tl b).length=b.size:=by simp [tl]
theorem o6 (l:List UInt8):(bs l).size=l.length:=by rw[<- FY,xS]
theorem P3 (s dR new:List UInt8) (m:Mem) (hg:Glob m) (hs:s.length<=2147483648) (ho:1<=dR.length) (hn:new.length<=16):
  FnH Tryz.prog 224 [.v (.string (bs s)),.v (.string (bs dR)),.v (.string (bs new))] ⟨[],[]⟩ m fun r H' m' =>(r= .v (.string (bs (Lib.replaceAll s dR new))))/\H' =⟨[],[]⟩/\m' =m:=by
 refine(Db (args:=[.string (bs s),.string (bs dR),.string (bs new)]) (R:=fun y=>y= .string (bs (Lib.replaceAll s dR new))) fun w D jN hle=> ?_).mono ?_
 ·obtain⟨k,hk⟩:=(hg.1 w D hle).1;have hc:=Lib.countB_mul_le (bs dR) (by rw[o6];exact ho) s.length (bs s) (by rw[o6];omega);have h1:Lib.countB (bs s) (bs dR)<=s.length:=by
   rw[o6] at hc;exact cg (Nat.le_mul_of_pos_right _ ho) hc
  have h2:Lib.countB (bs s) (bs dR) * (bs new).size<=s.length * 16:=by rw[o6];exact Nat.mul_le_mul h1 hn
  refine(Tryz.strings_ReplaceAll (bs s) (bs dR) (bs new) k w (by rw[o6];omega) hk (by rw[o6];exact ho) (by rw[o6 s];omega)).mono ?_;rintro e w' ⟨rfl,hb⟩;exact⟨_,rfl,by rw[<- K8];rfl,hb⟩
 ·rintro r H' m' hm ⟨⟨y,rfl,rfl⟩,h1,h2⟩;exact⟨rfl,h1,h2⟩
theorem IA (s:List UInt8) (c:Int) (m:Mem):FnH Tryz.prog 183 [.v (.string (bs s)),.v (.int .u8 c)] ⟨[],[]⟩ m fun r H' _=>r= .v (.int .i64 (Lib.indexByte s c.toNat.toUInt8))/\H' =⟨[],[]⟩:=by
 refine(Db (args:=[.string (bs s),.int .u8 c]) (R:=fun y=>y= .int .i64 (Lib.indexByte s c.toNat.toUInt8)) fun w D jN hle=> ?_).mono ?_
 ·refine(Tryz.strings_IndexByte (bs s) c w).mono ?_;rintro e w' ⟨rfl,rfl⟩;exact⟨_,rfl,rfl,Below.refl _ _⟩
 ·rintro r H' m' hm ⟨⟨y,rfl,rfl⟩,h1,h2⟩;exact⟨rfl,h1⟩
theorem WR:eV Tryz.prog 50=some [.v (.int .i64 0),.v (.string (bs [])),.v (.int .i64 0),.v (.int .i64 0)]:=by kernel_rfl
theorem ZA:dY Tryz.prog 50=some (some 4):=by kernel_rfl
theorem Z2:bf Tryz.prog 50=4:=by kernel_rfl
theorem abX:mY Tryz.prog 50=40:=by kernel_rfl
theorem Wq:b7 Tryz.prog 50 0=some (0,none,1):=by kernel_rfl
theorem Wp:b7 Tryz.prog 50 1=some (1,none,1):=by kernel_rfl
theorem Wo:b7 Tryz.prog 50 2=some (2,none,1):=by kernel_rfl
theorem Wn:b7 Tryz.prog 50 3=some (3,none,1):=by kernel_rfl
theorem Zl:mD Tryz.prog 50=true:=by kernel_rfl
theorem abO:pN Tryz.prog 3 5= .int .u8:=by kernel_rfl
theorem Y5:pN Tryz.prog 83 9= .b2s:=by kernel_rfl
attribute [go_sem] abO Y5 WR ZA Z2 abX Wq Wp Wo Wn Zl
structure Tk where
 k:Int
 s:List UInt8
 n:Int
 at_:Int
abbrev Tk.cells (t:Tk):List SV:=[.v (.int .i64 t.k),.v (.string (bs t.s)),.v (.int .i64 t.n),.v (.int .i64 t.at_)]
abbrev Tk.sv (t:Tk):SV:= .agg t.cells
def qo:List UInt8:=[48,49,50,51,52,53,54,55,56,57,97,98,99,100,101,102]
theorem YX:gV Tryz.prog 83=some 5:=by kernel_rfl
theorem sz5:bf Tryz.prog 5=1:=by kernel_rfl
theorem by5:mY Tryz.prog 5=1:=by kernel_rfl
theorem X7:eV Tryz.prog 5=some [.v (.int .u8 0)]:=by kernel_rfl
theorem ab7:dY Tryz.prog 5=some none:=by kernel_rfl
attribute [go_sem] YX sz5 by5 X7 ab7
theorem FX (a b:List UInt8):kh (a++b)=kh a++kh b:=by simp [kh]
theorem KH (dR new:List UInt8):∀(k:Nat) (s:List UInt8),(Lib.replaceK dR new k s).length<=s.length+k * new.length
 |0,s=>by simp [Lib.replaceK]
 |k+1,s=>by
  rw[Lib.replaceK];split
  ·exact Nat.le_add_right _ _
  ·have ih:=KH dR new k (s.drop ((Lib.index s dR).toNat+dR.length));simp only[bY,List.length_take,cj] at ih ⊢;rw[Nat.add_mul];omega
theorem Vg (s dR new:List UInt8) (ho:1<=dR.length) (hs:s.length<=1000000000):(Lib.replaceAll s dR new).length<=s.length+s.length * new.length:=by
 unfold Lib.replaceAll Lib.replace;split
 ·exact Nat.le_add_right _ _
 ·refine cg (KH _ _ _ _) ?_;have hn:Lib.replaceNum s dR (-1)=Lib.count s dR:=by simp [Lib.replaceNum]
  have hc:=Lib.countB_mul_le (bs dR) (by rw[o6];exact ho) s.length (bs s) (by rw[o6];exact aq _);have hcc:Lib.countB (bs s) (bs dR)=Lib.count s dR:=rfl;rw[hcc,o6,o6] at hc;have:Lib.count s dR<=s.length:=cg (Nat.le_mul_of_pos_right _ ho) hc;rw[hn];exact Nat.add_le_add_left (Nat.mul_le_mul_right _ this) _
theorem YZ:gV Tryz.prog 45=some 50:=by kernel_rfl
attribute [go_sem] YZ
def cG (ts:List Tk):List Value:=(ts.map fun t=>[Value.int .i64 t.k,.string (bs t.s),.int .i64 t.n,.int .i64 t.at_]).flatten
theorem Fh {a b c:Mem} (h:ak a b) (h' :b.le c):ak a c:=by
 rcases h with rfl |h
 ·exact .inr h'
 ·exact .inr (Mem.le_trans h h')
theorem abN:pN Tryz.prog 5 3= .int .i64:=by kernel_rfl
attribute [go_sem] abN
def abJ (c:UInt8):List UInt8:=
 if c.toNat=34\/c.toNat=92 then[92,c] else if c.toNat=10 then[92,110] else if c.toNat<32\/126<c.toNat then[92,120,qo.getD (c.toNat / 16) 0,qo.getD (c.toNat % 16) 0] else[c]
def Uw (s:List UInt8):List UInt8:=34::(s.map abJ).flatten++[34]
def oO (t:Tk):Option (List UInt8):=
 if t.k=1 then(if t.n=0/\dX t.s=true/\fb.contains t.s=false then some (Lib.replaceAll t.s [47] [58,58]) else none)
 else if t.k=2 then(if t.n=0/\fb.contains t.s=true then some t.s else none)
 else if t.k=3 then(if(t.s=[]/\0<=t.n)/\t.n<2147483648 then some (Lib.itoa t.n) else none)
 else if t.k=4 then(if t.s=[]/\0<=t.n then some (Lib.itoa t.n++[76]) else none)
 else if t.k=5 then(if t.n=0/\t.s.length<=1024 then some (Uw t.s) else none)
 else if t.k=6 then(if t.n=0/\eQ.contains t.s=true then some t.s else none)
 else none
def aca (t:Tk):Prop:=t.s.length<=2000000/\ax t.n
def NW:List Tk->Option (List (List UInt8))
 |[]=>some []
 |t::r=>match oO t with |none=>none |some x=>match NW r with |none=>none |some y=>some (x::y)
def Yw (ts:List Tk):List UInt8×Int:=
 if 5000<ts.length then([],5) else
  match NW ts with
  |none=>([],1)
  |some l=>if 20000<(Lib.join l [32]).length then([],8) else(Lib.join l [32],0)
theorem CW (ts:List Tk):(cG ts).length=ts.length * 4:=by
 induction ts with
 |nil=>rfl
 |cons t r ih=>simp only[cG,bh,List.flatten_cons,bY,cC,fm] at ih ⊢;omega
theorem ed {m:Mem} {a:Option Addr} {n sz:Nat} {xs:List Value} (h:aM m a n sz xs) {i:Nat} (hi:i<n):Rd m (cI a (i * sz)) ((xs.drop (i * sz)).take sz)/\a≠none:=by
 have hl:=h.1;have hm:(i+1) * sz<=n * sz:=Nat.mul_le_mul_right _ hi;rw[Nat.succ_mul] at hm;obtain⟨ad,rfl,hs,hc⟩:=h.2 (by omega);refine⟨?_,by simp⟩;obtain⟨e1,e2,e3⟩:=oc ad (i * sz) hs;refine⟨ad.add (i * sz),rfl,e3,fun j hj=> ?_⟩;rw[List.length_take,cj] at hj;obtain⟨h1,h2⟩:=hc (i * sz+j) (by omega);obtain⟨f1,f2,f3⟩:=oc (ad.add (i * sz)) j e3;obtain⟨g1,g2,g3⟩:=oc ad (i * sz+j) hs;have hee:(ad.add (i * sz)).add j=ad.add (i * sz+j):=by
  cases hA:(ad.add (i * sz)).add j;cases hB:ad.add (i * sz+j);rw[hA] at f1 f2 f3;rw[hB] at g1 g2 g3;simp only at f1 f2 f3 g1 g2 g3;rw[f1,f2,f3,g1,g2,g3,e1,e2,Nat.add_assoc]
 refine⟨?_,by rw[e1,e2,Nat.add_assoc];exact h2⟩;rw[hee,h1,List.getElem?_take_of_lt (by omega),List.getElem?_drop]
def dG (t:Tk):List Value:=[Value.int .i64 t.k,.string (bs t.s),.int .i64 t.n,.int .i64 t.at_]
end Go.Proofs.YtimddhkipjedcaaGreatDoor.E
namespace Go.Proofs.YtimddhkipjedcaaGreatDoor.E
open Go Go.ChangeShapes Go.WideShapes Go.ChangeAt Go.RowKit
def ku (W:World) (b:Nat):Nat:=match W.heap[b]? with |some (.cells c _ _)=>c.size+1 |_=>0
theorem Nz (W:World):Wf W (ku W):=fun b hb=>by
 have:W.heap[b]? =none:=Array.getElem?_eq_none hb;simp [ku,this]
theorem NA {W:World} {b:Nat} {c:Array Value} {t:TypeId} {f:Nat×Nat} (h:W.heap[b]? =some (.cells c t f)):ku W b=c.size+1:=by
 simp [ku,h]
theorem LC {W w:World} {D:Nat->Nat} {b:Nat} {c:Array Value} {t:TypeId} {f:Nat×Nat} (hle:Mem.le ⟨W,ku W⟩ ⟨w,D⟩) (h:W.heap[b]? =some (.cells c t f)):∃t' f',w.heap[b]? =some (.cells c t' f'):=by
 obtain⟨_,hk⟩:=hle b;have hd:ku W b=c.size+1:=NA h;obtain⟨_,hk⟩:=hk (by show 0<ku W b;omega);obtain⟨c',t',f',ho,hj⟩:=J5 hk h;simp only[hd] at ho hj;have e:c' =c:=by
  apply Array.ext_getElem?
  intro i;rcases Nat.lt_or_ge i (c.size+1) with hi |hi
  ·exact hj i hi
  ·have h1:=hj c.size (by omega);rw[Array.getElem?_eq_none (aq c.size)] at h1;have h2:c'.size<=c.size:=by
    rcases Nat.lt_or_ge c.size c'.size with h |h
    ·rw[Array.getElem?_eq_getElem h] at h1;cases h1
    ·exact h
   rw[Array.getElem?_eq_none (by omega),Array.getElem?_eq_none (by omega)]
 subst e;exact⟨t',f',ho⟩
theorem CI {W w:World} {D:Nat->Nat} {g i:Nat} {v:Value} (hle:Mem.le ⟨W,ku W⟩ ⟨w,D⟩) (h:W.cell? ⟨g,i,none⟩=some v):w.cell? ⟨g,i,none⟩=some v:=by
 unfold World.cell? at h ⊢;split at h
 ·rename_i c t f hc;obtain⟨t',f',ho⟩:=LC hle hc;dsimp only at ho;rw[ho];simpa using h
 ·cases h
theorem MG {W w:World} {D:Nat->Nat} {P:Program} {n:String} {c:Array Value} (hle:Mem.le ⟨W,ku W⟩ ⟨w,D⟩) (h:W.var? P n=some c):w.var? P n=some c:=by
 unfold World.var? at h ⊢;obtain⟨g,hg,h⟩:=Option.bind_eq_some_iff.1 h;rw[hg];split at h
 ·rename_i c' t f hc;obtain⟨t',f',ho⟩:=LC hle hc;cases h;simp [ho]
 ·cases h
theorem Ft {W:World} {a:Addr} {v:Value} (h:W.cell? a=some v):a.spot=none/\a.off<ku W a.block:=by
 unfold World.cell? at h;split at h
 ·rename_i c t f hc;cases hs:a.spot with
  |some x=>rw[hs] at h;simp at h
  |none=>
   rw[hs] at h;simp only[Option.isSome_none,Bool.false_eq_true,if_false] at h;refine⟨rfl,?_⟩;rw[NA hc];have:=(Array.getElem?_eq_some_iff.1 h).1;omega
 ·cases h
theorem UI {P:Program} {f:FuncId} {args:List SV} {b5:List Value} {W:World} {x:Value} (Hf:∀V,args.map (den V)=b5) (h:FnH P f args ⟨[],[]⟩ ⟨W,ku W⟩ fun r H' m' =>ak ⟨W,ku W⟩ m' /\H' =⟨[],[]⟩/\r= .v x):
  Calls P f ⟨b5⟩ W fun e W' =>e= .returned x/\Below W.heap.size W W' :=by
 have:=h ⟨fun _=>0,fun _ _=>⟨none,0,0⟩⟩ W (ku W) (Nz W) (Mem.le_refl ⟨W,ku W⟩ (Nz W)) ⟨fun b hb=>(by cases hb),fun b hb=>(by cases hb),by simp [aW],by simp⟩;rw[Hf] at this;refine this.mono ?_;rintro e w' ⟨r,V',D',H',m',rfl,_,_,_,_,hf,_,_,_,_,_,rfl,rfl⟩;exact⟨rfl,hf.os,hf.tape,hf.output,hf.size,fun b hb=>(hf.same b hb (by simp [aW])).1⟩
theorem own:ownKnob Tryz.prog.godebug=none:=by kernel_rfl
def xY:List (String×DataW Unit):=Rows.parseProgramRow.laid
theorem g1 (W:World) (h:W.ShapedOpen Tryz.prog):∃k,W.cell? ⟨1,0,none⟩=some (.int .i64 k):=
 cell_of_shapedOpen_int (P:=Tryz.prog) (g:=1) (t:=3) (zero:= #[.int .i64 0]) h (of_decide_eq_true (by kernel_rfl)) (by kernel_rfl) rfl (by kernel_rfl) (by kernel_rfl) (by kernel_rfl)
theorem Xc {W:World} {rest:List (String×DataW Unit)} (h:laidMet Tryz.prog (("armature/ast.operators",Rows.laid_armature_ast_operators)::rest) W):
  ∃ad c,Rd ⟨W,ku W⟩ (.pointer (some ⟨0,0,none⟩)) [.slice (some ad) 19 c]/\19<=c/\aM ⟨W,ku W⟩ (some ad) 19 1 (strs opsL):=by
 obtain⟨ps,⟨g',t',cs,fuel,p,q,gw,HH,hvar,hd,_,_⟩,_⟩:=h;obtain rfl:=Option.some.inj ((show Tryz.prog.globalNamed "armature/ast.operators" =some 0 by kernel_rfl).symm.trans gw);obtain rfl:=Option.some.inj ((show(Tryz.prog.globals[0]?).map (·.type)=some 55 by kernel_rfl).symm.trans HH);have hl:(Rows.laid_armature_ast_operators:DataW Unit)= .slice (opsL.map fun l=> .lit (.string l)) []:=rfl;rw[hl] at hd;obtain⟨a,cap,gd,hcap,tu⟩:=open_row (P:=Tryz.prog) (e:=9) (by kernel_rfl) (by kernel_rfl) hd;have hlen:(opsL.map fun l=>(DataW.lit (.string l):DataW Unit)).length=19:=rfl;rw[hlen] at gd hcap;have jj:W.cell? ⟨0,0,none⟩=some (.slice (some a) 19 cap):=by
  have:=World.var?_cell gw hvar 0;rw[Array.eq_one_of_toList gd] at this;simpa using this
 have kr:∀i (hi:i<19),W.cell? (a.add i)=some (.string (bs (opsL[i]'hi))):=fun i hi=>by
  obtain⟨v,n,q',hc,hr⟩:=tu i (.lit (.string (opsL[i]'hi))) (by rw[List.getElem?_map,List.getElem?_eq_getElem (by exact hi)];rfl);obtain⟨s,e1,e2,_⟩:=DataW.trod_string (show Tryz.prog.underlying 9=some .string by kernel_rfl) hr;have e3:v= .string s:=by simpa using e1
  have e4:s.data.toList=opsL[i]'hi:=by simpa using(congrArg Prod.fst e2).symm
  rw[hc,e3,<- e4];rfl
 have NR:a.spot=none:=by
  have:=(Ft (kr 0 (by decide))).1;simpa [Addr.add] using this
 refine⟨a,cap,⟨⟨0,0,none⟩,rfl,rfl,fun j hj=> ?_⟩,hcap,rfl,fun _=>⟨a,rfl,NR,fun j hj=> ?_⟩⟩
 ·have:j=0:=by simpa using hj
  subst this;exact⟨jj,(Ft jj).2⟩
 ·have hj:j<19:=by omega
  have h1:=kr j hj;obtain⟨p1,p2,_⟩:=oc a j NR;have h2:=(Ft h1).2;rw[p1,p2] at h2;refine⟨?_,h2⟩;rw[strs,List.getElem?_map,List.getElem?_eq_getElem (by exact hj)];exact h1
theorem VL {W:World} (hL:laidMetH Tryz.prog xY W) (hs:W.ShapedOpen Tryz.prog):Glob ⟨W,ku W⟩:=by
 rw[MakeChecks.laidMetH_plain _ _ _ (by kernel_rfl)] at hL;have h3:=hL.tail.tail;have ht:=Lib.tabIs_of_head (P:=Tryz.prog) (zs:=Lib.pow10Tab) (g:=6) (t:=250) (e:=217) (n:=20) (by kernel_rfl) (by kernel_rfl) (by kernel_rfl) (by kernel_rfl) (by kernel_rfl) (by kernel_rfl) h3;obtain⟨k,hk⟩:=g1 W hs;exact⟨fun w D hle=>⟨⟨k,CI hle hk⟩,MG hle ht⟩,Xc h3.tail.tail.tail.tail⟩
end Go.Proofs.YtimddhkipjedcaaGreatDoor.E
namespace Go.Proofs.YtimddhkipjedcaaGreatDoor.E
open Go Go.RowKit
def gZ (a b:List UInt8):Bool:=decide ((b.length:Int)<=a.length)&&decide (a.take b.length=b)
theorem FM (l:List (List UInt8)) (s:List UInt8) (a:Option Addr) (n c:Nat) (m:Mem) (h:aM m a n 1 (strs l)) (hn:n<=4611686018427387904):
  FnH Tryz.prog 178 [.v (.slice a n c),.v (.string (bs s))] ⟨[],[]⟩ m fun r H' _=>r= .v (.bool (l.contains s))/\H' =⟨[],[]⟩:=by
 have hl:l.length=n:=by have:=h.1;simpa [strs] using this
 refine aH mQ Tryz.func178 ?_
 ·simp only[go_sem];refine cK mQ (fun k:Nat=>⟨[⟨0,[],.v (.slice a n c)⟩,⟨1,[],.v (.string (bs s))⟩,⟨5,[],.v (.int .i64 k)⟩],[],[],[],0,m⟩)
   (fun k=>k<=n/\(l.take k).contains s=false) (fun k=>n - k) 0 (fun _ _=>aq _) (fun _ _=> .inl rfl) ?_ ?_ ?_
  ·simp only[go_sem];rfl
  ·simp
  ·rintro k ⟨hk,hp⟩;simp only[go_sem];refine⟨fun ao=> ?_,fun cA=> ?_⟩
   ·have HT:k<n:=by omega
    obtain⟨hx,hr,cY⟩:=CU h HT;refine⟨⟨by omega,ao,cY⟩,_,by simpa using hr,?_⟩;have bV:k<l.length:=by omega
    have e:(strs l)[k]= .string (bs l[k]):=by simp [strs]
    have ec:=Kx (s:=s) bV;simp only[e];simp only[go_sem];refine⟨fun he=> ?_,fun he=>⟨by unfold ax;omega,k+1,by omega,⟨by omega,?_⟩,by omega⟩⟩
    ·have:s∈l:=by rw[<- he];exact List.getElem_mem bV
     simp [this]
    ·rw[ec,hp];simp;exact fun h=>he h.symm
   ·have:l.take k=l:=fH (by omega);rw[<- hp,this]
theorem Iz (m:Mem):FnH Tryz.prog 179 [] ⟨[],[]⟩ m fun r H' m' =>r= .vec 0 0/\H' =⟨[],[⟨0,0,9,1,28,strs fb⟩]⟩/\m' =m:=by
 refine aH aw Tryz.func179 ?_
 ·simp only[go_sem];rfl
theorem Qe (m:Mem):FnH Tryz.prog 181 [] ⟨[],[]⟩ m fun r H' m' =>r= .vec 0 0/\H' =⟨[],[⟨0,0,9,1,30,strs eQ⟩]⟩/\m' =m:=by
 refine aH aw Tryz.func181 ?_
 ·simp only[go_sem];rfl
theorem xd (s:List UInt8) (m:Mem) (hs:BL s):FnH Tryz.prog 107 [.v (.string (bs s))] ⟨[],[]⟩ m fun r H' _=>r= .v (.bool (dz s))/\H' =⟨[],[]⟩:=by
 refine aH Hw Tryz.func107 ?_
 ·simp only[go_sem];refine⟨hs,fun h=>by simp [dz,h],fun h=>⟨hs,⟨by omega,by have:=JM h;omega⟩,?_⟩⟩;rw[dz,h,Bool.true_and];have e1:∀n:Nat,decide ((65:Int)<=n)=decide (65<=n):=fun n=>by rw[decide_eq_decide];omega
  have e2:∀n:Nat,decide ((n:Int)<=90)=decide (n<=90):=fun n=>by rw[decide_eq_decide];omega
  rw[e1,e2]
theorem Rr (l:List UInt8):gZ l []=true:=by simp [gZ]
theorem IY (x:UInt8) (o:List UInt8):gZ [] (x::o)=false:=by simp [gZ]
theorem IZ (y x:UInt8) (l o:List UInt8):gZ (y::l) (x::o)=(decide (y=x)&&gZ l o):=by
 unfold gZ;simp only[cC,List.take_succ_cons,List.cons.injEq];have e:decide (((o.length+1:Nat):Int)<=((l.length+1:Nat):Int))=decide ((o.length:Int)<=l.length):=by rw[decide_eq_decide];omega
 rw[e,Bool.decide_and];cases decide (y=x)<;>simp
theorem aey (l:List UInt8) (h:gZ l [58,58]=true):∃r,l=58::58::r:=by
 cases l with
 |nil=>rw[IY] at h;cases h
 |cons a l=>
  rw[IZ] at h;cases l with
  |nil=>rw[IY] at h;simp at h
  |cons b l=>
   rw[IZ,Rr] at h;simp only[Bool.and_true,cO,gA] at h;exact⟨l,by rw[h.1,h.2]⟩
def spell:List UInt8->List UInt8
 |[]=>[]
 |c::r=>if c.toNat=47 then 58::58::spell r else c::spell r
end Go.Proofs.YtimddhkipjedcaaGreatDoor.E

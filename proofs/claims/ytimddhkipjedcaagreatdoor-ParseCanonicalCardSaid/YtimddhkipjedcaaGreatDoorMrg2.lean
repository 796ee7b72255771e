/- Several texts in one: EngQ, EngR, EngS, EngT, EngU, EngV, EngW, EngX, EngY, EngZ, Shelf, AstL, AstCard. -/
import Derived.Laws.MakeOwn
import Derived.Deep.LoopGhost
import Derived.Deep.Quiet
import Derived.ScopeJumps
import Derived.Shelf.Strings.Builder1
import Derived.Shelf.Strings.Builder2
import Derived.Shelf.Small.Strs
import Derived.Shelf.Strings.BuilderF
import Derived.Shelf.Strings.BuilderK
import Derived.Shelf.Utf8.RuneCount
import Derived.Shelf.Strings.Builder2Cap
import Derived.Shelf.Strconv.Itoa0
import Derived.Shelf.Strconv.Itoa1
import Derived.Shelf.LaysM
import Derived.Shelf.Strconv.Itoa2
import Derived.Shelf.Strconv.Itoa3
import Derived.Shelf.Strconv.ParseIntEmpty
import Derived.Shelf.Strconv.Clone
import Derived.Shelf.Strconv.SyntaxError
import Derived.Shelf.Strconv.Lower
import Derived.Shelf.Strconv.ParseUint10
import Derived.Shelf.Strconv.ParseUint10Empty
import Derived.Shelf.Strconv.RangeError
import Derived.Shelf.Strconv.ParseUintEmpty
import Derived.Shelf.Strconv.ParseUint10b64
import Derived.Shelf.Strconv.ParseUint10b32
import Derived.Shelf.Strconv.ParseUint10b16
import Derived.Shelf.Strconv.ParseUint10b8
import Derived.Shelf.Strings.Search1
import Derived.Shelf.Strings.Search2
import Derived.Shelf.Strings.Search3
import Derived.Shelf.Strings.Count
import Derived.Shelf.Strings.Shaped
import Derived.Shelf.Strings.LastIndex
import Derived.Shelf.Strings.Prefix
import Derived.Shelf.Strings.Split
import Derived.Shelf.Strings.Replace
import Derived.Shelf.Strings.SplitShaped
import Derived.Shelf.Unicode.Decode
import Derived.Shelf.Strings.RuneCount
import Derived.Shelf.Unicode.DecodeSlow
import Derived.Shelf.Unicode.DecodeAny
import Derived.Shelf.Strings.BuilderCap
import Derived.Shelf.Slices.Turned
import Derived.Ground.PaProg
import Derived.Shelf.Path.Small
import Derived.Test.YtimddhkipjedcaaGreatDoorProg
import Derived.Lib.Join
import Derived.Test.YtimddhkipjedcaaGreatDoorRows
import Derived.Test.YtimddhkipjedcaaGreatDoorCards
import Derived.Test.YtimddhkipjedcaaGreatDoorTie
import Derived.ProofKit
import Derived.OpenShut
import Derived.LaidMore
import Derived.Lay
import Derived.SevenTiedAt
import Derived.Stop.Joined
import Derived.Stop.LaidErr
import Derived.Lib.LaidTab
import Derived.Shelf.Vars
import Derived.Deep.Slices
import Derived.Deep.DeepHandedRow
import Derived.Carry
import Derived.Test.YtimddhkipjedcaaGreatDoorMrg1
set_option linter.unusedSimpArgs false
set_option linter.unusedVariables false
set_option maxHeartbeats 4000000
set_option maxRecDepth 20000
namespace Go.Proofs.YtimddhkipjedcaaGreatDoor.E
open Go
section
variable {C:Ctx} {n:Nat} {st:LS} {a:Act} {V:Vl} {D:Nat->Nat} {w:World} {P:Program} {p:bV} {c:Cfg}
theorem ug:∀(l:List SV) (K:List SV->LS->Prop) (m:Mem) (D:Nat->Nat),Ci l K ⟨st.env,st.rho,st.bx,st.vc,st.nid,m⟩->SatW C st.bx st.vc st.nid m V D w->
  ∃l' m1 D1,K l' ⟨st.env,st.rho,st.bx,st.vc,st.nid,m1⟩/\SatW C st.bx st.vc st.nid m1 V D1 w/\l'.map (den V)=l.map (den V)
 |[],K,m,D,h,hW=>⟨[],m,D,h,hW,rfl⟩
 |s::r,K,m,D,h,hW=>by
  cases s with
  |agg cs=>
   obtain⟨dH,m1,D1,e1,e2,e3,_⟩:=qU (st:=st) cs _ m D h hW;obtain⟨l',m2,D2,f1,f2,f3⟩:=ug r _ m1 D1 e1 e2;exact⟨_,m2,D2,f1,f2,by simp only[bN,f3,Jq,e3]⟩
  |vec k u=>
   simp only[Ci,oB] at h;obtain⟨b,hb,h⟩:=aO h;obtain⟨ad,cp,m1,D',h1,h2,h3,h4,h5⟩:=SatW.pub (st:=⟨st.env,st.rho,st.bx,st.vc,st.nid,m⟩) hW hb;obtain⟨l',m2,D2,f1,f2,f3⟩:=ug r _ m1 D' (h ad cp m1 h1 h2 h3) h5;refine⟨_,m2,D2,f1,f2,?_⟩;simp only[bN,dW,List.nil_append,f3];congr 1
   exact h4.symm
  |v x=>
   obtain⟨l',m2,D2,f1,f2,f3⟩:=ug r _ m D h hW;exact⟨_,m2,D2,f1,f2,by simp only[bN,dW,List.nil_append,f3]⟩
  |box k o=>
   obtain⟨l',m2,D2,f1,f2,f3⟩:=ug r _ m D h hW;exact⟨_,m2,D2,f1,f2,by simp only[bN,dW,List.nil_append,f3]⟩
  |vp k u o=>
   obtain⟨l',m2,D2,f1,f2,f3⟩:=ug r _ m D h hW;exact⟨_,m2,D2,f1,f2,by simp only[bN,dW,List.nil_append,f3]⟩
  |mp k=>
   obtain⟨l',m2,D2,f1,f2,f3⟩:=ug r _ m D h hW;exact⟨_,m2,D2,f1,f2,by simp only[bN,dW,List.nil_append,f3]⟩
  |mv f k o=>
   obtain⟨l',m2,D2,f1,f2,f3⟩:=ug r _ m D h hW;exact⟨_,m2,D2,f1,f2,by simp only[bN,dW,List.nil_append,f3]⟩
  |tup l0=>
   obtain⟨l',m2,D2,f1,f2,f3⟩:=ug r _ m D h hW;exact⟨_,m2,D2,f1,f2,by simp only[bN,dW,List.nil_append,f3]⟩
theorem A2 (hS:Sat C n st a V D w) (hp:gq st.rho p) (hc:cF st.rho p=true):∀{l:List Operand} {ss:List SV},uQ st p l=some ss->l.map a.eval=ss.map (den V)
 |[],ss,h=>by simp only[uQ,dT] at h;subst h;rfl
 |x::r,ss,h=>by
  simp only[uQ,Option.bind_eq_some_iff,Option.map_eq_some_iff] at h;obtain⟨s,hs,ss',hr,rfl⟩:=h;simp only[bN,dJ hS hp hc hs,A2 hS hp hc hr]
theorem ID {o:Oper} {fo:Operand} {args:Array Operand} {ts:Array TypeId} {f:FuncId} (ho:o.op= .call {callee:= .value fo,args,argTypes:=ts}) (hf:a.eval fo= .func (.func f) #[] #[]) (ar:iY P f=true):
  (execOp a.eval o).run P w= .ok (.enter f (args.map a.eval)) w:=by
 unfold iY at ar;split at ar
 ·rename_i fn fU;simp only[aD,Bool.not_eq_true'] at ar;have hb:fn.body.isNone=false:=by cases h:fn.body<;>simp_all
  simp only[execOp,ho,resolve,hf,Deferred.ofValue,Sem.run_bind,Sem.run_pure,Result.andThen_ok,invoke,callFunc,run_program,fU,ar.1,hb,Bool.false_eq_true,if_false];simp
 ·cases ar
theorem X8 {o:Oper} {fo:Operand} {args:Array Operand} {ts:Array TypeId} {f:FuncId} {x:Value} (ho:o.op= .call {callee:= .value fo,args,argTypes:=ts}) (hf:a.eval fo= .func (.func f) #[x] #[]) (ar:iY P f=true):
  (execOp a.eval o).run P w= .ok (.enter f (#[x]++args.map a.eval)) w:=by
 unfold iY at ar;split at ar
 ·rename_i fn fU;simp only[aD,Bool.not_eq_true'] at ar;have hb:fn.body.isNone=false:=by cases h:fn.body<;>simp_all
  simp only[execOp,ho,resolve,hf,Deferred.ofValue,Sem.run_bind,Sem.run_pure,Result.andThen_ok,invoke,callFunc,run_program,fU,ar.1,hb,Bool.false_eq_true,if_false];simp
 ·cases ar
theorem M5 (hS:Sat C n st a V D w) {f:FuncId} {ss:List SV} {K:SV->LS->Prop} {R:Ending->World->Prop} (h:CD (.mk (k:=(P,f,K)) (st,ss)))
  (hn:∀s ak V' D' w',K s ak->ak.rho=st.rho->Sat C n ak a V' D' w' ->Step st.nid st.vc ak.nid ak.vc V V' ->R (.returned (den V' s)) w'):Calls P f ⟨ss.map (den V)⟩ w R:=by
 simp only[CD,Kn] at h;obtain⟨gH,h⟩:=h;simp only[G8,FnH] at h;have hW:=hS.w;have aj7:HSat (lA (ur st.bx (oK [] ss)) V) D w (gF st (ur st.bx (oK [] ss))):=(D3 _ hW.heap).app.1.into gH.2.2.2;have:=h (lA (ur st.bx (oK [] ss)) V) w D hW.wf hW.mle aj7;rw[Qn gH.2.2.1] at this;refine this.mono fun e w2 ⟨r,V2,D2,H',m',he,h1,h2,h3,h4,h5,h6,h7,h8,h9,hback,hK⟩=> ?_
 obtain⟨V3,a1,a2,a3,a4⟩:=hW.call (r:=r) ⟨gH.1,gH.2.1,trivial,gH.2.2.2⟩ hback h1 h2 h3 h4 h5 h6 h7 h8 h9;subst he;rw[<- a2];exact hn _ _ V3 D2 w2 hK rfl (hS.to a1 (Nat.le_add_right _ _) a4 a3) ⟨a1,Nat.le_add_right _ _,a4⟩
theorem M4 (hS:Sat C n st a V D w) {f:FuncId} {ss:List SV} {b:Bool} {K:SV->LS->Prop} {R:Ending->World->Prop} (h:CC (.mk (k:=(P,f,st,ss,K)) b))
  (hn:∀s ak V' D' w',K s ak->ak.rho=st.rho->Sat C n ak a V' D' w' ->Step st.nid st.vc ak.nid ak.vc V V' ->R (.returned (den V' s)) w'):Calls P f ⟨ss.map (den V)⟩ w R:=by
 cases b with
 |true=>exact M5 hS h hn
 |false=>
  obtain⟨l',m1,D1,e1,e2,e3⟩:=ug (st:=st) ss _ st.m D h hS.w;rw[<- e3];exact M5 (st:=⟨st.env,st.rho,st.bx,st.vc,st.nid,m1⟩) ⟨hS.f,hS.ids,e2⟩ e1 hn
theorem MO (hS:Sat C n st a V D w) {tx:TypeId} {sz:Nat} {y:SV} {K:Nat->List Value->Prop} (eD:0<sz) (h:vS (.mk (k:=(P,tx,sz,K)) (st,y))):∃m news,K m news/\Src P sz tx (den V y) m news w:=by
 unfold vS at h;split at h
 ·rename_i ak k u q;simp only[A.mk.injEq,Prod.mk.injEq] at q;obtain⟨rfl,rfl⟩:=q;obtain⟨e,he,h⟩:=aO h;obtain⟨b,hb,rfl,hK⟩:=aO h;refine⟨_,_,hK,?_⟩;obtain⟨hv,rfl,rfl⟩:=xJ hS hb;obtain⟨hn,hl,hx⟩:=xC hv.1;show Src P b.sz tx (Hd.val _) b.n b.xs w;rcases Nat.eq_zero_or_pos b.n with h0 |h0
  ·have nT:b.xs=[]:=List.eq_nil_of_length_eq_zero (by rw[hl,h0,Nat.zero_mul]);unfold Hd.val;rw[hn,h0,nT];cases ha:(V.γ b.id b.ver).a with
   |none=>exact Src.ofNil w (og he) _
   |some ad=>exact Src.ofSlice w (og he) ad 0 _ [] (by simp) (fun j u hu=>by simp at hu) (fun u hu=>by cases hu)
  ·obtain⟨g,hg,hc⟩:=hx h0;unfold Hd.val;rw[hn,hg];exact Src.ofSlice w (og he) ⟨g,0,none⟩ b.n _ b.xs hl (fun j u hu=>by rw[DT];exact hc j u hu) hv.2.2.2
 ·rename_i ak x m cp q;simp only[A.mk.injEq,Prod.mk.injEq] at q;obtain⟨rfl,rfl⟩:=q;obtain⟨e,he,xs,h1,h2,hK⟩:=aO h;refine⟨_,_,hK,?_⟩;show Src P sz tx (.slice x m cp) m xs w;rcases Nat.eq_zero_or_pos m with h0 |h0
  ·subst h0;have nT:xs=[]:=List.eq_nil_of_length_eq_zero (by rw[h1.1,Nat.zero_mul]);subst nT;cases x with
   |none=>exact Src.ofNil w (og he) _
   |some ad=>exact Src.ofSlice w (og he) ad 0 _ [] (by simp) (fun j u hu=>by simp at hu) (fun u hu=>by cases hu)
  ·obtain⟨ad,rfl,hc⟩:=S6 hS.mle h1 h0;exact Src.ofSlice w (og he) ad m _ xs h1.1 hc h2
 ·rename_i ak s q;simp only[A.mk.injEq,Prod.mk.injEq] at q;obtain⟨rfl,rfl⟩:=q;obtain⟨h1,rfl,hK⟩:=h;refine⟨_,_,hK,?_⟩;rw[zK];exact Src.ofString w h1 s
 ·cases h
theorem R4 {b:Vc} {n:Nat} {xs:List Value}:(nN b n xs).id=b.id/\(nN b n xs).ver=b.ver+1:=by cases b;exact⟨rfl,rfl⟩
theorem Xu (hS:Sat C n st a V D w) {t tx e ty:TypeId} {s y:SV} {K:SV->LS->Prop} (he:iP P t=some e) (h:An (.mk (k:=(P,e,tx,y,K)) (st,s))):
  ∃r ak V' D' w',(Builtin.append_ #[t,tx] ty #[den V s,den V y]).run P w= .ok (den V' r) w' /\K r ak/\ak.rho=st.rho/\Sat C n ak a V' D' w' /\Step st.nid st.vc ak.nid ak.vc V V' :=by
 unfold An at h;split at h
 ·rename_i ak k u q;simp only[A.mk.injEq,Prod.mk.injEq] at q;obtain⟨rfl,rfl⟩:=q;obtain⟨b,hb,h1,h2,h3,h⟩:=aO h;obtain⟨z,hz,h4,h⟩:=aO h;obtain⟨m,news,⟨ll,hK⟩,hsrc⟩:=MO hS h3 h;obtain⟨i,hi,hisz,hiby⟩:=Jj h3;obtain⟨zv,hzv,yq⟩:=Qz hi hz;obtain⟨hv,wV,hbv⟩:=xJ hS hb;have ej:=hv.1;rw[wV,hbv,h1,h2,<- hisz] at ej;rw[<- hisz] at hsrc;obtain⟨h',w',dE,hown',hcase⟩:=Nl (ty:=ty) (og he) hi hzv (by rw[yq,h4,hisz]) ej hsrc (by rw[hiby];exact ll);have yz:=hv.2.2;have qv:∀y' ∈b.xs++news,y'.oneCell' =true:=fun y' hy=>(List.mem_append.1 hy).elim (yz.2 y') (hsrc.one y')
  have hU:=hS.w.updVc (w' :=w') (n:=b.n+m) (hd:=h') (xs:=b.xs++news) hb (Nat.mul_le_mul_right _ (Nat.le_add_right _ _))
   (by rcases hcase with ⟨rfl,_⟩ |⟨g,cur,nX,_,_,_,rfl,_⟩ |⟨cc,_,rfl⟩<;>rfl)
   (by rcases hcase with ⟨rfl,_⟩ |⟨g,cur,nX,_,_,_,rfl,_⟩ |⟨cc,_,rfl⟩<;>rfl)
   (by rcases hcase with ⟨rfl,_⟩ |⟨g,cur,nX,_,_,_,rfl,_⟩ |⟨cc,_,rfl⟩<;>rfl)
   (by rcases hcase with ⟨rfl,_⟩ |⟨g,cur,nX,_,_,_,rfl,_⟩ |⟨cc,_,rfl⟩<;>simp)
   (fun x hx cQ=>by
    rcases hcase with ⟨rfl,_⟩ |⟨g,cur,nX,_,hg,_,rfl,_⟩ |⟨cc,_,rfl⟩
    ·rfl
    ·exact setRow_other w g x _ (fun e=>cQ (e▸hg))
    ·exact yO w.drew _ x hx)
   (fun x hx=>by
    rcases hcase with ⟨rfl,_⟩ |⟨g,cur,nX,_,hg,hcur,rfl,hsame⟩ |⟨cc,_,rfl⟩
    ·exact ub rfl
    ·rw[hg] at hx;obtain rfl:g=x:=Option.some.inj hx;rw[hcur,setRow_heap w g cur _ e _ hcur];exact⟨_,_,_,rfl,fun j hj=>hsame j (by rw[hisz,<- h1];exact hj)⟩
    ·exact ub (yO w.drew _ x (Ja ej hx).2))
   (by rw[h1,h2,<- hisz];exact hown')
   (fun x hx=>by
    rcases hcase with ⟨rfl,rfl⟩ |⟨g,cur,nX,iN,hg,_,rfl,_⟩ |⟨cc,iN,rfl⟩
    ·exact .inl hx
    ·rw[iN] at hx;cases hx;exact .inl hg
    ·rw[iN] at hx;cases hx;exact .inr (au _))
   qv
  obtain⟨V',ha,hγ,hW⟩:=hU;have UK:∀k' u',k' <st.nid->cD st.vc k' u' ->cD (pG st.vc k (nN b (b.n+m) (b.xs++news))) k' u' :=fun k' u' _=>M7 hb (by rw[R4.1];exact wV) (by rw[R4.2,hbv];exact Nat.le_succ _) k' u'
  refine⟨_,_,V',D,w',?_,hK,rfl,hS.to ha (au _) UK hW,⟨ha,au _,UK⟩⟩;rw[show den V' (.vec k (u+1))=h'.val from by show Hd.val _=_;rw[hγ]];exact dE
 ·rename_i ak q;simp only[A.mk.injEq,Prod.mk.injEq] at q;obtain⟨rfl,rfl⟩:=q;obtain⟨h3,h⟩:=h;obtain⟨z,hz,h4,h⟩:=aO h;obtain⟨m,news,⟨ll,hK⟩,hsrc⟩:=MO hS h3 h;obtain⟨i,hi,hisz,hiby⟩:=Jj h3;obtain⟨zv,hzv,yq⟩:=Qz hi hz;rw[<- hisz] at hsrc;have ej:w.ownsRow 0 e i.size (Hd.val ⟨none,0,0⟩) 0 []:=World.ownsRow_nil w 0 e i.size;obtain⟨h',w',dE,hown',hcase⟩:=Nl (ty:=ty) (og he) hi hzv (by rw[yq,h4,hisz]) ej hsrc (by rw[hiby,Nat.zero_add];exact ll);rw[Nat.zero_add,List.nil_append,hisz] at hown';obtain⟨V',ha,hγ,hW⟩:=hS.w.addVc (w' :=w') (hd:=h')
   (by rcases hcase with ⟨rfl,_⟩ |⟨g,cur,nX,_,_,_,rfl,_⟩ |⟨cc,_,rfl⟩<;>rfl)
   (by rcases hcase with ⟨rfl,_⟩ |⟨g,cur,nX,_,_,_,rfl,_⟩ |⟨cc,_,rfl⟩<;>rfl)
   (by rcases hcase with ⟨rfl,_⟩ |⟨g,cur,nX,_,_,_,rfl,_⟩ |⟨cc,_,rfl⟩<;>rfl)
   (by rcases hcase with ⟨rfl,_⟩ |⟨g,cur,nX,_,_,_,rfl,_⟩ |⟨cc,_,rfl⟩<;>simp)
   (fun x hx=>by
    rcases hcase with ⟨rfl,_⟩ |⟨g,cur,nX,_,hg,_,rfl,_⟩ |⟨cc,_,rfl⟩
    ·rfl
    ·cases hg
    ·exact yO w.drew _ x hx)
   hown'
   (fun x hx=>by
    rcases hcase with ⟨rfl,rfl⟩ |⟨g,cur,nX,iN,hg,_,rfl,_⟩ |⟨cc,iN,rfl⟩
    ·cases hx
    ·cases hg
    ·rw[iN] at hx;cases hx;exact au _)
   h3 hsrc.one
  refine⟨_,_,V',D,w',?_,hK,rfl,hS.to ha (Nat.le_succ _) (fun k u hk hv=>ud rfl k u hk hv) hW,⟨ha,Nat.le_succ _,fun k u hk hv=>ud rfl k u hk hv⟩⟩;rw[show den V' (.vec st.nid 0)=h'.val from by show Hd.val _=_;rw[hγ]];exact dE
 ·cases h
end
theorem Nr (z:List Value) (h:0<z.length):∀len:Nat,(List.range (len * z.length)).map (fun i=>z[i % z.length]!)=(List.replicate len z).flatten
 |0=>by simp
 |len+1=>by
  rw[Nat.succ_mul,List.range_add,List.map_append,Nr z h len,List.replicate_succ',List.flatten_append];congr 1
  simp only[List.map_map,List.flatten_cons,List.flatten_nil,List.append_nil];apply List.ext_getElem?
  intro j;simp only[List.getElem?_map,Function.comp];rcases Nat.lt_or_ge j z.length with hj |hj
  ·rw[List.getElem?_range hj,List.getElem?_eq_getElem hj];simp only[Option.map_some,dT,Function.comp];rw[Nat.add_comm,Nat.add_mul_mod_self_right,Nat.mod_eq_of_lt hj];simp [List.getElem!_eq_getElem?_getD,List.getElem?_eq_getElem hj]
  ·rw[List.getElem?_eq_none (by simpa using hj),List.getElem?_eq_none hj];rfl
theorem Ok (z:List Value) (len:Nat) (h:0<z.length):(Array.range (len * z.length)).map (fun i=>(⟨z⟩:Array Value)[i % (⟨z⟩:Array Value).size]!)=⟨(List.replicate len z).flatten⟩:=by
 apply Array.ext'
 rw[<- Nr z h len];simp
theorem aax {α β:Type} (f:α->β) (z:List α) (len:Nat):((List.replicate len z).flatten).map f=(List.replicate len (z.map f)).flatten:=by
 induction len with
 |zero=>rfl
 |succ k ih=>simp only[List.replicate_succ,List.flatten_cons,List.map_append,ih]
theorem IU (z:List Value) (len:Nat):((List.replicate len z).flatten).length=len * z.length:=by
 induction len with
 |zero=>simp
 |succ k ih=>simp only[List.replicate_succ,List.flatten_cons,aI,ih,Nat.succ_mul];omega
theorem YH (z:List Value) {l c:Nat} (h:l<=c):((List.replicate c z).flatten).take (l * z.length)=(List.replicate l z).flatten:=by
 obtain⟨d,rfl⟩:=Nat.exists_eq_add_of_le h;rw[<- List.replicate_append_replicate,List.flatten_append,<- IU z l];exact List.take_left
theorem aaw {z:List Value} {len:Nat} {u:Value} (h:u∈(List.replicate len z).flatten):u∈z:=by
 obtain⟨l,hl,hu⟩:=List.mem_flatten.1 h;rw[List.mem_replicate] at hl;exact hl.2▸hu
theorem PF {nid:Nat} {vc:List Vc} {c:SV} (hc:lS nid vc c):∀(cs:List SV) (off:Nat),fO nid vc cs->fO nid vc (cs.set off c)
 |[],_,h=>h
 |_::_,0,h=>⟨hc,h.2⟩
 |_::cs,off+1,h=>⟨h.1,PF hc cs off h.2⟩
theorem PE {nid:Nat} {vc:List Vc}:∀(l cs:List SV) (off:Nat),fO nid vc l->fO nid vc cs->fO nid vc (lu cs off l)
 |[],_,_,_,h=>h
 |_::r,_,_,hl,h=>PE r _ _ hl.2 (PF hl.1 _ _ h)
section
variable {C:Ctx} {n:Nat} {st:LS} {a:Act} {V:Vl} {D:Nat->Nat} {w:World} {P:Program} {p:bV} {c:Cfg}
theorem Pv {sz:Nat} {st:LS} {p:bV} {z:List SV} (hz:z.length=sz):∀(l:List (Nat×Operand)) (i k:Nat) (pre cs:List SV),uD sz st p i l=some cs->pre.length=i * sz->cs.length=k * sz->0<sz->
  pq sz st p l (pre++(List.replicate k z).flatten)=some (pre++cs)
 |[],i,k,pre,cs,h,hp,hk,h0=>by
  simp only[uD,dT] at h;subst h;have:k=0:=by
   rcases Nat.eq_zero_or_pos k with h |h
   ·exact h
   ·have:=Nat.mul_pos h h0;simp only[bh] at hk;omega
  subst this;simp [pq]
 |(j,x)::r,i,k,pre,cs,h,hp,hk,h0=>by
  simp only[uD] at h;split at h
  ·rename_i e;subst e;simp only[Option.bind_eq_some_iff] at h;obtain⟨l,hl,h⟩:=h;split at h
   ·rename_i Dn;obtain⟨dH,gX,rfl⟩:=Option.map_eq_some_iff.1 h;have tS:0<k:=by
     rcases Nat.eq_zero_or_pos k with h |h
     ·subst h;simp only[aI,Nat.zero_mul] at hk;omega
     ·exact h
    obtain⟨k',rfl⟩:∃k',k=k' +1:=⟨k - 1,by omega⟩;have la:(List.replicate (k' +1) z).flatten=z++(List.replicate k' z).flatten:=by rw[List.replicate_succ,List.flatten_cons]
    have fm:dH.length=k' * sz:=by
     rw[Nat.add_mul] at hk;simp only[aI,Dn] at hk;omega
    simp only[pq];have hb:((cU st p x).bind lI)=some l:=by simpa [Option.bind_eq_some_iff] using hl
    rw[hb];simp only[Option.bind_some];rw[ah Dn,ah (by rw[aI,hp,la,aI,hz];omega)];rw[la,I8 _ _ _ (by rw[aI,hp,aI,hz,Dn];omega)];have e1:(pre++(z++(List.replicate k' z).flatten)).take (j * sz)=pre:=by rw[<- hp];exact List.take_left' rfl
    have e2:(pre++(z++(List.replicate k' z).flatten)).drop (j * sz+l.length)=(List.replicate k' z).flatten:=by
     rw[<- List.append_assoc];exact List.drop_left' (by rw[aI,hp,hz,Dn])
    rw[e1,e2,Pv hz r (j+1) k' (pre++l) dH gX (by rw[aI,hp,Dn,Nat.add_mul];omega) fm h0,List.append_assoc]
   ·cases h
  ·cases h
theorem Z1 {sz len:Nat} {st:LS} {p:bV} {z:List SV} {parts:List (Nat×Operand)} {cs:List SV} (hz:z.length=sz) (h0:0<sz) (h:BZ sz st p parts len z (uD sz st p 0 parts)=some cs):pq sz st p parts (List.replicate len z).flatten=some cs:=by
 cases hs:uD sz st p 0 parts with
 |none=>rw[hs] at h;exact h
 |some dH=>
  rw[hs] at h;simp only[BZ] at h;split at h
  ·rename_i hl;cases h;have:=Pv hz parts 0 len [] _ hs (by simp) hl h0;simpa using this
  ·exact h
theorem MI (hS:Sat C n st a V D w) (hp:gq st.rho p) (hc:cF st.rho p=true) {sz:Nat}:
  ∀(parts:List (Nat×Operand)) (cs dH:List SV),pq sz st p parts cs=some dH->
   Instr.fill (fun i=>some (i * sz,sz)) ⟨cs.map (bK V)⟩ (parts.map fun x=>(x.1,a.eval x.2))=some ⟨dH.map (bK V)⟩/\dH.length=cs.length
 |[],cs,dH,h=>by simp only[pq,dT] at h;subst h;exact⟨rfl,rfl⟩
 |(i,x)::r,cs,dH,h=>by
  simp only[pq] at h;obtain⟨l,hl,h⟩:=vv h;obtain⟨s,hs,hl⟩:=vv hl;split at h
  ·rename_i eD;split at h
   ·rename_i uZ;have qJ:=dJ hS hp hc hs;have cH:=DU (V:=V) hl;have Cx:(a.eval x).cells.size=l.length:=by rw[qJ,cH];simp
    obtain⟨ih,ihl⟩:=MI hS hp hc r _ dH h;refine⟨?_,by rw[ihl,O8]⟩;simp only[bN,Instr.fill]
    rw[af (by
     simp only[Cx,List.size_toArray,List.length_map,Bool.or_eq_true,bt,not_or,Decidable.not_not]
     exact⟨by simpa using eD,by omega⟩)]
    have Kl:((a.eval x).cells.zipIdx.foldl (fun(cs:Array Value) (y:Value×Nat)=>cs.setIfInBounds (i * sz+y.2) y.1) ⟨cs.map (bK V)⟩)=⟨(lu cs (i * sz) l).map (bK V)⟩:=by
     rw[qJ,cH,<- Array.foldl_toList];have:=IQ (V:=V) l cs (i * sz) 0;simp only[Nat.add_zero] at this;rw[<- this];simp [Array.toList_zipIdx]
    rw[<- ih,<- Kl]
   ·cases h
  ·cases h
theorem VI (hS:Sat C n st a V D w) (hp:gq st.rho p) (hc:cF st.rho p=true) {t e:TypeId} {len:Nat} {parts:Array (Nat×Operand)} {z cs:List SV}
    (he:iP P t=some e) (hz:fB P e=some z) (tI:z.length=bX P e) (h0:0<bX P e) (u0:len * bX P e<=16777216) (h:pq (bX P e) st p parts.toList (List.replicate len z).flatten=some cs):
    (Instr.buildSlice t len (parts.map fun x=>(x.1,a.eval x.2))).run P w= .ok (.slice (some ⟨w.heap.size,0,none⟩) len len) (w.alloc (.cells ⟨cs.map (bK V)⟩ e))/\cs.length=len * bX P e:=by
  obtain⟨Ac,hlen⟩:=MI hS hp hc _ _ _ h;have TF:cs.length=len * bX P e:=by
    rw[hlen];have:((List.replicate len z).flatten).length=len * z.length:=by
      induction len with
      |zero=>simp
      |succ k _=>simp
    rw[this,tI]
  refine⟨?_,TF⟩;obtain⟨zv,hzv,hzc⟩:=HA (V:=V) (w:=w) hz;have SS:(parts.map fun x=>(x.1,a.eval x.2)).toList=parts.toList.map fun x=>(x.1,a.eval x.2):=by simp
  simp only[Instr.buildSlice,Sem.run_bind,run_underlying (og he),Result.andThen_ok,BB h0]
  rw[af (by have:(2:Nat) ^ 24=16777216:=by decide
            omega)]
  rcases Nat.eq_zero_or_pos len with hl |hl
  · subst hl
    simp only[Nat.zero_mul,Array.range_zero',List.replicate_zero,List.flatten_nil] at h Ac ⊢;have gX:cs=[]:=List.eq_nil_of_length_eq_zero (by simpa using TF);subst gX;simp only[if_true,Sem.run_pure,Result.andThen_ok,SS,Sem.run_bind];simp only[List.map_nil] at Ac;have:(#[]:Array Nat).map (fun i=>(#[]:Array Value)[i % (#[]:Array Value).size]!)= #[]:=by simp
    rw[this];rw[Ac];simp [newRow]
  · have cQ:¬len * bX P e=0:=by have:=Nat.mul_pos hl h0;omega
    rw[af cQ];simp only[Sem.run_bind,Sem.run_pure,Result.andThen_ok,hzv,hzc,SS];have agL:(Array.range (len * bX P e)).map (fun i=>(⟨z.map (bK V)⟩:Array Value)[i % (⟨z.map (bK V)⟩:Array Value).size]!)=⟨((List.replicate len z).flatten).map (bK V)⟩:=by
      have:=Ok (z.map (bK V)) len (by simp;omega);simp only[List.length_map,tI] at this;rw[this,aax]
    rw[agL,Ac];simp [newRow]
theorem vT {o:Oper} {v:Value} {w' :World} {next:Act->World->Prop} {Q:Exit->Act->World->Prop} (h:(execOp a.eval o).run P w= .ok (.value v) w') (hn:next (a.put o.dst v) w'):o.wp P a w next Q:=by
 unfold Oper.wp;rw[h];exact hn
theorem OU {o:Oper} {w' :World} {next:Act->World->Prop} {Q:Exit->Act->World->Prop} (h:(execOp a.eval o).run P w= .ok .skip w') (hn:next (a.put o.dst undef) w'):o.wp P a w next Q:=by
 unfold Oper.wp;rw[h];exact hn
theorem YD (hS:Sat C n st a V D w) (hp:gq st.rho p) (hc:cF st.rho p=true) {o:Oper} {op:Op} (ho:o.op=op) {K:SV->LS->Prop} (h:oS (.mk (k:=(c,P,op,K)) (st,p)))
  {next:Act->World->Prop} {Q:Exit->Act->World->Prop} (hn:∀s ak V' D' w',K s ak->ak.rho=st.rho->Sat C n ak a V' D' w' ->Step st.nid st.vc ak.nid ak.vc V V' ->next (a.put o.dst (den V' s)) w'):o.wp P a w next Q:=by
 unfold oS at h;split at h
 ·rename_i t ak p' q;cases q;obtain⟨cs,hz,bL,ar,hK⟩:=aO h;obtain⟨zv,hzv,hzc⟩:=HA (V:=V) (w:=w) hz;obtain⟨V',ha,hβ,hW⟩:=hS.w.addBx (t:=t) (Hz bL) ar;have dE:(Instr.alloc t true (.tuple #[])).run P w= .ok (.pointer (some ⟨w.heap.size,0,none⟩)) (w.alloc (.cells ⟨cs.map (bK V)⟩ t)):=by
   simp [Instr.alloc,hzv,newVar,newRow,hzc]
  refine vT (v:= .pointer (some ⟨w.heap.size,0,none⟩)) (by simp only[execOp,ho];exact kM dE) ?_;have:=hn _ _ V' D _ hK rfl (hS.to ha (Nat.le_succ _) (fun _ _ _ h=>h) hW) ⟨ha,Nat.le_succ _,fun _ _ _ h=>h⟩;rwa [zC,hβ] at this
 ·rename_i t x ak p' q;cases q;obtain⟨cs,gX,bL,ar,hK⟩:=aO h;obtain⟨s,hs,gX⟩:=vv gX;obtain⟨V',ha,hβ,hW⟩:=hS.w.addBx (t:=t) (Hz bL) ar;have cH:=DU (V:=V) gX;have dE:(Instr.box t (den V s)).run P w= .ok (.pointer (some ⟨w.heap.size,0,none⟩)) (w.alloc (.cells ⟨cs.map (bK V)⟩ t)):=by
   simp [Instr.box,newVar,newRow,cH]
  refine vT (v:= .pointer (some ⟨w.heap.size,0,none⟩)) (by simp only[execOp,ho,dJ hS hp hc hs];exact kM dE) ?_;have:=hn _ _ V' D _ hK rfl (hS.to ha (Nat.le_succ _) (fun _ _ _ h=>h) hW) ⟨ha,Nat.le_succ _,fun _ _ _ h=>h⟩;rwa [zC,hβ] at this
 ·rename_i t x y ak p' q;cases q;obtain⟨sx,hx,h1⟩:=aO h;obtain⟨cs,gX,h2⟩:=aO h1;obtain⟨sy,hy,gX⟩:=vv gX;clear h h1;unfold F2 at h2;split at h2
  ·rename_i ak k off q;simp only[A.mk.injEq,Prod.mk.injEq] at q;obtain⟨rfl,rfl⟩:=q;obtain⟨b,hb,bL,h0,eD,qv,ar,uZ,hK⟩:=aO h2;obtain⟨wV,eY⟩:=uz hb;obtain⟨ob,wq,hob⟩:=(hS.heap.bx b eY).1;have ajX:=Qt bL hob;subst ajX;rw[wV] at wq;have aop:(cs.map (bK V))=cs.map (bK V):=rfl
   have hW:=hS.w.setBx (cs:=lu b.cs off cs) hb bL (by
    have yz:=(hS.w.ids.1 b eY).2
    exact PE cs b.cs off ar yz)
   have cH:=DU (V:=V) gX;have jb:=run_storeCells_at P (V.β k) off b.ty (cs.map (bK V)) 0 ⟨b.cs.map (bK V)⟩ w wq (by simp;exact uZ) (uw qv);have dE:(Instr.storeAt t (.pointer (some ⟨V.β k,off,none⟩)) (den V sy)).run P w= .ok () (w.setRow (V.β k) ⟨(lu b.cs off cs).map (bK V)⟩):=by
    have Cx:(den V sy).cells.size=bX P t:=by rw[cH];simpa using eD
    simp only[Instr.storeAt,Instr.sureAddr,Sem.run_bind,Sem.run_pure,Result.andThen_ok,storeVar,BB h0];rw[af (by rw[Cx];simp)];rw[cH];rw[I8 _ _ _ uZ];simp only[Nat.add_zero] at jb;simp only[List.map_append,List.map_take,List.map_drop];rw[<- List.length_map (f:=bK V)];exact jb
   refine OU (w' :=w.setRow (V.β k) ⟨(lu b.cs off cs).map (bK V)⟩) (by
    simp only[execOp,ho,dJ hS hp hc hx,dJ hS hp hc hy,zC,Sem.run_bind,dE,Result.andThen_ok,Sem.run_pure]) ?_
   exact hn _ _ V D _ hK rfl (hS.to (Agree.refl _ _ _) (au _) (fun _ _ _ h=>h) hW) ⟨Agree.refl _ _ _,au _,fun _ _ _ h=>h⟩
  ·cases h2
 ·rename_i t len parts ak p' q;cases q;obtain⟨e,he,h⟩:=aO h;obtain⟨z,hz,tI,h0,u0,h⟩:=aO h;obtain⟨cs,gX,h⟩:=aO h;have gX:=Z1 tI h0 gX;obtain⟨l',m1,D1,e1,e2,e3,_⟩:=qU (st:=st) cs _ st.m D h hS.w;obtain⟨l,hl,qv,hK⟩:=aO e1;have j2:=D6 (V:=V) hl;obtain⟨dE,hclen⟩:=VI hS hp hc he hz tI h0 u0 gX;rw[<- e3,j2] at dE;have pT:l.length=len * bX P e:=by
   rw[<- j2,e3,List.length_map,hclen]
  obtain⟨V',ha,hγ,hW⟩:=SatW.addVc (w' :=w.alloc (.cells ⟨l⟩ e)) (hd:=⟨some ⟨w.heap.size,0,none⟩,len,len⟩) (e:=e) (sz:=bX P e) (n:=len) (xs:=l) e2 rfl rfl rfl (by simp) (fun b hb=>yO w _ b hb)
   ⟨pT,.inr ⟨w.heap.size,len,⟨l⟩,rfl,aG _,heap_alloc_new w _,au _,by
    have:len<=len * bX P e:=Nat.le_mul_of_pos_right _ h0
    simp only[maxLen];omega,by simpa using pT,by rw[<- pT];simp⟩⟩
   (fun g hg=>by simp only[Hd.blk,Option.map_some,dT] at hg;omega) h0
   (fun u hu=>by rw[<- j2] at hu;exact uw qv u hu)
  refine vT (v:= .slice (some ⟨w.heap.size,0,none⟩) len len) (by simp only[execOp,ho];exact kM dE) ?_;have:=hn _ _ V' D1 _ hK rfl (Sat.to (st:=⟨st.env,st.rho,st.bx,st.vc,st.nid,m1⟩) ⟨hS.f,hS.ids,e2⟩ ha (Nat.le_succ _) (fun k u hk hv=>ud rfl k u hk hv) hW) ⟨ha,Nat.le_succ _,fun k u hk hv=>ud rfl k u hk hv⟩;rwa [show den V' (.vec st.nid 0)= .slice (some ⟨w.heap.size,0,none⟩) len len from by show Hd.val _=_;rw[hγ];rfl] at this
 ·rename_i x y t tx ak p' q;cases q;obtain⟨sx,hx,h⟩:=aO h;obtain⟨sy,hy,h⟩:=aO h;obtain⟨e,he,h⟩:=aO h;obtain⟨r,ak,V',D',w',dE,hK,gE,gv,ha⟩:=Xu (ty:=o.type) hS he h;rw[<- dJ hS hp hc hx,<- dJ hS hp hc hy] at dE
  refine vT (v:=den V' r) (by
   simp only[execOp,ho,resolve,Sem.run_bind,Sem.run_pure,Result.andThen_ok,invoke,builtin]
   simp only[List.map_toArray,bN,List.map_nil,dE,Result.andThen_ok]) (hn _ _ V' D' w' hK gE gv ha)
 ·rename_i t l cp ak p' q;cases q;obtain⟨sl,hl,h1⟩:=aO h;obtain⟨sc,bg,h2⟩:=aO h1;obtain⟨e,he,h3⟩:=aO h2;obtain⟨z,hz,h4⟩:=aO h3;clear h h1 h2 h3;obtain⟨zs,yq,hz⟩:=vv hz;unfold Gv at h4;split at h4
  ·rename_i ak kl l' kc c' q;simp only[A.mk.injEq,Prod.mk.injEq] at q;obtain⟨rfl,rfl,rfl⟩:=q;obtain⟨U0,hlc,ll,tI,h0,qv,hK⟩:=h4;obtain⟨i,hi,hisz,hiby⟩:=Jj h0;have KC:=yq;unfold fB at KC;simp only[Option.map_eq_some_iff,Option.bind_eq_some_iff] at KC;obtain⟨zv,⟨i',tT,hzv⟩,hzz⟩:=KC;rw[hi] at tT;cases tT;have ajM:zv.cells=⟨z⟩:=by
    have:=D6 (V:=V) hz;rw[<- hzz,z7] at this;rw[<- this]
   have agV:0<=c' :=by omega
   have dE:=run_make (P:=P) w t e i zv (og he) hi hzv kl kc l' c' U0 hlc (by
    have:=ll.1;rw[<- hiby] at this;have hh:((i.bytes * c'.toNat:Nat):Int)<=281474976710656:=by rw[Nat.mul_comm];omega
    rw[Int.natCast_mul,Int.toNat_of_nonneg agV] at hh
    exact hh) (by have:=ll.2;simp only[maxLen] at this;omega)
   have aeB:madeCells zv.cells (c'.toNat * i.size)=⟨(List.replicate c'.toNat z).flatten⟩:=by
    unfold madeCells;rw[ajM,hisz,<- tI];exact Ok z _ (by omega)
   rw[aeB] at dE;have hlen:((List.replicate l'.toNat z).flatten).length=l'.toNat * bX P e:=by rw[IU,tI]
   obtain⟨V',ha,hγ,hW⟩:=SatW.addVc (w' :=w.alloc (.cells ⟨(List.replicate c'.toNat z).flatten⟩ e)) (hd:=⟨some ⟨w.heap.size,0,none⟩,l'.toNat,c'.toNat⟩) (e:=e) (sz:=bX P e) (n:=l'.toNat) (xs:=(List.replicate l'.toNat z).flatten)
    hS.w rfl rfl rfl (by simp) (fun b hb=>yO w _ b hb)
    ⟨hlen,.inr ⟨w.heap.size,c'.toNat,⟨(List.replicate c'.toNat z).flatten⟩,rfl,aG _,heap_alloc_new w _,by omega,ll.2,by simp only[List.size_toArray,IU,tI],by
     show((List.replicate c'.toNat z).flatten).take (l'.toNat * bX P e)=_
     rw[<- tI];exact YH z (by omega)⟩⟩
    (fun g hg=>by simp only[Hd.blk,Option.map_some,dT] at hg;omega) h0
    (fun u hu=>by
     have:=uw (V:=V) qv u;rw[z7] at this
     exact this (aaw hu))
   refine vT (v:= .slice (some ⟨w.heap.size,0,none⟩) l'.toNat c'.toNat) (by
    simp only[execOp,ho,dJ hS hp hc hl,dJ hS hp hc bg,fp]
    exact kM dE) ?_
   have:=hn _ _ V' D _ hK rfl (hS.to ha (Nat.le_succ _) (fun k u hk hv=>ud rfl k u hk hv) hW) ⟨ha,Nat.le_succ _,fun k u hk hv=>ud rfl k u hk hv⟩;rwa [show den V' (.vec st.nid 0)= .slice (some ⟨w.heap.size,0,none⟩) l'.toNat c'.toNat from by show Hd.val _=_;rw[hγ];rfl] at this
  ·cases h4
 ·rename_i t ak p' q;cases q;obtain⟨tR,h⟩:=h;obtain⟨V',ha,hβ,hW⟩:=hS.w.addBx (t:=(jn P t).1) (cs:=[]) (o:= .map #[] 0) (by unfold ni;rw[af (Nat.not_lt.2 tR.1)];exact⟨#[],0,[],rfl,rfl,rfl,fun x hx=>by cases hx⟩) trivial;have dE:(Instr.makeMap t (Option.map a.eval none)).run P w= .ok (.map (some w.heap.size)) (w.alloc (.map #[] 0)):=by
   simp [Instr.makeMap]
  refine vT (v:= .map (some w.heap.size)) (by simp only[execOp,ho];exact kM dE) ?_;have:=hn _ _ V' D _ h rfl (hS.to ha (Nat.le_succ _) (fun _ _ _ h=>h) hW) ⟨ha,Nat.le_succ _,fun _ _ _ h=>h⟩;rwa [show den V' (.mp st.nid)= .map (some w.heap.size) from by show Value.map _=_;rw[hβ]] at this
 ·rename_i f r ak p' q;cases q;obtain⟨sr,hr,h1⟩:=aO h;clear h;unfold Gu at h1;split at h1
  ·rename_i ak k o' q;simp only[A.mk.injEq,Prod.mk.injEq] at q;obtain⟨rfl,rfl⟩:=q;have dE:(Instr.makeFunc (.func f) (Array.map a.eval #[r]) (Array.map a.eval #[])).run P w= .ok (den V (.mv f k o')) w:=by
    have e:Array.map a.eval #[r]= #[den V (.box k o')]:=by
     apply Array.ext'
     simp only[Array.toList_map,bN,List.map_nil];rw[dJ hS hp hc hr]
    rw[e];simp [Instr.makeFunc];rfl
   refine vT (v:=den V (.mv f k o')) (by simp only[execOp,ho];exact kM dE) ?_;exact hn _ _ V D _ h1 rfl (hS.to (Agree.refl _ _ _) (au _) (fun _ _ _ h=>h) hS.w) ⟨Agree.refl _ _ _,au _,fun _ _ _ h=>h⟩
  ·cases h1
 ·rename_i t m k x ak p' q;cases q;obtain⟨sm,hm,h1⟩:=aO h;obtain⟨sk,hk,h2⟩:=aO h1;obtain⟨sx,hx,h3⟩:=aO h2;clear h h1 h2;unfold F3 at h3;split at h3
  ·rename_i ak j s v q;simp only[A.mk.injEq,Prod.mk.injEq] at q;obtain⟨rfl,rfl,qG,hpv⟩:=q;obtain⟨b,hb,bL,ht,iM,hvv,h4⟩:=aO h3;obtain⟨l,hl,hK⟩:=aO h4;have Gi:=beq_iff_eq.1 bL;obtain⟨es,pW,l',e1,e2,e3,e4⟩:=Sr hS hb (by rw[Gi];exact ht.1);rw[Ee hl] at e2;subst e2;have Vp:=e4;rw[Gi] at Vp;obtain⟨yG,Aw,dE,hes'⟩:=WO (P:=P) (w:=w) ht e1 e3 Vp (by rw[<- Gi];exact iM) v;rw[Pk] at hK;have ay:V.β j<w.heap.size:=(Array.getElem?_eq_some_iff.1 e1).1;have KM:((nW (nl l' s v)).map SV.v).map (bK V)=nW (nl l' s v):=by rw[List.map_map];exact List.map_id'' (fun _=>rfl) _
   have ajT:fO st.nid st.vc ((nW (nl l' s v)).map SV.v):=by
    generalize nW (nl l' s v)=z
    induction z with
    |nil=>trivial
    |cons y z ih=>exact⟨trivial,ih⟩
   have hW:=hS.w.setOb (w' :={w with heap:=w.heap.setIfInBounds (V.β j) (.map yG Aw)}) (o:= .map yG Aw) (cs:=(nW (nl l' s v)).map SV.v) hb ajT
    (by unfold ni;rw[af (Nat.not_lt.2 (by rw[Gi];exact ht.1)),KM];exact⟨yG,Aw,_,rfl,rfl,hes',QY iM hvv e4⟩) rfl rfl rfl (by simp) (MapKept.heap_set e1).1 (fun g hg=>(MapKept.heap_set e1).2 g hg)
   refine OU (w' :={w with heap:=w.heap.setIfInBounds (V.β j) (.map yG Aw)}) (by
    simp only[execOp,ho,dJ hS hp hc hm,dJ hS hp hc hk,dJ hS hp hc hx,Sem.run_bind];rw[show den V (.mp j)= .map (some (V.β j)) from rfl,H7 qG,H7 hpv,dE]
    rfl) ?_
   exact hn _ _ V D _ hK rfl (hS.to (Agree.refl _ _ _) (au _) (fun _ _ _ h=>h) hW) ⟨Agree.refl _ _ _,au _,fun _ _ _ h=>h⟩
  ·cases h3
 ·rename_i fo args _ ak p' q;cases q;obtain⟨l,hl,h1⟩:=aO h;obtain⟨sf,hf,h2⟩:=aO h1;clear h h1;unfold Cr at h2;split at h2
  ·rename_i ak f q;simp only[A.mk.injEq,Prod.mk.injEq] at q;obtain⟨rfl,rfl⟩:=q;obtain⟨ar,h3⟩:=h2;have dE:=ID (w:=w) ho (dJ hS hp hc hf) ar;unfold Oper.wp;rw[dE];have rA:args.map a.eval=⟨l.map (den V)⟩:=by
    apply Array.ext'
    rw[Array.toList_map,A2 hS hp hc hl]
   rw[rA];refine M4 (R:=fun | .returned v,qB=>next (a.put o.dst v) qB | .panicked chain,qB=>Q (.panic chain) a qB | .outgrown,_=>LetsOut Q) hS h3 ?_;intro s ak V' D' w' hK gE gv ha;exact hn s ak V' D' w' hK gE gv ha
  ·rename_i ak f k o' q;simp only[A.mk.injEq,Prod.mk.injEq] at q;obtain⟨rfl,rfl⟩:=q;obtain⟨ar,h3⟩:=h2;have dE:=X8 (w:=w) ho (dJ hS hp hc hf) ar;unfold Oper.wp;rw[dE];have rA: #[Value.pointer (some ⟨V.β k,o',none⟩)]++args.map a.eval=⟨(SV.box k o' ::l).map (den V)⟩:=by
    apply Array.ext'
    simp only[Array.toList_append,Array.toList_map,A2 hS hp hc hl,bN];rfl
   rw[rA];refine M4 (R:=fun | .returned v,qB=>next (a.put o.dst v) qB | .panicked chain,qB=>Q (.panic chain) a qB | .outgrown,_=>LetsOut Q) hS h3 ?_;intro s ak V' D' w' hK gE gv ha;exact hn s ak V' D' w' hK gE gv ha
  ·cases h2
 ·cases h
end
def ng (n:Nat) (o:Oper):Bool:=match o.dst with |some d=>decide (d<n) |none=>true
def RInv (ops:Array Oper) (L:Nat->Prop) (rho:List Gd):Prop:=∀g∈rho,L g.i/\(ops[g.i]?).bind (·.dst)=some g.slot
def dt (c:Cfg) (P:Program):Prop:=
 ∀f F,c.pure f=some F->iY P f=true/\∀m fe y,F m fe=some y->y.1->FnH P f (fe.map SV.v) ⟨[],[]⟩ m (fun r H' _=>r= .v y.2/\H' =⟨[],[]⟩)
theorem A0 {g:Gd} {rho:List Gd} {j:Nat} (h:g.i≠j):gG (g::rho) j=gG rho j:=by
 obtain⟨i,t,p,b⟩:=g;simp only[gG];rw[af h]
theorem DW {g:Gd} {rho:List Gd}:gG (g::rho) g.i=some g:=by
 obtain⟨i,t,p,b⟩:=g;simp only[gG,if_true]
theorem Iw {g:Gd} {rho:List Gd} {p:bV} (h:gq rho p):gq (g::rho) p:=fun x hx=>by
 obtain⟨g',iN⟩:=h x hx;by_cases e:g.i=x.1
 ·exact⟨g,by rw[<- e];exact DW⟩
 ·exact⟨g',by rw[A0 e];exact iN⟩
theorem YF {g:Gd} {rho:List Gd} {j:Nat} {w:Bool} (h:g.i≠j):oM (g::rho) j w=oM rho j w:=by
 unfold oM;rw[A0 h]
theorem NK {g:Gd} {rho:List Gd}:∀{p:bV},(∀x∈p,x.1≠g.i)->cF (g::rho) p=cF rho p
 |[],_=>rfl
 |(j,w)::p,h=>by
  simp only[cF];rw[YF (fun e=>h (j,w) (bY ..) e.symm),NK fun x hx=>h x (bR _ hx)]
theorem adz {rho:List Gd} {i:Nat} (hi:∀g∈rho,g.i≠i) {p:bV} (h:gq rho p):∀x∈p,x.1≠i:=fun x hx e=>by
 obtain⟨g,hg⟩:=h x hx;obtain⟨h1,h2⟩:=FJ hg;exact hi g h2 (h1.trans e)
theorem Ns:∀p:bV,qj p p=true
 |[]=>rfl
 |(j,w)::p=>by simp only[qj,if_true];exact Ns p
theorem ZD:∀p:bV,nZ p p=true
 |[]=>rfl
 |x::p=>by simp only[nZ];rw[ah (Ns _)]
theorem acf {env:List Ev} {t:Nat} {q:bV} {s:SV} (h:gb env t q=some s):∃e∈env,nZ e.p q=true/\gb env t e.p=some s:=by
 induction env with
 |nil=>cases h
 |cons x r ih=>
  obtain⟨t',p',s'⟩:=x;simp only[gb] at h;split at h
  ·rename_i ht;split at h
   ·rename_i yv;refine⟨_,bY ..,yv,?_⟩;simp only[gb];rw[ah ht,ah (ZD p')];exact h
   ·cases h
  ·rename_i ht;obtain⟨e,he,h1,h2⟩:=ih h;refine⟨e,bR _ he,h1,?_⟩;simp only[gb];rw[af ht];exact h2
theorem OA {d:Nat}:∀{rho:List Gd},kD rho (some d)=false->∀g∈rho,g.slot≠d
 |[],_,_,hg=>by cases hg
 |⟨i,t,p,b⟩::r,h,g,hg=>by
  simp only[kD] at h;split at h
  ·cases h
  ·rename_i cQ;rcases List.mem_cons.1 hg with rfl |hg
   ·exact cQ
   ·exact OA h g hg
section
variable {C:Ctx} {n:Nat} {st:LS} {a:Act} {V:Vl} {D:Nat->Nat} {w:World} {P:Program} {p:bV} {c:Cfg} {ops:Array Oper} {L:Nat->Prop} {i:Nat} {o:Oper}
theorem I9 (hS:Sat C n st a V D w) {d:Nat} (hd:d<n) (v:Value):(a.put (some d) v).tmps[d]? =some v:=by
 have:=hS.f.size;simp only[Act.put];rw[Array.getElem?_setIfInBounds_self_of_lt (by omega)]
theorem N3 {d t:Nat} (v:Value) (h:t≠d):(a.put (some d) v).tmps[t]? =a.tmps[t]? :=by
 simp only[Act.put];rw[Array.getElem?_setIfInBounds_ne (fun e=>h e.symm)]
theorem Sat.put (hS:Sat C n st a V D w) {d:Option Nat} (hd:∀x,d=some x->x<n) (hit:kD st.rho d=false) (hp:gq st.rho p) {s:SV} (hs:jv st.nid st.vc s) {v:Value}
  (hv:cF st.rho p=true->v=den V s):Sat C n (E.put st d p s) (a.put d v) V D w:=by
 cases d with
 |none=>exact hS
 |some d=>
  refine⟨⟨hS.f.defers,by simp only[Act.put,Array.size_setIfInBounds];exact hS.f.size,?_,?_,?_⟩,?_,hS.w⟩
  ·intro e he;rcases List.mem_cons.1 he with rfl |he
   ·exact hp
   ·exact hS.f.pth e he
  ·intro t q s' hq hl hc;simp only[E.put,gb] at hl;split at hl
   ·rename_i ht;subst ht;split at hl
    ·rename_i yv;cases hl;rw[I9 hS (hd _ rfl),hv (Et yv hc)]
    ·cases hl
   ·rename_i ht;rw[N3 _ (fun e=>ht e.symm)];exact hS.f.env t q s' hq hl hc
  ·intro g hg;obtain⟨h1,h2,h3⟩:=hS.f.rho g hg;exact⟨h1,h2,by rw[N3 _ (OA hit g hg)];exact h3⟩
  ·intro e he;rcases List.mem_cons.1 he with rfl |he
   ·exact hs
   ·exact hS.ids e he
theorem Sat.note (hS:Sat C n st a V D w) (hp:gq st.rho p) {b:Bool} {d:Nat} (hi:∀g∈st.rho,g.i≠i) (ht:a.tmps[d]? =some (if cF st.rho p=true then .bool b else undef)):
  Sat C n ⟨st.env,⟨i,d,p,.sym b⟩::st.rho,st.bx,st.vc,st.nid,st.m⟩ a V D w:=by
 have hc:∀{q:bV},gq st.rho q->cF (⟨i,d,p,.sym b⟩::st.rho) q=cF st.rho q:=fun hq=>NK (adz hi hq)
 refine⟨⟨hS.f.defers,hS.f.size,fun e he=>Iw (hS.f.pth e he),?_,?_⟩,hS.ids,hS.w⟩
 ·intro t q s hq hl wU;obtain⟨e,he,yv,kY⟩:=acf hl;have UJ:=hS.f.pth e he;exact hS.f.env t e.p s UJ kY (by rw[<- hc UJ];exact Et yv wU)
 ·intro g hg;rcases List.mem_cons.1 hg with rfl |hg
  ·exact⟨DW,Iw hp,by rw[hc hp];exact ht⟩
  ·obtain⟨h1,h2,h3⟩:=hS.f.rho g hg;have:=hi g hg;exact⟨by rw[A0 (fun e=>this e.symm)];exact h1,Iw h2,by rw[hc h2];exact h3⟩
/-! Forks. -/
structure Fk (st ak:LS):Prop where
 eqs:ak.bx=st.bx/\ak.vc=st.vc/\ak.nid=st.nid/\ak.m=st.m
 cond:∀q,cF ak.rho q=cF st.rho q
 wf:∀q,gq st.rho q->gq ak.rho q
 hit:∀d,kD ak.rho d=kD st.rho d
 inv:∀ops (L:Nat->Prop),RInv ops L st.rho->RInv ops L ak.rho
theorem Fk.refl (st:LS):Fk st st:=⟨⟨rfl,rfl,rfl,rfl⟩,fun _=>rfl,fun _ h=>h,fun _=>rfl,fun _ _ h=>h⟩
theorem Fk.trans {st ak lN:LS} (h:Fk st ak) (h' :Fk ak lN):Fk st lN:=
 ⟨⟨h'.eqs.1.trans h.eqs.1,h'.eqs.2.1.trans h.eqs.2.1,h'.eqs.2.2.1.trans h.eqs.2.2.1,h'.eqs.2.2.2.trans h.eqs.2.2.2⟩,fun q=>(h'.cond q).trans (h.cond q),fun q x=>h'.wf q (h.wf q x),
  fun d=>(h'.hit d).trans (h.hit d),fun o i x=>h'.inv o i (h.inv o i x)⟩
theorem Step.same {nid iX:Nat} {vc fg:List Vc} (h1:iX=nid) (h2:fg=vc) (V:Vl):Step nid vc iX fg V V:=by
 subst h1 h2;exact⟨Agree.refl _ _ _,au _,fun _ _ _ h=>h⟩
theorem Step.trans {nid iX Ti:Nat} {vc fg TR:List Vc} {V V' Vv:Vl} (h:Step nid vc iX fg V V') (h' :Step iX fg Ti TR V' Vv):Step nid vc Ti TR V Vv:=
 ⟨fun k hk=>⟨((h'.agr k (eM hk h.up)).1).trans (h.agr k hk).1,fun u hu=>((h'.agr k (eM hk h.up)).2 u (h.ver k u hk hu)).trans ((h.agr k hk).2 u hu)⟩,cZ h.up h'.up,
  fun k u hk hu=>h'.ver k u (eM hk h.up) (h.ver k u hk hu)⟩
theorem Fk.step {st ak:LS} (h:Fk st ak) (V:Vl):Step st.nid st.vc ak.nid ak.vc V V:=Step.same h.eqs.2.2.1 h.eqs.2.1 V
def tF (j:Nat) (x:Bool) (g:Gd):Gd:=if g.i=j then⟨g.i,g.slot,g.p,.lit x⟩ else g
theorem BH {j:Nat} {x:Bool}:∀{rho:List Gd},lQ rho j x=rho.map (tF j x)
 |[]=>rfl
 |⟨i,t,p,b⟩::r=>by
  simp only[lQ,bN,tF];split
  ·rw[BH]
  ·rw[BH]
theorem Fu {j:Nat} {x:Bool} (g:Gd):(tF j x g).i=g.i/\(tF j x g).slot=g.slot/\(tF j x g).p=g.p:=by
 unfold tF;split<;>exact⟨rfl,rfl,rfl⟩
theorem Sy {f:Gd->Gd} (hf:∀g,(f g).i=g.i):∀{rho:List Gd} (k:Nat),gG (rho.map f) k=(gG rho k).map f
 |[],_=>rfl
 |g::r,k=>by
  by_cases e:g.i=k
  ·subst e;rw[DW,bN,<- hf g,DW];rfl
  ·rw[A0 e,bN,A0 (by rw[hf];exact e),Sy hf]
theorem Ft {rho:List Gd} {j:Nat} {x:Bool} (k:Nat):gG (lQ rho j x) k=(gG rho k).map (tF j x):=by
 rw[BH];exact Sy (fun g=>(Fu g).1) k
theorem RD {rho:List Gd} {j:Nat} {x:Bool} {g:Gd} (h:g∈lQ rho j x):∃g' ∈rho,g=tF j x g' :=by
 rw[BH] at h;obtain⟨g',h1,h2⟩:=List.mem_map.1 h;exact⟨g',h1,h2.symm⟩
theorem Ry {f:Gd->Gd} (hf:∀g,(f g).slot=g.slot) {d:Option Nat}:∀{rho:List Gd},kD (rho.map f) d=kD rho d
 |[]=>rfl
 |g::r=>by
  cases d with
  |none=>rfl
  |some d=>
   have h1:∀(g:Gd) (r:List Gd),kD (g::r) (some d)=if g.slot=d then true else kD r (some d):=fun g r=>by cases g;rfl
   rw[bN,h1,h1,hf,Ry hf]
theorem ac6 {j:Nat} {x:Bool} {d:Option Nat} {rho:List Gd}:kD (lQ rho j x) d=kD rho d:=by
 rw[BH];exact Ry fun g=>(Fu g).2.1
theorem RC {rho:List Gd} {j k:Nat} {x:Bool} {g g' :Gd} (hg:gG rho j=some g) (hb:g.b.val=x) (hk:gG rho k=some g'):(tF j x g').b.val=g'.b.val:=by
 unfold tF;split
 ·rename_i e;have:=(FJ hk).1;rw[this] at e;subst e;rw[hg] at hk;cases hk;exact hb.symm
 ·rfl
theorem aaz {rho:List Gd} {j k:Nat} {x u:Bool} {g:Gd} (hg:gG rho j=some g) (hb:g.b.val=x):oM (lQ rho j x) k u=oM rho k u:=by
 unfold oM;rw[Ft];cases hk:gG rho k with
 |none=>rfl
 |some g' =>simp only[Option.map_some,RC hg hb hk]
theorem Qd {rho:List Gd} {j:Nat} {x:Bool} {g:Gd} (hg:gG rho j=some g) (hb:g.b.val=x):∀q:bV,cF (lQ rho j x) q=cF rho q
 |[]=>rfl
 |(k,u)::q=>by simp only[cF];rw[aaz hg hb,Qd hg hb q]
theorem B8 {rho:List Gd} {j:Nat} {x:Bool} {q:bV}:gq (lQ rho j x) q↔gq rho q:=by
 constructor
 ·intro h y hy;obtain⟨g,hg⟩:=h y hy;rw[Ft] at hg;obtain⟨g',iN,_⟩:=Option.map_eq_some_iff.1 hg;exact⟨g',iN⟩
 ·intro h y hy;obtain⟨g,hg⟩:=h y hy;exact⟨_,by rw[Ft,hg];rfl⟩
theorem aat (hS:Sat C n st a V D w) {j t:Nat} {q:bV} {b:GB} {i' :Nat} {x:Bool} (hg:gG st.rho j=some ⟨i',t,q,b⟩) (hb:b.val=x):
  Sat C n ⟨⟨t,q,.v (.bool x)⟩::st.env,lQ st.rho j x,st.bx,st.vc,st.nid,st.m⟩ a V D w/\Fk st ⟨⟨t,q,.v (.bool x)⟩::st.env,lQ st.rho j x,st.bx,st.vc,st.nid,st.m⟩:=by
 have hc:=Qd hg hb;obtain⟨hgi,hgm⟩:=FJ hg;obtain⟨h1,h2,h3⟩:=hS.f.rho _ hgm;refine⟨⟨⟨hS.f.defers,hS.f.size,?_,?_,?_⟩,?_,hS.w⟩,⟨rfl,rfl,rfl,rfl⟩,hc,fun q=>B8.2,fun _=>ac6,?_⟩
 ·intro e he;rcases List.mem_cons.1 he with rfl |he
  ·exact B8.2 h2
  ·exact B8.2 (hS.f.pth e he)
 ·intro t' q' s hq hl wU;simp only at hq wU;rw[hc] at wU;have hq:=B8.1 hq;simp only[gb] at hl;split at hl
  ·rename_i ht;subst ht;split at hl
   ·rename_i yv;cases hl;simp only at h3;rw[h3,ah (Et yv wU),hb];rfl
   ·cases hl
  ·exact hS.f.env t' q' s hq hl wU
 ·intro g iN;obtain⟨g0,hg0,rfl⟩:=RD iN;obtain⟨e1,e2,e3⟩:=hS.f.rho g0 hg0;obtain⟨f1,f2,f3⟩:=Fu (j:=j) (x:=x) g0;refine⟨by rw[f1,Ft,e1];rfl,by rw[f3];exact B8.2 e2,?_⟩;simp only;rw[f2,f3,hc,RC hg hb e1];exact e3
 ·intro e he;rcases List.mem_cons.1 he with rfl |he
  ·trivial
  ·exact hS.ids e he
 ·intro ops i hR g hg;obtain⟨g',h1,rfl⟩:=RD hg;obtain⟨f1,f2,f3⟩:=Fu (j:=j) (x:=x) g';rw[f1,f2];exact hR g' h1
theorem WB (hS:Sat C n st a V D w) {j:Nat} {u:Bool} {g:Gd} (hg:gG st.rho j=some g) {dead live:LS->Prop} (h:rB (.mk (k:=(j,u,dead,live)) (st,g))):
  ∃ak,Sat C n ak a V D w/\Fk st ak/\(oM st.rho j u=true->live ak)/\(oM st.rho j u=false->dead ak):=by
 have hv:=E7 hg (w:=u);obtain⟨i',t,q,b⟩:=g;cases b with
 |lit b=>
  refine⟨st,hS,Fk.refl st,?_⟩;rw[hv];cases u<;>cases b<;>simp_all [rB,GB.val]
 |sym b=>
  obtain⟨h1,h2⟩:=aat hS hg (x:=b) rfl;refine⟨_,h1,h2,?_⟩;rw[hv];cases u<;>cases b<;>simp_all [rB,GB.val]
theorem MY (hS:Sat C n st a V D w):∀{p:bV} {dead live:LS->Prop},Fs p dead live st->∃ak,Sat C n ak a V D w/\Fk st ak/\(cF st.rho p=true->live ak)/\(cF st.rho p=false->dead ak)
 |[],dead,live,h=>⟨st,hS,Fk.refl st,fun _=>h,fun e=>by cases e⟩
 |(j,u)::p,dead,live,h=>by
  simp only[Fs] at h;obtain⟨lR,s1,f1,l1,d1⟩:=MY hS h;cases hc:cF st.rho p with
  |false=>exact⟨lR,s1,f1,fun e=>by simp [cF,hc] at e,fun _=>d1 hc⟩
  |true=>
   obtain⟨g,hg,h'⟩:=aO (l1 hc);obtain⟨cA,s2,f2,l2,d2⟩:=WB s1 hg h';have:oM lR.rho j u=oM st.rho j u:=by
    have:=f1.cond [(j,u)];simpa [cF] using this
   rw[this] at l2 d2;exact⟨cA,s2,f1.trans f2,fun e=>l2 (by simpa [cF,hc] using e),fun e=>d2 (by simpa [cF,hc] using e)⟩
/-! The guard of an operation. -/
theorem HM (hS:Sat C n st a V D w) (hR:RInv ops L st.rho) (h:pathOf st o.guard=some p):gq st.rho p/\Region.wanted o (yielded ops a.tmps)=cF st.rho p:=by
 unfold Region.wanted;cases hg:o.guard with
 |none=>rw[hg] at h;simp only[pathOf,dT] at h;subst h;exact⟨rh,rfl⟩
 |some x=>
  obtain⟨j,u⟩:=x;rw[hg] at h;simp only[pathOf,Option.map_eq_some_iff] at h;obtain⟨g,hj,rfl⟩:=h;obtain⟨hi,hm⟩:=FJ hj;obtain⟨h1,h2,h3⟩:=hS.f.rho g hm;have Cv:=(hR g hm).2;rw[hi] at Cv;refine⟨fun y hy=> ?_,?_⟩
  ·rcases List.mem_cons.1 hy with rfl |hy
   ·exact⟨g,hj⟩
   ·exact h2 y hy
  ·simp only[cF,E7 hj,yielded,Cv,Option.bind_some,h3];cases hc:cF st.rho g.p with
   |false=>simp [undef]
   |true=>cases u<;>cases g.b.val<;>simp
theorem RInv.mono {rho:List Gd} {L' :Nat->Prop} (h:RInv ops L rho) (hL:∀k,L k->L' k):RInv ops L' rho:=fun g hg=>⟨hL _ (h g hg).1,(h g hg).2⟩
theorem RInv.note {rho:List Gd} (h:RInv ops L rho) (iK:ops[i]? =some o) {d:Nat} (hd:o.dst=some d) {b:GB}:RInv ops (fun k=>L k\/k=i) (⟨i,d,p,b⟩::rho):=fun g hg=>by
 rcases List.mem_cons.1 hg with rfl |hg
 ·exact⟨.inr rfl,by simp only[iK,Option.bind_some];exact hd⟩
 ·exact⟨.inl (h g hg).1,(h g hg).2⟩
theorem mf {d:Option Nat} {s:SV}:(E.put st d p s).rho=st.rho/\(E.put st d p s).nid=st.nid/\(E.put st d p s).vc=st.vc:=by
 cases d<;>exact⟨rfl,rfl,rfl⟩
theorem Xk {s:SV} {x:Value} (h:po s=some x):den V s=x:=by
 cases s with
 |v y=>simp only[po,dT] at h;subst h;rfl
 |agg cs=>
  simp only[po,Option.map_eq_some_iff] at h;obtain⟨l,hl,rfl⟩:=h;rw[Jq,D6 hl]
 |_=>simp [po] at h
theorem Hs:∀{ss:List SV} {l:List Value},xp ss=some l->ss.map (den V)=l
 |[],l,h=>by simp only[xp,dT] at h;subst h;rfl
 |s::r,l,h=>by
  simp only[xp,Option.bind_eq_some_iff,Option.map_eq_some_iff] at h;obtain⟨x,hx,l',hl,rfl⟩:=h;simp only[bN];rw[Xk hx,Hs hl]
theorem SatW.quiet {bx:List Bx} {vc:List Vc} {nid:Nat} {m:Mem} (h:SatW C bx vc nid m V D w) {w2:World} {D2:Nat->Nat} {V1:Vl} (wB:Wf w2 D2) (pV:Frm (· ∈bq V1 ⟨[],[]⟩) w D w2 D2) (hle:Mem.le ⟨w,D⟩ ⟨w2,D2⟩):
  SatW C bx vc nid m V D2 w2:=
 have hb:=vG h.heap
 ⟨h.heap.frame (fun _ _=>⟨rfl,rfl⟩) (fun _ _=>rfl) (fun g hg=>pV.same g (hb g hg) (by simp [bq])),wB,h.frm.trans pV (fun b hx=>by simp [bq] at hx),h.own,h.baseB,h.baseV,h.ids,
  Mem.le_trans h.le0 hle,h.m0,Mem.le_trans h.mle hle⟩
theorem PA {op:Op} {F:Mem->List Value->Option (Prop×Value)} (h:gW c op= .pu F):∃f args ts,op= .call {callee:= .value (.func f),args,argTypes:=ts}/\c.pure f=some F:=by
 unfold gW at h;split at h;all_goals first |cases h |skip
 refine⟨_,_,_,rfl,?_⟩;cases hf:c.pure _ with
 |none=>rw[hf] at h;cases h
 |some G=>rw[hf] at h;cases h;rfl
theorem Xf (hS:Sat C n st a V D w) (ef:dt c P) (hp:gq st.rho p) (hc:cF st.rho p=true) {F:Mem->List Value->Option (Prop×Value)} (hk:gW c o.op= .pu F) {K:SV->Prop} (h:JV (.mk (k:=(F st.m,pO st p,K)) (uQ st p (zq o.op))))
  {next:Act->World->Prop} {Q:Exit->Act->World->Prop} (hn:∀y D' w',K (.v y)->Sat C n st a V D' w' ->next (a.put o.dst y) w'):o.wp P a w next Q:=by
 obtain⟨f,args,ts,ho,hf⟩:=PA hk;obtain⟨ar,hF⟩:=ef f F hf;obtain⟨y,hy,hB,hK⟩:=aO h;rw[ho] at hy;simp only[zq,Option.bind_eq_some_iff] at hy;obtain⟨fe,⟨ss,yu,hvals⟩,hy⟩:=hy;have dE:=ID (w:=w) (a:=a) ho rfl ar;unfold Oper.wp;rw[dE];have rA:args.map a.eval=⟨(fe.map SV.v).map (den V)⟩:=by
  apply Array.ext'
  rw[Array.toList_map,A2 hS hp hc yu,Hs hvals];simp only[List.map_map];exact(List.map_id'' (fun x=>rfl) fe).symm
 rw[rA];refine(hF st.m fe y hy (hB hc) V w D hS.w.wf hS.w.mle ⟨fun b hb=>(by cases hb),fun b hb=>(by cases hb),by simp [bq],by simp⟩).mono fun e w2 ⟨r,V2,D2,H',m',he,h1,h2,h3,h4,h5,h6,h7,h8,h9,hr,hH⟩=> ?_
 subst he;subst hr;exact hn y.2 D2 w2 hK ⟨hS.f,hS.ids,hS.w.quiet h1 h5 h7⟩
/-! One operation. -/
theorem Ht (st:LS) (i:Nat) (d:Option Nat) (p:bV) (mv:Bool) (s:SV):mq st i d p mv s=st\/∃d' b,d=some d' /\s= .v (.bool b)/\mq st i d p mv s=⟨st.env,⟨i,d',p,.sym b⟩::st.rho,st.bx,st.vc,st.nid,st.m⟩:=by
 unfold mq;split
 ·exact .inr ⟨_,_,rfl,rfl,rfl⟩
 ·exact .inl rfl
theorem Hu (st:LS) (i:Nat) (d:Option Nat) (p:bV) (mv:Bool):mr st i d p mv=st\/∃d',d=some d' /\mr st i d p mv=⟨st.env,⟨i,d',p,.sym false⟩::st.rho,st.bx,st.vc,st.nid,st.m⟩:=by
 unfold mr;split
 ·exact .inr ⟨_,rfl,rfl⟩
 ·exact .inl rfl
theorem yW {st:LS} {i:Nat} {d:Option Nat} {p:bV} {mv:Bool} {s:SV}:(mq (E.put st d p s) i d p mv s).nid=st.nid/\(mq (E.put st d p s) i d p mv s).vc=st.vc:=by
 rcases Ht (E.put st d p s) i d p mv s with e |⟨_,_,_,_,e⟩<;>rw[e]<;>cases d<;>exact⟨rfl,rfl⟩
theorem yX {st:LS} {i:Nat} {d:Option Nat} {p:bV} {mv:Bool} {s:SV}:(mr (E.put st d p s) i d p mv).nid=st.nid/\(mr (E.put st d p s) i d p mv).vc=st.vc:=by
 rcases Hu (E.put st d p s) i d p mv with e |⟨_,_,e⟩<;>rw[e]<;>cases d<;>exact⟨rfl,rfl⟩
theorem JP (hd:ng n o=true):∀x,o.dst=some x->x<n:=fun x hx=>by
 simp only[ng,hx] at hd;exact of_decide_eq_true hd
theorem CB (hS:Sat C n st a V D w) (hR:RInv ops L st.rho) (oX:¬L i) (iK:ops[i]? =some o) (hd:ng n o=true) (hit:kD st.rho o.dst=false) (hp:gq st.rho p) {s:SV} (hs:jv st.nid st.vc s) {v:Value}
  (hv:v=if cF st.rho p=true then den V s else undef) (mv:Bool):
  Sat C n (mq (E.put st o.dst p s) i o.dst p mv s) (a.put o.dst v) V D w/\RInv ops (fun k=>L k\/k=i) (mq (E.put st o.dst p s) i o.dst p mv s).rho:=by
 have vm:=JP hd;have h1:=Sat.put hS (V:=V) vm hit hp hs (v:=v) (fun hc=>by rw[hv,ah hc]);rcases Ht (E.put st o.dst p s) i o.dst p mv s with e |⟨d,b,e1,e2,e⟩
 ·rw[e];exact⟨h1,by rw[mf.1];exact hR.mono fun _=> .inl⟩
 ·rw[e]
  refine⟨h1.note (by rw[mf.1];exact hp) (by rw[mf.1];exact fun g hg e=>oX (e▸(hR g hg).1)) ?_,by
   simp only[mf.1];exact hR.note iK e1⟩
  rw[e1,I9 hS (vm _ e1),mf.1,hv,e2];rfl
theorem Km (hS:Sat C n st a V D w) (hR:RInv ops L st.rho) (oX:¬L i) (iK:ops[i]? =some o) (hd:ng n o=true) (hit:kD st.rho o.dst=false) (hp:gq st.rho p) (hc:cF st.rho p=false) (mv:Bool):
  Sat C n (mr (E.put st o.dst p (.v undef)) i o.dst p mv) (a.put o.dst undef) V D w/\RInv ops (fun k=>L k\/k=i) (mr (E.put st o.dst p (.v undef)) i o.dst p mv).rho:=by
 have vm:=JP hd;have h1:=Sat.put hS (V:=V) vm hit hp (s:= .v undef) trivial (v:=undef) (fun _=>rfl);rcases Hu (E.put st o.dst p (.v undef)) i o.dst p mv with e |⟨d,e1,e⟩
 ·rw[e];exact⟨h1,by rw[mf.1];exact hR.mono fun _=> .inl⟩
 ·rw[e]
  refine⟨h1.note (by rw[mf.1];exact hp) (by rw[mf.1];exact fun g hg e=>oX (e▸(hR g hg).1)) ?_,by
   simp only[mf.1];exact hR.note iK e1⟩
  rw[e1,I9 hS (vm _ e1),mf.1,hc];rfl
theorem Ae (hS:Sat C n st a V D w) (hR:RInv ops L st.rho) (hd:ng n o=true) (hit:kD st.rho o.dst=false) (hp:gq st.rho p) {s:SV} (hs:jv st.nid st.vc s) {v:Value} (hv:cF st.rho p=true->v=den V s):
  Sat C n (E.put st o.dst p s) (a.put o.dst v) V D w/\RInv ops (fun k=>L k\/k=i) (E.put st o.dst p s).rho:=
 ⟨Sat.put hS (JP hd) hit hp hs hv,by rw[mf.1];exact hR.mono fun _=> .inl⟩
theorem Oe (hS:Sat C n st a V D w) (ef:dt c P) (hR:RInv ops L st.rho) (oX:¬L i) (iK:ops[i]? =some o) (hd:ng n o=true) (Cy:pathOf st o.guard=some p) {K:LS->Prop} (h:one (.mk (k:=(c,P,i,o,K)) (st,p)))
  {next:Act->World->Prop} {Q:Exit->Act->World->Prop} (hn:∀ak a' V' D' w',K ak->Sat C n ak a' V' D' w' ->RInv ops (fun k=>L k\/k=i) ak.rho->Step st.nid st.vc ak.nid ak.vc V V' ->next a' w'):
  if Region.wanted o (yielded ops a.tmps) then o.wp P a w next Q\/(o.asks P a w/\LetsOut Q) else next (a.put o.dst undef) w:=by
 obtain⟨hp,hw⟩:=HM hS hR Cy;have Te:∀(d:Option Nat) (p:bV) (s:SV),Step st.nid st.vc (E.put st d p s).nid (E.put st d p s).vc V V:=fun d p s=>Step.same mf.2.1 mf.2.2 V
 have stepG:∀(d:Option Nat) (p:bV) (s:SV) (mv:Bool),Step st.nid st.vc (mq (E.put st d p s) i d p mv s).nid (mq (E.put st d p s) i d p mv s).vc V V:=fun d p s mv=>Step.same yW.1 yW.2 V
 have afr:∀(d:Option Nat) (p:bV) (s:SV) (mv:Bool),Step st.nid st.vc (mr (E.put st d p s) i d p mv).nid (mr (E.put st d p s) i d p mv).vc V V:=fun d p s mv=>Step.same yX.1 yX.2 V
 rw[hw];simp only[one] at h;unfold CJ at h;split at h
 ·rename_i q dead he;simp only[A.mk.injEq,Prod.mk.injEq] at he;obtain⟨hq,hdead,hit⟩:=he;unfold xV at h;split at h
  ·rename_i ak p' q';cases q';have hc:=Er hdead;rw[hc];simp only[Bool.false_eq_true,if_false];obtain⟨h1,h2⟩:=Km hS hR oX iK hd hit hp hc (oy o.op);exact hn _ _ _ _ _ h h1 h2 (afr _ _ _ _)
  ·rename_i ak p' q';cases q';obtain⟨s,⟨hs,hK⟩,dE⟩:=H4 hS hp (o:=o) rfl h;cases hc:cF st.rho p with
   |true=>
    simp only[if_true];obtain⟨h1,h2⟩:=CB hS hR oX iK hd hit hp hs (v:=den V s) (by rw[hc];rfl) (oy o.op);exact .inl (vT (dE hc) (hn _ _ _ _ _ hK h1 h2 (stepG _ _ _ _)))
   |false=>
    simp only[Bool.false_eq_true,if_false];obtain⟨h1,h2⟩:=CB hS hR oX iK hd hit hp hs (v:=undef) (by rw[hc];rfl) (oy o.op);exact hn _ _ _ _ _ hK h1 h2 (stepG _ _ _ _)
  ·rename_i F ak p' q';cases q';cases hc:cF st.rho p with
   |true=>
    simp only[if_true];refine .inl (Xf hS ef hp hc hq h fun y D' w' hK gv=> ?_);obtain⟨h1,h2⟩:=Ae (i:=i) gv hR hd hit hp (s:= .v y) trivial (v:=y) (fun _=>rfl);exact hn _ _ _ _ _ hK h1 h2 (Te _ _ _)
   |false=>
    simp only[Bool.false_eq_true,if_false];obtain⟨y,hy,hB,hK⟩:=aO h;obtain⟨h1,h2⟩:=Ae (i:=i) hS hR hd hit hp (s:= .v y.2) trivial (v:=undef) (fun e=>by rw[hc] at e;cases e);exact hn _ _ _ _ _ hK h1 h2 (Te _ _ _)
  ·rename_i ak p' q';cases q';obtain⟨lR,s1,f1,l1,d1⟩:=MY hS h;have GG:=f1.wf _ hp;have KL:kD lR.rho o.dst=false:=by rw[f1.hit];exact hit
   have eg:=f1.inv _ _ hR;cases hc:cF st.rho p with
   |true=>
    simp only[if_true];have Dr:cF lR.rho p=true:=by rw[f1.cond];exact hc
    refine .inl (YD s1 GG Dr rfl (l1 hc) fun s ak V' D' w' ⟨hs,hK⟩ gE gv jb=> ?_);rw[<- gE] at GG KL eg;obtain⟨h1,h2⟩:=Ae (i:=i) gv eg hd KL GG hs (v:=den V' s) (fun _=>rfl);exact hn _ _ _ _ _ hK h1 h2 (by rw[mf.2.1,mf.2.2];exact(f1.step V).trans jb)
   |false=>
    simp only[Bool.false_eq_true,if_false];obtain⟨h1,h2⟩:=Ae (i:=i) s1 eg hd KL GG (s:= .v undef) trivial (v:=undef) (fun _=>rfl);exact hn _ _ _ _ _ (d1 hc) h1 h2 (by rw[mf.2.1,mf.2.2];exact f1.step V)
 ·cases h
/-! The whole region. -/
theorem Yy {y x:Nat} {l:List Nat} (h:jm (y::l) x=false):y≠x/\jm l x=false:=by
 simp only[jm] at h;split at h
 ·cases h
 ·rename_i e;exact⟨e,h⟩
theorem EL:∀{env:List Ev} {dead:List Nat} {t:Nat} {s:SV},gb (nF dead env) t []=some s->jm dead t=false/\gb env t []=some s
 |[],dead,t,s,h=>by simp [nF,gb] at h
 |⟨t',[],s'⟩::r,dead,t,s,h=>by
  simp only[nF] at h;split at h
  ·rename_i hm;obtain⟨h1,h2⟩:=EL h;refine⟨h1,?_⟩;simp only[gb];rw[af (fun e=>by rw[e,h1] at hm;cases hm)];exact h2
  ·rename_i hm;simp only[gb] at h ⊢;split at h
   ·rename_i e;subst e;rw[ah rfl];exact⟨by simpa using hm,h⟩
   ·rename_i e;rw[af e];exact EL h
 |⟨t',x::q,s'⟩::r,dead,t,s,h=>by
  simp only[nF] at h;obtain⟨h1,h2⟩:=EL h;obtain⟨h3,h4⟩:=Yy h1;refine⟨h4,?_⟩;simp only[gb];rw[af h3];exact h2
theorem Bl:∀{env:List Ev} {dead:List Nat} {e:Ev},e∈nF dead env->e∈env/\e.p=[]
 |[],dead,e,h=>by simp [nF] at h
 |⟨t',[],s'⟩::r,dead,e,h=>by
  simp only[nF] at h;split at h
  ·obtain⟨h1,h2⟩:=Bl h;exact⟨bR _ h1,h2⟩
  ·rcases List.mem_cons.1 h with rfl |h
   ·exact⟨bY ..,rfl⟩
   ·obtain⟨h1,h2⟩:=Bl h;exact⟨bR _ h1,h2⟩
 |⟨t',x::q,s'⟩::r,dead,e,h=>by
  simp only[nF] at h;obtain⟨h1,h2⟩:=Bl h;exact⟨bR _ h1,h2⟩
theorem Hy (hS:Sat C n st a V D w):kn C n (clean st) a w:=by
 refine⟨rfl,V,D,⟨hS.f.defers,hS.f.size,fun e he=> ?_,fun t q s hq hl _=> ?_,fun g hg=>by cases hg⟩,fun e he=>hS.ids e (Bl he).1,hS.w⟩
 ·rw[(Bl he).2];exact rh
 ·have:q=[]:=by
   cases q with
   |nil=>rfl
   |cons x q=>obtain⟨g,hg⟩:=hq x (bY ..);cases hg
  subst this;exact hS.f.env t [] s rh (EL hl).2 rfl
end
section
variable {C:Ctx} {n:Nat} {P:Program} {c:Cfg} {ops:Array Oper}
theorem M9 (ef:dt c P) {K:LS->Prop} {Q:Exit->Act->World->Prop} (hQ:∀ak a' w',K ak->kn C n ak a' w' ->Q .normal a' w'):
  ∀(l:List Oper) (i:Nat) (st:LS) (a:Act) (V:Vl) (D:Nat->Nat) (w:World),CH c P l i K st->Sat C n st a V D w->RInv ops (· <i) st.rho->(∀j,l[j]? =ops[i+j]?)->(∀o∈l,ng n o=true)->wpList P ops Q l a w
 |[],i,st,a,V,D,w,h,hS,hR,hl,hd=>hQ _ _ _ h (Hy hS)
 |o::r,i,st,a,V,D,w,h,hS,hR,hl,hd=>by
  obtain⟨p,hp,h⟩:=aO h;have iK:ops[i]? =some o:=by have:=hl 0;simpa using this.symm
  unfold wpList;refine Oe hS ef hR (Nat.lt_irrefl _) iK (hd o (bY ..)) hp h fun ak a' V' D' w' hK gv vn _=> ?_
  exact M9 ef hQ r (i+1) ak a' V' D' w' hK gv (vn.mono fun k hk=>by omega) (fun j=>by have:=hl (j+1);simpa [Nat.add_assoc,Nat.add_comm 1 j] using this) (fun o ho=>hd o (bR _ ho))
end
def jk (n:Nat):Code->Bool
 | .region _ ops _=>ops.toList.all (ng n)
 | .seq a b=>jk n a&&jk n b
 | .cond _ a b=>jk n a&&jk n b
 | .block _ a=>jk n a
 | .loop a=>jk n a
 | .scope a=>jk n a
 | .rangeFunc .. =>false
 |_=>true
theorem WQ {V:Vl} {s:SV} {b:Bool} (h:sS s=some b):den V s= .bool b:=by
 cases s with
 |v x=>cases x<;>simp only[sS,dT,reduceCtorEq] at h;subst h;rfl
 |_=>simp [sS] at h
section
variable {P:Program} {n:Nat} {c:Cfg}
theorem ae8 {a b:Code} {K:LS->Prop} {Q:Exit->LS->Prop} {st:LS} (ha:WP P n a (j9 K Q) st) (hb:∀st,K st->WP P n b Q st):WP P n (.seq a b) Q st:=by
 intro C a' w hE;refine wp_seq (wp_mono (ha C a' w hE) ?_);rintro e a2 w2 ⟨cA,cu,hq⟩;cases e with
 |normal=>exact hb cA hq C a2 w2 cu
 |exit id=>exact⟨cA,cu,hq⟩
 |goto l=>exact⟨cA,cu,hq⟩
 |ret=>exact⟨cA,cu,hq⟩
 |panic ch=>exact⟨cA,cu,hq⟩
 |outgrown=>exact⟨cA,cu,hq⟩
theorem ado {x:Operand} {a b:Code} {Q:Exit->LS->Prop} {st:LS} {s:SV} {t:Bool} (hr:cU st [] x=some s) (hs:sS s=some t) (ha:t=true->WP P n a Q st) (hb:t=false->WP P n b Q st):WP P n (.cond x a b) Q st:=by
 intro C a' w hE;obtain⟨_,V,D,hS⟩:=id hE;have:=dJ hS rh rfl hr;rw[WQ hs] at this;exact wp_cond_split this (fun h=>ha h C a' w hE) (fun h=>hb h C a' w hE)
theorem abg {id:Nat} {a:Code} {Q:Exit->LS->Prop} {st:LS} (ha:WP P n a (qe id Q) st):WP P n (.block id a) Q st:=by
 intro C a' w hE;refine wp_block (wp_mono (ha C a' w hE) ?_);rintro e a2 w2 ⟨cA,cu,hq⟩;cases e with
 |exit id' =>
  simp only[qe] at hq;simp only[Exit.inBlock];split at hq
  ·rename_i h;rw[ah h];exact⟨cA,cu,hq⟩
  ·rename_i h;rw[af h];exact⟨cA,cu,hq⟩
 |normal=>exact⟨cA,cu,hq⟩
 |goto l=>exact⟨cA,cu,hq⟩
 |ret=>exact⟨cA,cu,hq⟩
 |panic ch=>exact⟨cA,cu,hq⟩
 |outgrown=>exact⟨cA,cu,hq⟩
theorem Y3 (ef:dt c P) {id:Nat} {l:List Oper} {Q:Exit->LS->Prop} {st:LS} (hd:l.all (ng n)=true) (h:CH c P l 0 (Q .normal) st):WP P n (.region id ⟨l⟩ false) Q st:=by
 rintro C a' w ⟨gE,V,D,hS⟩;refine wp_region_list ?_;refine M9 (ops:=⟨l⟩) ef (fun ak a' w' hq hE=>⟨ak,hE,hq⟩) l 0 st a' V D w h hS ?_ (fun j=>by simp) (fun o ho=> ?_)
 ·rw[gE];intro g hg;cases hg
 ·exact List.all_eq_true.1 hd o ho
theorem WL (ef:dt c P):∀(x:Code) (Q:Exit->LS->Prop) (st:LS),jk n x=true->nj c P n x Q st->WP P n x Q st:=by
 intro x;induction x with
 |skip=>exact fun Q st _ h C a w hE=>wp_skip ⟨st,hE,h⟩
 |region id ops draw=>
  intro Q st hd h;obtain⟨l⟩:=ops;cases draw with
  |false=>exact Y3 ef hd h
  |true=>exact h
 |seq a b iha ihb=>
  intro Q st hd h;simp only[jk,aD] at hd;have gen:nj c P n a (j9 (nj c P n b Q) Q) st->WP P n (.seq a b) Q st:=fun h=>ae8 (iha _ st hd.1 h) fun ak h' =>ihb Q ak hd.2 h'
  cases a with
  |cond x t e=>
   simp only[nj] at h;split at h
   ·exact h
   ·exact gen h
  |_=>exact gen h
 |cond x a b iha ihb=>
  intro Q st hd h;simp only[jk,aD] at hd;obtain⟨t,ht,h1,h2⟩:=aO h;obtain⟨s,hs,ht⟩:=vv ht;exact ado hs ht (fun e=>iha Q st hd.1 (h1 e)) (fun e=>ihb Q st hd.2 (h2 e))
 |block id a ih=>
  intro Q st hd h;exact abg (ih _ st hd h)
 |exit id=>exact fun Q st _ h C a w hE=>wp_exit ⟨st,hE,h⟩
 |ret=>exact fun Q st _ h C a w hE=>wp_ret ⟨st,hE,h⟩
 |loop a ih=>exact fun Q st _ h=>h
 |scope a ih=>exact fun Q st _ h=>h
 |rangeFunc f ps a b _ _=>exact fun Q st _ h=>h
 |label l=>exact fun Q st _ h C a w hE=>wp_label ⟨st,hE,h⟩
 |refuse _=>exact fun Q st _ h=>h
 |goto l=>exact fun Q st _ h C a w hE=>wp_goto ⟨st,hE,h⟩
theorem qV (ef:dt c P) {x:Code} {Q:Exit->LS->Prop} {st:LS} (hd:jk n x=true) (h:eb (.mk (k:=(c,P,n,x,Q)) st)):WP P n x Q st:=WL ef x Q st hd h
end
/-! A function. -/
section
variable {C:Ctx} {n:Nat} {st:LS} {a:Act} {V:Vl} {D:Nat->Nat} {w:World} {P:Program} {c:Cfg}
theorem XQ (ad:Addr):(asAddr (.pointer (some ad))).run P w= .ok ad w:=rfl
def Fi (tmps:Array Value):ResultVar->Sem Value
 | .tmp t=>pure (tmps.getD t undef)
 | .cell b t=>do loadVar t (<- asAddr (tmps.getD b undef))
theorem IE (hS:Sat C n st a V D w):∀{res:List ResultVar} {l:List SV},pJ P st res=some l->
  (res.mapM (Fi a.tmps)).run P w= .ok (l.map (nu V)) w/\∀s∈l,den V s=nu V s
 |[],l,h=>by
  simp only[pJ,dT] at h;subst h;exact⟨rfl,fun s hs=>by cases hs⟩
 | .tmp t::r,l,h=>by
  simp only[pJ,Option.bind_eq_some_iff,Option.map_eq_some_iff] at h;obtain⟨s,⟨s0,lB,hs⟩,l',kY,rfl⟩:=h;obtain⟨h1,h2⟩:=IE hS kY;have Dl:=Ie (V:=V) hs;have yu:s=s0:=by cases s0<;>simp_all [nH]
  subst yu;have ht:=hS.env t [] s rh lB rfl;refine⟨?_,fun x hx=> ?_⟩
  ·simp only[List.mapM_cons,Fi,Sem.run_bind,Sem.run_pure,Result.andThen_ok,h1,bN];simp [Array.getD_eq_getD_getElem?,ht,Dl]
  ·rcases List.mem_cons.1 hx with rfl |hx
   ·exact Dl
   ·exact h2 x hx
 | .cell b t::r,l,h=>by
  simp only[pJ,Option.bind_eq_some_iff,Option.map_eq_some_iff] at h;obtain⟨s,⟨s0,lB,hs⟩,l',kY,rfl⟩:=h;obtain⟨h1,h2⟩:=IE hS kY;have Dl:=Ie (V:=V) hs;have yu:s=s0:=by cases s0<;>simp_all [nH]
  subst yu;unfold FV at lB;split at lB
  ·rename_i k o hk;have ht:=hS.env b [] _ rh hk rfl;simp only[Option.bind_eq_some_iff] at lB;obtain⟨bx,Ds,lB⟩:=lB;split at lB;case isFalse=>cases lB
   rename_i bL;simp only[Option.bind_eq_some_iff] at lB;obtain⟨ag,jy,htk⟩:=lB;have agN:pv (.mk (k:=(P,t,U true,fun s' =>s' =s)) (st,.box k o)):=by
    simp only[pv,Ds,aP,jy,htk,bL,true_and]
   obtain⟨r',rfl,hy⟩:=MW hS agN;have hy:=hy rfl;simp only[zC,Instr.loadAt,Instr.sureAddr,Sem.run_bind,Sem.run_pure,Result.andThen_ok] at hy;refine⟨?_,fun x hx=> ?_⟩
   ·simp only[List.mapM_cons,Fi,Sem.run_bind,Sem.run_pure,Result.andThen_ok,bN];have:a.tmps.getD b undef= .pointer (some ⟨V.β k,o,none⟩):=by simp [Array.getD_eq_getD_getElem?,ht,zC]
    rw[this,XQ];simp only[Result.andThen_ok,hy,h1,Dl]
   ·rcases List.mem_cons.1 hx with rfl |hx
    ·exact Dl
    ·exact h2 x hx
  ·cases lB
theorem VM (hS:Sat C n st a V D w) {fn:Func} {res:List ResultVar} (hr:fn.results=⟨res⟩) {l:List SV} (h:pJ P st res=some l):(results fn a.tmps).run P w= .ok (den V (xS l)) w:=by
 obtain⟨h1,h2⟩:=IE hS h
 have hf:results fn a.tmps=(do
   let vs <- fn.results.mapM (Fi a.tmps)
   pure (if h:vs.size=1 then vs[0] else .tuple vs)):=by
  unfold results;congr 1
 rw[hf,hr];simp only[List.mapM_toArray,Sem.run_bind,Sem.run_map,h1,Result.andThen_ok,Sem.run_pure,List.size_toArray,List.length_map];cases l with
 |nil=>rfl
 |cons s r=>
  cases r with
  |nil=>
   simp only[aL,bh,Nat.zero_add,dite_true,bN,List.map_nil,xS];simp [h2 s (bY ..)]
  |cons s' r=>
   have:¬((s::s' ::r).length=1):=by simp
   simp only[dif_neg this];rfl
end
theorem RI:∀{l:List SV} {i t:Nat} {q:bV} {s:SV},gb (u7 i l) t q=some s->i<=t/\l[t - i]? =some s
 |[],i,t,q,s,h=>by simp [u7,gb] at h
 |x::r,i,t,q,s,h=>by
  simp only[u7,gb] at h;split at h
  ·rename_i e;subst e;split at h
   ·cases h;exact⟨au _,by simp⟩
   ·cases h
  ·rename_i e;obtain⟨h1,h2⟩:=RI h;refine⟨by omega,?_⟩;have:t - i=(t - (i+1))+1:=by omega
   rw[this,List.getElem?_cons_succ];exact h2
theorem IY:∀{l:List SV} {i:Nat} {e:Ev},e∈u7 i l->e.p=[]/\e.s∈l
 |[],i,e,h=>by simp [u7] at h
 |x::r,i,e,h=>by
  rcases List.mem_cons.1 h with rfl |h
  ·exact⟨rfl,bY ..⟩
  ·obtain⟨h1,h2⟩:=IY h;exact⟨h1,bR _ h2⟩
theorem PC {nid:Nat} {vc:List Vc}:∀{l:List SV},CK nid vc l->∀s∈l,jv nid vc s
 |x::r,h,s,hs=>by
  rcases List.mem_cons.1 hs with rfl |hs
  ·exact h.1
  ·exact PC h.2 s hs
theorem E0:∀{bx:List Bx} {b:Bx},b∈bx->b.id<nQ bx
 |⟨k,t,cs⟩::r,b,h=>by
  simp only[nQ];rcases List.mem_cons.1 h with rfl |h
  ·simp only;omega
  ·have:=E0 h;omega
theorem EY:∀{vc:List Vc} {b:Vc},b∈vc->b.id<nP vc
 |⟨k,u,e,z,n,xs⟩::r,b,h=>by
  simp only[nP];rcases List.mem_cons.1 h with rfl |h
  ·simp only;omega
  ·have:=EY h;omega
section
variable {P:Program} {c:Cfg}
theorem EN {V:Vl} {bx qS:List Bx} {vc fg:List Vc} (hb:∀b∈qS,b∈bx) (hv:∀b∈fg,b∈vc):∀g∈bq V ⟨qS,fg⟩,g∈bq V ⟨bx,vc⟩:=fun g hg=>by
 simp only[bq,List.mem_append,List.mem_map,List.mem_filterMap] at hg ⊢;rcases hg with ⟨x,hx,e⟩ |⟨x,hx,e⟩
 ·exact .inl ⟨x,hb x hx,e⟩
 ·exact .inr ⟨x,hv x hx,e⟩
theorem Xl {L:List Nat} {bx:List Bx} {b:Bx} (h:b∈gA L bx):b∈bx:=by
 rw[Bb,List.mem_filter] at h;exact h.1
theorem S3 {f:FuncId} {fn:Func} {code:Code} {res:List ResultVar} {args:List SV} {H:Hp} {m:Mem} {R:SV->Hp->Mem->Prop}
  (hf:P.funcs[f]? =some fn) (hb:fn.body=some code) (hr:fn.results=⟨res⟩) (hl:args.length<=fn.ntmps) (ar:Fl args H)
  (h:WP P fn.ntmps code (Av P res (Ar H) R) (C1 args H m)):FnH P f args H m R:=by
 intro V w D kI hm hH;refine calls_of_wp hf hb ?_;have eD:((⟨args.map (den V)⟩:Array Value)++Array.replicate (fn.ntmps - (⟨args.map (den V)⟩:Array Value).size) undef).size=fn.ntmps:=by
  simp only[Array.size_append,List.size_toArray,List.length_map,Array.size_replicate];omega
 have hS:Sat ⟨w,D,(· ∈bq V H),H,V,m⟩ fn.ntmps (C1 args H m) {tmps:=(⟨args.map (den V)⟩:Array Value)++Array.replicate (fn.ntmps - (⟨args.map (den V)⟩:Array Value).size) undef,defers:=[]} V D w:=by
  refine⟨⟨rfl,eD,fun e he=> ?_,fun t q s hq lE _=> ?_,fun g hg=>by cases hg⟩,fun e he=>PC ar.1 _ (IY he).2,?_⟩
  ·rw[(IY he).1];exact rh
  ·obtain⟨_,h2⟩:=RI lE;have ay:t<args.length:=(List.getElem?_eq_some_iff.1 h2).1;simp only[Nat.sub_zero] at h2;rw[Array.getElem?_append_left (by simpa using ay)];simp [h2]
  ·refine⟨hH,kI,Frm.refl _ _ _,fun b hb=> .inl hb,fun b hb=>⟨rfl,?_⟩,fun b hb=>⟨fun _ _=>rfl,?_,vx hH.uniq hb⟩,⟨fun b hb=>⟨?_,Ib ar.2 b hb⟩,fun b hb=> ?_⟩,Mem.le_refl _ kI,
    fun b=>⟨au _,fun h0=>⟨((hm b).2 h0).1,ub rfl⟩⟩,hm⟩
   ·exact eM (E0 hb) (Nat.le_max_left _ _)
   ·exact eM (EY hb) (Nat.le_max_right _ _)
   ·exact eM (E0 hb) (Nat.le_max_left _ _)
   ·exact eM (EY hb) (Nat.le_max_right _ _)
 refine wp_mono (h _ _ _ ⟨rfl,V,D,hS⟩) ?_;rintro e a2 w2 ⟨cA,⟨gE,V2,D2,hS2⟩,hq⟩;have fin:∀l:List SV,pJ P cA res=some l->R (xS l) ⟨gA (ur cA.bx (oK (Ar H) l)) cA.bx,fX (ur cA.bx (oK (Ar H) l)) cA.vc⟩ cA.m->
   a2.defers=[]/\∃v,(results fn a2.tmps).run P w2= .ok v w2/\∃(r:SV) (V' :Vl) (D' :Nat->Nat) (H' :Hp) (m' :Mem),
   Ending.returned v= .returned (den V' r)/\Wf w2 D' /\HSat V' D' w2 H' /\(∀b∈H.bx,V'.β b.id=V.β b.id)/\(∀b∈H.vc,∀u,u<=b.ver->V'.γ b.id u=V.γ b.id u)/\
   Frm (· ∈bq V H) w D w2 D' /\(∀b∈bq V' H',b∈bq V H\/w.heap.size<=b)/\
   Mem.le ⟨w,D⟩ ⟨w2,D'⟩/\m.le m' /\m'.le ⟨w2,D'⟩/\R r H' m' :=by
  intro l hl hR;have hW:=hS2.w;refine⟨hS2.f.defers,_,VM hS2 hr hl,xS l,V2,D2,_,cA.m,rfl,hW.wf,(D3 _ hW.heap).app.1,fun b hb=>(hW.baseB b hb).1,fun b hb=>(hW.baseV b hb).1,hW.frm,fun b hb=> ?_,hW.le0,hW.m0,hW.mle,hR⟩;exact hW.own b (EN (fun x hx=>Xl hx) (fun x hx=>(vB hx).1) b hb)
 cases e with
 |normal=>obtain⟨l,hl,hR⟩:=aO hq;exact fin l hl hR
 |ret=>obtain⟨l,hl,hR⟩:=aO hq;exact fin l hl hR
 |exit id=>exact hq.elim
 |goto l=>exact hq.elim
 |panic ch=>exact hq.elim
 |outgrown=>exact hq.elim
theorem enter (cf:Cfg) (ef:dt cf P) {f:FuncId} {fn:Func} {code:Code} {res:List ResultVar} {args:List SV} {H:Hp} {m:Mem} {R:SV->Hp->Mem->Prop}
  (hf:P.funcs[f]? =some fn) (hb:fn.body=some code) (hr:fn.results=⟨res⟩) (hd:jk fn.ntmps code=true) (hl:Nat.ble args.length fn.ntmps=true) (ar:Fl args H)
  (h:eb (.mk (k:=(cf,P,fn.ntmps,code,Av P res (Ar H) R)) (C1 args H m))):FnH P f args H m R:=
 S3 hf hb hr (dv hl) ar (qV ef hd h)
theorem FnH.mono {f:FuncId} {args:List SV} {H:Hp} {m:Mem} {R R' :SV->Hp->Mem->Prop} (h:FnH P f args H m R) (hR:∀r H' m',m.le m' ->R r H' m' ->R' r H' m'):FnH P f args H m R' :=
 fun V w D h1 h2 h3=>(h V w D h1 h2 h3).mono fun e w2 ⟨r,V',D',H',m',e1,e2,e3,e4,e5,e6,e7,e8,e9,jc,lW⟩=>⟨r,V',D',H',m',e1,e2,e3,e4,e5,e6,e7,e8,e9,jc,hR r H' m' e9 lW⟩
theorem tfi (p:Prop):(true=false->p)=True:=eq_true fun h=>by cases h
theorem fti (p:Prop):(false=true->p)=True:=eq_true fun h=>by cases h
theorem bo {f:FuncId} {args:List SV} {H:Hp} {m:Mem} {R:SV->Hp->Mem->Prop} (h:FnH P f args H m R):G8 (.mk (k:=(P,f,R)) (args,H,m)):=h
theorem WP.mono {n:Nat} {x:Code} {Q Q' :Exit->LS->Prop} {st:LS} (h:WP P n x Q st) (hQ:∀e ak,Q e ak->Q' e ak):WP P n x Q' st:=
 fun C a w hE=>wp_mono (h C a w hE) fun e _ _ ⟨ak,h1,h2⟩=>⟨ak,h1,hQ e ak h2⟩
end
theorem ab {P:Program} {f:FuncId} {args:List SV} {H:Hp} {m:Mem} {R:SV->Hp->Mem->Prop} (h:FnH P f args H m R) (hk:iY P f=true:=by kernel_rfl):iY P f=true/\G8 (.mk (k:=(P,f,R)) (args,H,m)):=⟨hk,bo h⟩
attribute [go_sem ↓] tfi fti reduceIte
theorem aR {P:Program} {cf:Cfg} (ef:dt cf P) {f:FuncId} {fn:Func} {code:Code} {res:List ResultVar} {args:List SV} {H:Hp} {m:Mem} {R:SV->Hp->Mem->Prop} (hf:P.funcs[f]? =some fn) (h:eb (.mk (k:=(cf,P,fn.ntmps,code,Av P res (Ar H) R)) (C1 args H m))) (hb:fn.body=some code:=by rfl) (hr:fn.results=⟨res⟩:=by rfl) (hd:jk fn.ntmps code=true:=by kernel_rfl) (hl:Nat.ble args.length fn.ntmps=true:=by rfl) (ar:Fl args H:=by simp only[go_sem]):FnH P f args H m R:=enter cf ef hf hb hr hd hl ar h
/-! The head of a loop. -/
theorem PX {st:LS}:∀{l:List Ev},Al st l->∀e∈l,gb st.env e.t []=some e.s/\e.p=[]
 |⟨t,p,s⟩::r,h,e,he=>by
  rcases List.mem_cons.1 he with rfl |he
  ·exact⟨h.1,h.2.1⟩
  ·exact PX h.2.2 e he
theorem Rm {st:LS}:∀{l:List Ev},Al st l->∀{t:Nat} {s:SV},gb l t []=some s->gb st.env t []=some s
 |⟨t',p',s'⟩::r,h,t,s,hl=>by
  simp only[gb] at hl;split at hl
  ·rename_i e;subst e;split at hl
   ·cases hl;exact h.1
   ·cases hl
  ·exact Rm h.2.2 hl
theorem aae {l:List Bx} {k:Nat} (h:iv l k=none):∀b∈l,b.id≠k:=by
 induction l with
 |nil=>intro b hb;cases hb
 |cons x r ih=>
  obtain⟨i',t',p'⟩:=x;simp only[iv] at h;split at h
  ·cases h
  ·rename_i e;intro b hb;rcases List.mem_cons.1 hb with rfl |hb
   ·exact e
   ·exact ih h b hb
theorem Jg {st:LS}:∀{l:List Bx},rZ st l->(∀b∈l,b∈st.bx)/\(l.map (·.id)).Nodup
 |[],_=>⟨fun b hb=>(by cases hb),List.nodup_nil⟩
 |⟨k,t,cs⟩::r,h=>by
  obtain⟨h1,h2,h3⟩:=h;obtain⟨i1,i2⟩:=Jg h3;refine⟨fun b hb=> ?_,?_⟩
  ·rcases List.mem_cons.1 hb with rfl |hb
   ·exact(uz h1).2
   ·exact i1 b hb
  ·simp only[bN,List.nodup_cons];refine⟨fun hm=> ?_,i2⟩;obtain⟨b,hb,e⟩:=List.mem_map.1 hm;exact aae h2 b hb e
theorem aac {l:List Vc} {k:Nat} {b:Vc} (h:np l k=some b):b.id=k/\b∈l:=by
 induction l with
 |nil=>cases h
 |cons x r ih=>
  obtain⟨i',u',e',z',n',x'⟩:=x;simp only[np] at h;split at h
  ·rename_i e;cases h;exact⟨e,bY ..⟩
  ·exact⟨(ih h).1,bR _ (ih h).2⟩
theorem YB {l:List Vc} {k:Nat} (h:np l k=none):∀b∈l,b.id≠k:=by
 induction l with
 |nil=>intro b hb;cases hb
 |cons x r ih=>
  obtain⟨i',u',e',z',n',x'⟩:=x;simp only[np] at h;split at h
  ·cases h
  ·rename_i e;intro b hb;rcases List.mem_cons.1 hb with rfl |hb
   ·exact e
   ·exact ih h b hb
theorem Jf {st:LS}:∀{l:List Vc},rY st l->(∀b∈l,b∈st.vc)/\(l.map (·.id)).Nodup
 |[],_=>⟨fun b hb=>(by cases hb),List.nodup_nil⟩
 |⟨k,u,e,z,n,xs⟩::r,h=>by
  obtain⟨h1,h2,h3⟩:=h;obtain⟨i1,i2⟩:=Jf h3;refine⟨fun b hb=> ?_,?_⟩
  ·rcases List.mem_cons.1 hb with rfl |hb
   ·exact(aac h1).2
   ·exact i1 b hb
  ·simp only[bN,List.nodup_cons];refine⟨fun hm=> ?_,i2⟩;obtain⟨b,hb,e⟩:=List.mem_map.1 hm;exact YB h2 b hb e
theorem zc {vc:List Vc} (hu:(vc.map (·.id)).Nodup) {k u:Nat}:cD vc k u↔∀b∈vc,b.id=k->u<=b.ver:=by
 induction vc with
 |nil=>simp [cD]
 |cons x r ih=>
  obtain⟨i',u',e',z',n',x'⟩:=x;simp only[bN,List.nodup_cons] at hu;simp only[cD];split
  ·rename_i e;subst e;constructor
   ·intro h b hb e;rcases List.mem_cons.1 hb with rfl |hb
    ·exact h
    ·exact absurd (List.mem_map.2 ⟨b,hb,e⟩) hu.1
   ·exact fun h=>h _ (bY ..) rfl
  ·rename_i e;rw[ih hu.2];constructor
   ·intro h b hb e';rcases List.mem_cons.1 hb with rfl |hb
    ·exact absurd e' e
    ·exact h b hb e'
   ·exact fun h b hb=>h b (bR _ hb)
theorem Ic {α β:Type} {f:α->β}:∀{l:List α},(l.map f).Nodup->∀x∈l,∀y∈l,f x=f y->x=y
 |a::r,h,x,hx,y,hy,e=>by
  simp only[bN,List.nodup_cons] at h;rcases List.mem_cons.1 hx with rfl |bP
  ·rcases List.mem_cons.1 hy with rfl |br
   ·rfl
   ·exact absurd (List.mem_map.2 ⟨y,br,e.symm⟩) h.1
  ·rcases List.mem_cons.1 hy with rfl |br
   ·exact absurd (List.mem_map.2 ⟨x,bP,e⟩) h.1
   ·exact Ic h.2 x bP y br e
theorem Ig {α β γ:Type} {f:α->β} {g:α->γ}:∀{l:List α},(l.map g).Nodup->(∀x∈l,∀y∈l,f x=f y->x=y)->(l.map f).Nodup
 |[],_,_=>List.nodup_nil
 |a::r,h,hi=>by
  simp only[bN,List.nodup_cons] at h ⊢;refine⟨fun hm=> ?_,Ig h.2 fun x hx y hy=>hi x (bR _ hx) y (bR _ hy)⟩;obtain⟨b,hb,e⟩:=List.mem_map.1 hm;have:=hi b (bR _ hb) a (bY ..) e;subst this;exact h.1 (List.mem_map.2 ⟨b,hb,rfl⟩)
theorem G9 {α β γ:Type} {f:α->Option β} {g:α->γ}:∀{l:List α},(l.map g).Nodup->(∀x∈l,∀y∈l,∀b,f x=some b->f y=some b->x=y)->(l.filterMap f).Nodup
 |[],_,_=>List.nodup_nil
 |a::r,h,hi=>by
  simp only[bN,List.nodup_cons] at h;have ih:=G9 (f:=f) h.2 fun x hx y hy=>hi x (bR _ hx) y (bR _ hy)
  rw[List.filterMap_cons];split
  ·exact ih
  ·rename_i b hb;refine List.nodup_cons.2 ⟨fun hm=> ?_,ih⟩;obtain⟨x,hx,e⟩:=List.mem_filterMap.1 hm;have:=hi x (bR _ hx) a (bY ..) b e hb;subst this;exact h.1 (List.mem_map.2 ⟨x,hx,rfl⟩)
theorem PJ {nid:Nat} {vc:List Vc}:∀{l:List Ev},CL nid vc l->∀e∈l,jv nid vc e.s
 |⟨t,p,s⟩::r,h,e,he=>by
  rcases List.mem_cons.1 he with rfl |he
  ·exact h.1
  ·exact PJ h.2 e he
theorem PI {nid:Nat} {vc:List Vc}:∀{l:List Bx},Ak nid vc l->∀b∈l,b.id<nid/\fO nid vc b.cs
 |⟨k,t,cs⟩::r,h,b,hb=>by
  rcases List.mem_cons.1 hb with rfl |hb
  ·exact⟨h.1,h.2.1⟩
  ·exact PI h.2.2 b hb
theorem PH {nid:Nat}:∀{l:List Vc},Aj nid l->∀b∈l,b.id<nid
 |⟨k,_,_,_,_,_⟩::r,h,b,hb=>by
  rcases List.mem_cons.1 hb with rfl |hb
  ·exact h.1
  ·exact PH h.2 b hb
section
variable {C:Ctx} {n:Nat} {st ak:LS} {a:Act} {V:Vl} {D:Nat->Nat} {w:World} {P:Program} {c:Cfg}
theorem SB {m m' kq:Mem} (h:ae m m') (h' :m'.le kq):m.le kq:=by
 rcases h with rfl |h
 ·exact h'
 ·exact Mem.le_trans h h'
theorem Sat.weaken (hS:Sat C n st a V D w) (hM:Match st ak) (ar:pL ak) (hB:∀b∈C.H0.bx,b.id<ak.nid) (hV:∀b∈C.H0.vc,b.id<ak.nid) (hm:C.m0.le ak.m):Sat C n ak a V D w:=by
 obtain⟨h1,h2,h3,h4,h5⟩:=hM;obtain⟨sD,hbu⟩:=Jg h3;obtain⟨gu,hvu⟩:=Jf h4;have hW:=hS.w;have qN:=hW.heap.apart;have ya:=List.nodup_append.1 qN;refine⟨⟨hS.f.defers,hS.f.size,fun e he=> ?_,fun t q s hq hl _=> ?_,fun g hg=>by rw[h2] at hg;cases hg⟩,PJ ar.1,?_⟩
 ·rw[(PX h1 e he).2];exact rh
 ·have:q=[]:=by
   cases q with
   |nil=>rfl
   |cons x q=>obtain⟨g,hg⟩:=hq x (bY ..);rw[h2] at hg;cases hg
  subst this;exact hS.env t [] s rh (Rm h1 hl) rfl
 ·refine⟨⟨fun b hb=>hW.heap.bx b (sD b hb),fun b hb=>hW.heap.vc b (gu b hb),?_,hvu⟩,hW.wf,hW.frm,fun g hg=>hW.own g (EN sD gu g hg),fun b hb=>⟨(hW.baseB b hb).1,hB b hb⟩,
   fun b hb=>⟨(hW.baseV b hb).1,hV b hb,?_⟩,⟨PI ar.2.1,PH ar.2.2⟩,hW.le0,hm,SB h5 hW.mle⟩
  ·refine List.nodup_append.2 ⟨?_,?_,fun x hx y hy=> ?_⟩
   ·exact Ig hbu fun x hx y hy e=>Ic ya.1 x (sD x hx) y (sD y hy) e
   ·exact G9 hvu fun x hx y hy b e1 e2=>ER (gu x hx) (gu y hy) e1 e2 ya.2.1
   ·refine ya.2.2 x ?_ y ?_
    ·obtain⟨z,hz,e⟩:=List.mem_map.1 hx;exact List.mem_map.2 ⟨z,sD z hz,e⟩
    ·obtain⟨z,hz,e⟩:=List.mem_filterMap.1 hy;exact List.mem_filterMap.2 ⟨z,gu z hz,e⟩
  ·refine(zc hvu).2 fun x hx e=> ?_
   exact(zc hW.heap.uniq).1 (hW.baseV b hb).2.2 x (gu x hx) e
theorem ei (ef:dt c P) {body:Code} {Q:Exit->LS->Prop} {X:Type} (S:X->LS) (I:X->Prop) (μ:X->Nat) (x0:X)
  (hd:jk n body=true) (hn:∀x,I x->st.nid<=(S x).nid) (hm:∀x,I x->ae st.m (S x).m) (ar:∀x,pL (S x)) (h0:Match st (S x0)) (hI:I x0)
  (round:∀x,I x->eb (.mk (k:=(c,P,n,body,j9 (fun ak=>∃x',Match ak (S x')/\I x' /\μ x' <μ x) Q)) (S x))):kv (.mk (k:=(P,n,.loop body,Q)) st):=by
 rintro C a w ⟨gE,V,D,hS⟩;have hB:∀b∈C.H0.bx,b.id<st.nid:=fun b hb=>(hS.w.baseB b hb).2
 have hV:∀b∈C.H0.vc,b.id<st.nid:=fun b hb=>(hS.w.baseV b hb).2.1
 have Dm:∀x,I x->C.m0.le (S x).m:=fun x hx=>by
  rcases hm x hx with e |h
  ·rw[<- e];exact hS.w.m0
  ·exact Mem.le_trans hS.w.m0 h
 have wb:∀(lR:LS) (a1:Act) (w1:World) (x:X),kn C n lR a1 w1->Match lR (S x)->I x->kn C n (S x) a1 w1:=by
  rintro lR a1 w1 x ⟨_,V1,D1,hS1⟩ hM hx;exact⟨hM.2.1,V1,D1,hS1.weaken hM (ar x) (fun b hb=>eM (hB b hb) (hn x hx)) (fun b hb=>eM (hV b hb) (hn x hx)) (Dm x hx)⟩
 refine wp_loop_ghost (fun k a w=>∃x,I x/\μ x=k/\kn C n (S x) a w) (μ x0) ⟨x0,hI,rfl,wb _ _ _ _ ⟨gE,V,D,hS⟩ h0 hI⟩ ?_;rintro k a1 w1 ⟨x,hx,rfl,hE⟩;refine wp_mono (qV ef hd (round x hx) C a1 w1 hE) ?_;rintro e a2 w2 ⟨cA,cu,hq⟩;cases e with
 |normal=>
  obtain⟨x',hM,bP,ay⟩:=hq;exact⟨μ x',ay,x',bP,rfl,wb _ _ _ _ cu hM bP⟩
 |exit id=>exact⟨cA,cu,hq⟩
 |goto l=>exact⟨cA,cu,hq⟩
 |ret=>exact⟨cA,cu,hq⟩
 |panic ch=>exact⟨cA,cu,hq⟩
 |outgrown=>exact⟨cA,cu,hq⟩
end
theorem du {P:Program} {c:Cfg} {n:Nat} {st:LS} (ef:dt c P) {body:Code} {Q:Exit->LS->Prop} {X:Type} (S:X->LS) (I:X->Prop) (μ:X->Nat) (x0:X) (hn:∀x,I x->st.nid<=(S x).nid) (hm:∀x,I x->ae st.m (S x).m) (h0:Match st (S x0)) (hI:I x0) (round:∀x,I x->eb (.mk (k:=(c,P,n,body,j9 (fun ak=>∃x',Match ak (S x')/\I x' /\μ x' <μ x) Q)) (S x))) (hd:jk n body=true:=by kernel_rfl) (ar:∀x,pL (S x):=by intro _;simp only[go_sem]):kv (.mk (k:=(P,n,.loop body,Q)) st):=ei ef S I μ x0 hd hn hm ar h0 hI round
def A.re {γ δ α:Type} {k:γ} (k' :δ):A k α->A k' α
 | .mk a=> .mk a
section
variable {P:Program} {op:BinOp} {t:TypeId} {k:IntKind} {u:Prop->Prop} {K:SV->Prop}
theorem xd {o:Option SV} (h:aP (.mk (k:=K) o)):∃s,K s/\aP (.mk (k:=(· =s)) o):=by
 obtain⟨s,rfl,h⟩:=aO h;exact Exists.intro s (And.intro h rfl)
theorem Bm:∀(x:A (k,u,K) Int),arith x->∃s,K s/\arith (x.re (k,u,(· =s))):=by
 rintro⟨n⟩ h;cases k<;>first
  |exact Exists.intro _ (And.intro h.2 (And.intro h.1 rfl))
  |exact Exists.intro _ (And.intro h rfl)
theorem aa7:∀(x:A (op,k,u,K) (Int×Int)),jJ x->∃s,K s/\jJ (x.re (op,k,u,(· =s))):=by
 rintro⟨a,b⟩ h;cases op;case add=>obtain⟨s,h1,h2⟩:=Bm _ h;exact Exists.intro s (And.intro h1 h2)
 case sub=>obtain⟨s,h1,h2⟩:=Bm _ h;exact Exists.intro s (And.intro h1 h2)
 case mul=>obtain⟨s,h1,h2⟩:=Bm _ h;exact Exists.intro s (And.intro h1 h2)
 case quo=>obtain⟨s,h1,h2⟩:=Bm _ h.2;exact Exists.intro s (And.intro h1 (And.intro h.1 h2))
 all_goals first
  |exact Exists.intro _ (And.intro h rfl)
  |exact Exists.intro _ (And.intro h.2 (And.intro h.1 rfl))
theorem aa5:∀(x:A (op,u,K) (List UInt8×List UInt8)),rK x->∃s,K s/\rK (x.re (op,u,(· =s))):=by
 rintro⟨a,b⟩ h;cases op;all_goals first
  |exact h.elim
  |exact Exists.intro _ (And.intro h rfl)
  |exact Exists.intro _ (And.intro h.2 (And.intro h.1 rfl))
theorem EU:∀(x:A (op,K) Bool),qz x->∃s,K s/\qz (x.re (op,(fun s0:SV=>s0=s))):=by
 rintro⟨a⟩ h;cases op;all_goals first
  |exact h.elim
  |exact Exists.intro _ (And.intro h rfl)
theorem aa6:∀(x:A (P,op,t,u,K) (SV×SV)),qy x->∃s,K s/\qy (x.re (P,op,t,u,(· =s))):=by
 intro x h;unfold qy at h;split at h
 ·obtain⟨s,h1,h2⟩:=aa7 _ h.2;exact Exists.intro s (And.intro h1 (And.intro h.1 h2))
 ·obtain⟨s,h1,h2⟩:=aa5 _ h;exact Exists.intro s (And.intro h1 h2)
 ·obtain⟨s,h1,h2⟩:=EU _ h.2;exact Exists.intro s (And.intro h1 (And.intro h.1 h2))
 ·obtain⟨h1,h2,h3⟩:=h;obtain⟨b,hb,h3⟩:=aO h3;obtain⟨s,h4,h5⟩:=EU _ h3;exact Exists.intro s (And.intro h4 (And.intro h1 (And.intro h2 (by rw[hb];exact h5))))
 ·obtain⟨h1,h2,h3⟩:=h;obtain⟨b,hb,h3⟩:=aO h3;obtain⟨s,h4,h5⟩:=EU _ h3;exact Exists.intro s (And.intro h4 (And.intro h1 (And.intro h2 (by rw[hb];exact h5))))
 ·exact h.elim
theorem Ye:∀(x:A (P,op,t,u,K) SV),vV x->∃s,K s/\vV (x.re (P,op,t,u,(· =s))):=by
 intro x h;unfold vV at h;split at h
 ·obtain⟨s,h1,h2⟩:=EU _ h.2.2;exact Exists.intro s (And.intro h1 (And.intro h.1 (And.intro h.2.1 h2)))
 ·exact h.elim
theorem Yo {md:PM}:∀(x:A (md,K) (Bool×SV×SV)),uL x->∃s,K s/\uL (x.re (md,(fun s0:SV=>s0=s))):=by
 intro x h;unfold uL at h;split at h;all_goals first
  |exact h.elim
  |exact Exists.intro _ (And.intro h rfl)
theorem ZJ:∀(x:A (u,K) SV),uR x->∃s,K s/\uR (x.re (u,(fun s0:SV=>s0=s))):=by
 intro x h;unfold uR at h;split at h;all_goals first
  |exact h.elim
  |exact Exists.intro _ (And.intro h rfl)
  |exact Exists.intro _ (And.intro h.2 (And.intro h.1 rfl))
theorem abM {op:UnOp}:∀(x:A (op,u,K) SV),vd x->∃s,K s/\vd (x.re (op,u,(fun s0:SV=>s0=s))):=by
 intro x h;unfold vd at h;split at h
 ·exact Exists.intro _ (And.intro h rfl)
 ·obtain⟨s,h1,h2⟩:=Bm _ h;exact Exists.intro s (And.intro h1 h2)
 ·exact h.elim
theorem Yi:∀(x:A (u,K) (LS×CvK×SV)),ry x->∃s,K s/\ry (x.re (u,(fun s0:SV=>s0=s))):=by
 intro x h;unfold ry at h;split at h
 ·exact Exists.intro _ (And.intro h rfl)
 ·exact Exists.intro _ (And.intro h rfl)
 ·obtain⟨b,hb,l,h1,h2⟩:=aO h;refine Exists.intro _ (And.intro h2 ?_);show aP _;rw[hb];exact⟨l,h1,rfl⟩
 ·obtain⟨l,h1,h2⟩:=h;exact Exists.intro _ (And.intro h2 (Exists.intro l (And.intro h1 rfl)))
 ·exact h.elim
theorem ZQ:∀(x:A (u,K) (LS×SV×Nat)),tq x->∃s,K s/\tq (x.re (u,(fun s0:SV=>s0=s))):=by
 intro x h;unfold tq at h;split at h
 ·exact Exists.intro _ (And.intro h rfl)
 ·obtain⟨b,hb,h1,h2⟩:=aO h;refine Exists.intro _ (And.intro h2 ?_);show aP _;rw[hb];exact⟨h1,rfl⟩
 ·exact Exists.intro _ (And.intro h.2 (And.intro h.1 rfl))
 ·exact h.elim
theorem ZP:∀(x:A (P,u,K) (LS×TypeId×SV×SV)),uU x->∃s,K s/\uU (x.re (P,u,(fun s0:SV=>s0=s))):=by
 intro x h;unfold uU at h;split at h
 ·exact Exists.intro _ (And.intro h.2.2 (And.intro h.1 (And.intro h.2.1 rfl)))
 ·obtain⟨b,hb,h0,h1,h2⟩:=aO h;refine Exists.intro _ (And.intro h2 ?_);show aP _;rw[hb];exact⟨h0,h1,rfl⟩
 ·exact h.elim
theorem abP:∀(x:A (P,t,u,K) (SV×SV)),wE x->∃s,K s/\wE (x.re (P,t,u,(fun s0:SV=>s0=s))):=by
 intro x h;unfold wE at h;split at h
 ·exact Exists.intro _ (And.intro h.2.2 (And.intro h.1 (And.intro h.2.1 rfl)))
 ·exact h.elim
theorem abN:∀(x:A (P,t,u,K) (SV×Option SV×Option SV)),vf x->∃s,K s/\vf (x.re (P,t,u,(fun s0:SV=>s0=s))):=by
 intro x h;unfold vf at h;split at h
 ·obtain⟨h0,h⟩:=h;obtain⟨l,hl,h⟩:=aO h;obtain⟨m,hm,h⟩:=aO h;refine Exists.intro _ (And.intro h.2 ?_);refine And.intro h0 ?_;show aP _;rw[hl];show aP _;rw[hm];exact And.intro h.1 rfl
 ·obtain⟨l,hl,h⟩:=aO h;obtain⟨m,hm,h⟩:=aO h;obtain⟨e,he,h0,h1,h2⟩:=aO h;refine Exists.intro _ (And.intro h2 ?_);show aP _;rw[hl];show aP _;rw[hm];show aP _;rw[he];exact And.intro h0 (And.intro h1 rfl)
 ·exact h.elim
theorem abO {m:Mem} {y:Value}:∀(x:A (m,y,u,K) (Option Nat)),yl x->∃s,K s/\yl (x.re (m,y,u,(fun s0:SV=>s0=s))):=by
 rintro⟨x⟩ h;cases x with
 |none=>obtain⟨c,h1,h2⟩:=h;exact Exists.intro _ (And.intro h2 (Exists.intro c (And.intro h1 rfl)))
 |some n=>obtain⟨c,h1,h2⟩:=h;exact Exists.intro _ (And.intro h2 (Exists.intro c (And.intro h1 rfl)))
theorem ZI {b:Vc} {o:Nat}:∀(x:A (b,o,u,K) (Option Nat)),xT x->∃s,K s/\xT (x.re (b,o,u,(fun s0:SV=>s0=s))):=by
 rintro⟨x⟩ h;cases x with
 |none=>exact Exists.intro _ (And.intro h.2 (And.intro h.1 rfl))
 |some n=>exact Exists.intro _ (And.intro h.2.2 (And.intro h.1 (And.intro h.2.1 rfl)))
theorem ZN {l:List Value} {key:Value}:∀(x:A (l,key,K) (Bool×Option Value)),uT x->∃s,K s/\uT (x.re (l,key,(fun s0:SV=>s0=s))):=by
 intro x h;unfold uT at h;split at h
 ·exact Exists.intro _ (And.intro h rfl)
 ·rename_i z;cases hf:my l key with
  |none=>exact Exists.intro _ (And.intro (h.2 hf) (And.intro (fun v hv=>by rw[hf] at hv;cases hv) (fun _=>rfl)))
  |some v=>exact Exists.intro _ (And.intro (h.1 v hf) (And.intro (fun v' hv=>by rw[hf] at hv;cases hv;rfl) (fun hv=>by rw[hf] at hv;cases hv)))
 ·rename_i z;cases hf:my l key with
  |none=>exact Exists.intro _ (And.intro (h.2 hf) (And.intro (fun v hv=>by rw[hf] at hv;cases hv) (fun _=>rfl)))
  |some v=>exact Exists.intro _ (And.intro (h.1 v hf) (And.intro (fun v' hv=>by rw[hf] at hv;cases hv;rfl) (fun hv=>by rw[hf] at hv;cases hv)))
 ·cases h
theorem ZM {c:Bool}:∀(x:A (P,t,c,K) (LS×SV×Option Value)),uS x->∃s,K s/\uS (x.re (P,t,c,(fun s0:SV=>s0=s))):=by
 intro x h;unfold uS at h;split at h
 ·obtain⟨b,hb,bL,ht,hk,h⟩:=aO h;obtain⟨l,hl,h⟩:=aO h;obtain⟨s,h1,h2⟩:=ZN _ h;refine Exists.intro s (And.intro h1 ?_);simp only[A.re,uS,aP,hb,hl,bL,true_and];exact⟨ht,hk,h2⟩
 ·cases h
theorem Yg:∀(x:A (P,t,u,K) (LS×SV)),pv x->∃s,K s/\pv (x.re (P,t,u,(fun s0:SV=>s0=s))):=by
 intro x h;unfold pv at h;split at h
 ·obtain⟨b,hb,bL,h⟩:=aO h;obtain⟨ag,jy,h⟩:=aO h;obtain⟨r,hr,h⟩:=aO h;refine Exists.intro _ (And.intro h ?_);simp only[A.re,pv,aP,hb,jy,hr,bL,and_self]
 ·obtain⟨b,hb,h⟩:=aO h;obtain⟨ag,jy,h⟩:=aO h;obtain⟨s,h1,h2⟩:=ZI _ h;refine Exists.intro _ (And.intro h1 ?_);show aP _;rw[hb];show aP _;rw[jy];exact h2
 ·obtain⟨ag,jy,h⟩:=aO h;obtain⟨s,h1,h2⟩:=abO _ h;refine Exists.intro _ (And.intro h1 ?_);show aP _;rw[jy];exact h2
 ·exact h.elim
theorem ZR:∀(x:A K (SV×Nat)),uV x->∃s,K s/\uV (x.re (fun s0:SV=>s0=s)):=by
 intro x h;unfold uV at h;split at h
 ·exact xd h
 ·exact xd h
 ·exact h.elim
theorem ZO:∀(x:A (P,t,K) (LS×SV)),tm x->∃s,K s/\tm (x.re (P,t,(fun s0:SV=>s0=s))):=by
 intro x h;unfold tm at h;split at h
 ·exact Exists.intro _ (And.intro h.2 (And.intro h.1 rfl))
 ·obtain⟨e,he,h⟩:=aO h;refine Exists.intro _ (And.intro h ?_);show aP _;rw[he];rfl
 ·obtain⟨e,he,h⟩:=aO h;obtain⟨b,hb,h⟩:=aO h;refine Exists.intro _ (And.intro h ?_);show aP _;rw[he];show aP _;rw[hb];rfl
 ·exact h.elim
theorem ZK:∀(x:A K (SV×SV)),we x->∃s,K s/\we (x.re (fun s0:SV=>s0=s)):=by
 intro x h;unfold we at h;split at h
 ·exact Exists.intro _ (And.intro h rfl)
 ·exact h.elim
theorem ZL:∀(x:A K (SV×SV)),wg x->∃s,K s/\wg (x.re (fun s0:SV=>s0=s)):=by
 intro x h;unfold wg at h;split at h
 ·exact Exists.intro _ (And.intro h rfl)
 ·exact h.elim
theorem Yf:∀(x:A K (SV×SV×SV×SV)),vW x->∃s,K s/\vW (x.re (fun s0:SV=>s0=s)):=by
 intro x h;unfold vW at h;split at h
 ·exact Exists.intro _ (And.intro h rfl)
 ·exact h.elim
theorem Yd {p:bV} {a b:Operand} {st:LS} {g:Gd}:∀(x:A (p,a,b,st,g,K) PM),uK x->∃s,K s/\uK (x.re (p,a,b,st,g,(fun s0:SV=>s0=s))):=by
 rintro⟨md⟩ h;unfold uK at h;split at h
 ·obtain⟨s,h1,h2⟩:=xd h.2;exact Exists.intro s (And.intro h1 (And.intro h.1 h2))
 ·obtain⟨s,h1,h2⟩:=xd h.2;exact Exists.intro s (And.intro h1 (And.intro h.1 h2))
 ·rename_i q;cases q;obtain⟨h0,h⟩:=h;obtain⟨x,hx,h⟩:=aO h;obtain⟨y,hy,h⟩:=aO h;obtain⟨s,h1,h2⟩:=Yo _ h;refine Exists.intro s (And.intro h1 (And.intro h0 ?_));rw[hx];show aP _;rw[hy];exact h2
theorem QX {op:Op}:∀(x:A (P,op,K) (LS×bV)),qOp x->∃s,K s/\qOp (x.re (P,op,(fun s0:SV=>s0=s))):=by
 intro x h;unfold qOp at h;split at h
 ·exact xd h
 ·exact xd h
 ·obtain⟨g,hg,h⟩:=aO h;obtain⟨s,h1,h2⟩:=Yd _ h;exact Exists.intro s (And.intro h1 (by simp only[A.re,qOp,aP,hg];exact h2))
 ·obtain⟨x,hx,h⟩:=aO h;obtain⟨s,h1,h2⟩:=ZJ _ h;exact Exists.intro s (And.intro h1 (by simp only[A.re,qOp,aP,hx];exact h2))
 ·obtain⟨x,hx,h⟩:=aO h;obtain⟨s,h1,h2⟩:=Ye _ h;exact Exists.intro s (And.intro h1 (by simp only[A.re,qOp,aP,hx];exact h2))
 ·rename_i Vu t x' y' ty ak p' cQ;obtain⟨x,hx,h⟩:=aO h;obtain⟨y,hy,h⟩:=aO h;obtain⟨s,h1,h2⟩:=aa6 _ h;have br:¬y' = .const .nilIface:=fun e=>by subst e;exact cQ _ _ rfl HEq.rfl
  exact Exists.intro s (And.intro h1 (by simp only[A.re,qOp,aP,hx,hy,br,false_implies,implies_true];exact h2))
 ·obtain⟨x,hx,h⟩:=aO h;obtain⟨s,h1,h2⟩:=abM _ h;exact Exists.intro s (And.intro h1 (by simp only[A.re,qOp,aP,hx];exact h2))
 ·obtain⟨x,hx,h⟩:=aO h;obtain⟨s,h1,h2⟩:=Yi _ h;exact Exists.intro s (And.intro h1 (by simp only[A.re,qOp,aP,hx];exact h2))
 ·obtain⟨x,hx,h⟩:=aO h;obtain⟨y,hy,h⟩:=aO h;obtain⟨s,h1,h2⟩:=ZQ _ h;exact Exists.intro s (And.intro h1 (by simp only[A.re,qOp,aP,hx,hy];exact h2))
 ·obtain⟨x,hx,h⟩:=aO h;obtain⟨y,hy,h⟩:=aO h;obtain⟨s,h1,h2⟩:=xd h;exact Exists.intro s (And.intro h1 (by simp only[A.re,qOp,aP,hx,hy];exact h2))
 ·obtain⟨x,hx,h⟩:=aO h;obtain⟨y,hy,h⟩:=aO h;obtain⟨z,hz,h⟩:=aO h;obtain⟨s,h1,h2⟩:=ZP _ h;exact Exists.intro s (And.intro h1 (by simp only[A.re,qOp,aP,hx,hy,hz];exact h2))
 ·obtain⟨x,hx,h⟩:=aO h;obtain⟨y,hy,h⟩:=aO h;obtain⟨s,h1,h2⟩:=abP _ h;exact Exists.intro s (And.intro h1 (by simp only[A.re,qOp,aP,hx,hy];exact h2))
 ·obtain⟨x,hx,h⟩:=aO h;obtain⟨y,hy,h⟩:=aO h;obtain⟨z,hz,h⟩:=aO h;obtain⟨s,h1,h2⟩:=abN _ h;exact Exists.intro s (And.intro h1 (by simp only[A.re,qOp,aP,hx,hy,hz];exact h2))
 ·obtain⟨x,hx,h⟩:=aO h;obtain⟨s,h1,h2⟩:=Yg _ h;exact Exists.intro s (And.intro h1 (by simp only[A.re,qOp,aP,hx];exact h2))
 ·obtain⟨x,hx,h⟩:=aO h;obtain⟨s,h1,h2⟩:=ZR _ h;exact Exists.intro s (And.intro h1 (by simp only[A.re,qOp,aP,hx];exact h2))
 ·obtain⟨h0,h⟩:=h;obtain⟨z,hz,h⟩:=aO h;obtain⟨cs,gX,h⟩:=aO h;exact Exists.intro _ (And.intro h (by simp only[A.re,qOp,aP,hz,gX];exact And.intro h0 trivial))
 ·obtain⟨x,hx,h⟩:=aO h;obtain⟨s,h1,h2⟩:=ZO _ h;exact Exists.intro s (And.intro h1 (by simp only[A.re,qOp,aP,hx];exact h2))
 ·obtain⟨x,hx,h⟩:=aO h;obtain⟨y,hy,h⟩:=aO h;obtain⟨s,h1,h2⟩:=ZK _ h;exact Exists.intro s (And.intro h1 (by simp only[A.re,qOp,aP,hx,hy];exact h2))
 ·obtain⟨x,hx,h⟩:=aO h;obtain⟨y,hy,h⟩:=aO h;obtain⟨s,h1,h2⟩:=ZM _ h;exact Exists.intro s (And.intro h1 (by simp only[A.re,qOp,aP,hx,hy];exact h2))
 ·obtain⟨x,hx,h⟩:=aO h;obtain⟨y,hy,h⟩:=aO h;obtain⟨s,h1,h2⟩:=ZL _ h;exact Exists.intro s (And.intro h1 (by simp only[A.re,qOp,aP,hx,hy];exact h2))
 ·obtain⟨x,hx,h⟩:=aO h;obtain⟨y,hy,h⟩:=aO h;obtain⟨z,hz,h⟩:=aO h;obtain⟨u,hu,h⟩:=aO h;obtain⟨s,h1,h2⟩:=Yf _ h;exact Exists.intro s (And.intro h1 (by simp only[A.re,qOp,aP,hx,hy,hz,hu];exact h2))
 ·exact h.elim
end
section
variable {n:Nat} {st:LS} {P:Program} {c:Cfg}
end
/-! Regions that draw their order, of quiet operations and pure calls. -/
def J0:OpK->Bool
 | .ac=>false
 |_=>true
section
variable {C:Ctx} {n:Nat} {st:LS} {a:Act} {V:Vl} {D:Nat->Nat} {w:World} {P:Program} {p:bV} {c:Cfg} {ops:Array Oper} {L:Nat->Prop} {i:Nat} {o:Oper}
def Cl (C:Ctx) (bx:List Bx) (vc:List Vc) (nid:Nat) (m:Mem) (V:Vl) (w:World):Prop:=∃V' D',Agree nid vc V V' /\SatW C bx vc nid m V' D' w
theorem SatW.drew {bx:List Bx} {vc:List Vc} {nid:Nat} {m:Mem} (h:SatW C bx vc nid m V D w) (k:Nat):SatW C bx vc nid m V D {w with drawn:=k}:=
 ⟨⟨h.heap.bx,h.heap.vc,h.heap.apart,h.heap.uniq⟩,h.wf,⟨h.frm.os,h.frm.tape,h.frm.output,h.frm.size,h.frm.same⟩,h.own,h.baseB,h.baseV,h.ids,h.le0,h.m0,h.mle⟩
theorem Ys (hF:SatF n st.env st.rho a V) (rJ:∀e∈st.env,jv st.nid st.vc e.s) {w0:World} (Gh:Cl C st.bx st.vc st.nid st.m V w0)
  (ef:dt c P) (hR:RInv ops L st.rho) (oX:¬L i) (iK:ops[i]? =some o) (hd:ng n o=true) (AK:J0 (gW c o.op)=true) (Cy:pathOf st o.guard=some p) {K:LS->Prop} (h:one (.mk (k:=(c,P,i,o,K)) (st,p)))
  {next:Act->Prop} (hn:∀ak a',K ak->SatF n ak.env ak.rho a' V->(∀e∈ak.env,jv st.nid st.vc e.s)->ak.bx=st.bx/\ak.vc=st.vc/\ak.nid=st.nid/\ak.m=st.m->RInv ops (fun k=>L k\/k=i) ak.rho->next a'):
  if Region.wanted o (yielded ops a.tmps) then o.quiet P a (Cl C st.bx st.vc st.nid st.m V) next else next (a.put o.dst undef):=by
 obtain⟨V0,D0,ha0,hW0⟩:=Gh;have Cf:∀{V' :Vl} {D' :Nat->Nat} {w' :World},Agree st.nid st.vc V V' ->SatW C st.bx st.vc st.nid st.m V' D' w' ->Sat C n st a V' D' w' :=fun ha hW=>⟨hF.agree rJ ha,rJ,hW⟩
 have AN:=Cf ha0 hW0;obtain⟨hp,hw⟩:=HM AN hR Cy;rw[hw];have back:∀{ak:LS} {a' :Act},Sat C n ak a' V0 D0 w0->ak.bx=st.bx/\ak.vc=st.vc/\ak.nid=st.nid/\ak.m=st.m->SatF n ak.env ak.rho a' V/\∀e∈ak.env,jv st.nid st.vc e.s:=by
  intro ak a' gv he;have hid:∀e∈ak.env,jv st.nid st.vc e.s:=by rw[<- he.2.1,<- he.2.2.1];exact gv.ids
  exact⟨gv.f.agree hid (fun k hk=>⟨((ha0 k hk).1).symm,fun u hu=>((ha0 k hk).2 u hu).symm⟩),hid⟩
 simp only[one] at h;unfold CJ at h;split at h
 ·rename_i q dead he;simp only[A.mk.injEq,Prod.mk.injEq] at he;obtain⟨hq,hdead,hit⟩:=he;have wu:∀(d:Option Nat) (p:bV) (s:SV),(E.put st d p s).bx=st.bx/\(E.put st d p s).vc=st.vc/\(E.put st d p s).nid=st.nid/\(E.put st d p s).m=st.m:=fun d p s=>by cases d<;>exact⟨rfl,rfl,rfl,rfl⟩
  have Ge:∀(d:Option Nat) (p:bV) (s:SV) (mv:Bool),(mq (E.put st d p s) i d p mv s).bx=st.bx/\(mq (E.put st d p s) i d p mv s).vc=st.vc/\(mq (E.put st d p s) i d p mv s).nid=st.nid/\(mq (E.put st d p s) i d p mv s).m=st.m:=fun d p s mv=>by
   rcases Ht (E.put st d p s) i d p mv s with e |⟨_,_,_,_,e⟩
   ·rw[e];exact wu d p s
   ·rw[e];exact wu d p s
  have Ub:∀(d:Option Nat) (p:bV) (s:SV) (mv:Bool),(mr (E.put st d p s) i d p mv).bx=st.bx/\(mr (E.put st d p s) i d p mv).vc=st.vc/\(mr (E.put st d p s) i d p mv).nid=st.nid/\(mr (E.put st d p s) i d p mv).m=st.m:=fun d p s mv=>by
   rcases Hu (E.put st d p s) i d p mv with e |⟨_,_,e⟩
   ·rw[e];exact wu d p s
   ·rw[e];exact wu d p s
  unfold xV at h;split at h
  ·rename_i ak p' q';cases q';have hc:=Er hdead;rw[hc];simp only[Bool.false_eq_true,if_false];obtain⟨h1,h2⟩:=Km AN hR oX iK hd hit hp hc (oy o.op);obtain⟨h3,h4⟩:=back h1 (Ub _ _ _ _);exact hn _ _ h h3 h4 (Ub _ _ _ _) h2
  ·rename_i ak p' q';cases q';obtain⟨s,⟨hs,hK⟩,hdet⟩:=QX _ h;have dE:∀w',Cl C st.bx st.vc st.nid st.m V w' ->cF st.rho p=true->(execOp a.eval o).run P w' = .ok (.value (den V s)) w' :=by
    rintro w' ⟨V',D',ha,hW⟩ hc;obtain⟨s',e,hr⟩:=H4 (Cf ha hW) hp (o:=o) rfl hdet;subst e;rw[hr hc,Eo ha hs]
   cases hc:cF st.rho p with
   |true=>
    simp only[if_true];refine⟨den V s,fun w' Dg=> ?_,?_⟩
    ·unfold Oper.quietAt;rw[dE w' Dg hc];exact⟨rfl,rfl⟩
    ·have e0:den V s=den V0 s:=(Eo ha0 hs).symm;obtain⟨h1,h2⟩:=CB AN hR oX iK hd hit hp hs (v:=den V s) (by rw[hc,e0];rfl) (oy o.op);obtain⟨h3,h4⟩:=back h1 (Ge _ _ _ _);exact hn _ _ hK h3 h4 (Ge _ _ _ _) h2
   |false=>
    simp only[Bool.false_eq_true,if_false];obtain⟨h1,h2⟩:=CB AN hR oX iK hd hit hp hs (v:=undef) (by rw[hc];rfl) (oy o.op);obtain⟨h3,h4⟩:=back h1 (Ge _ _ _ _);exact hn _ _ hK h3 h4 (Ge _ _ _ _) h2
  ·rename_i F ak p' q';cases q';obtain⟨y,hy,hB,hK⟩:=aO h;cases hc:cF st.rho p with
   |true=>
    simp only[if_true];obtain⟨f,args,ts,ho,hf⟩:=PA hq;obtain⟨ar,hFF⟩:=ef f F hf;rw[ho] at hy;simp only[zq,Option.bind_eq_some_iff] at hy;obtain⟨fe,⟨ss,yu,hvals⟩,hy⟩:=hy;refine⟨y.2,?_,?_⟩
    ·rintro w' ⟨V',D',ha,hW⟩;have gv:=Cf ha hW;have dE:=ID (w:=w') (a:=a) ho rfl ar;unfold Oper.quietAt;rw[dE];refine⟨rfl,?_⟩;have rA:args.map a.eval=⟨(fe.map SV.v).map (den V')⟩:=by
      apply Array.ext'
      rw[Array.toList_map,A2 gv hp hc yu,Hs hvals];simp only[List.map_map];exact(List.map_id'' (fun x=>rfl) fe).symm
     rw[rA];refine(hFF st.m fe y hy (hB hc) V' w' D' hW.wf hW.mle ⟨fun b hb=>(by cases hb),fun b hb=>(by cases hb),by simp [bq],by simp⟩).mono fun e w2 ⟨r,V2,D2,H',m',he,h1,h2,h3,h4,h5,h6,h7,h8,h9,hr,hH⟩=> ?_
     subst he;subst hr;exact⟨rfl,V',D2,ha,hW.quiet h1 h5 h7⟩
    ·obtain⟨h1,h2⟩:=Ae (i:=i) AN hR hd hit hp (s:= .v y.2) trivial (v:=y.2) (fun _=>rfl);obtain⟨h3,h4⟩:=back h1 (wu _ _ _);exact hn _ _ hK h3 h4 (wu _ _ _) h2
   |false=>
    simp only[Bool.false_eq_true,if_false];obtain⟨h1,h2⟩:=Ae (i:=i) AN hR hd hit hp (s:= .v y.2) trivial (v:=undef) (fun e=>by rw[hc] at e;cases e);obtain⟨h3,h4⟩:=back h1 (wu _ _ _);exact hn _ _ hK h3 h4 (wu _ _ _) h2
  ·rw[hq] at AK;cases AK
 ·cases h
theorem NR (ef:dt c P) {C:Ctx} {V:Vl} {w0:World} {bx:List Bx} {vc:List Vc} {nid:Nat} {m:Mem} (Gh:Cl C bx vc nid m V w0) {K:LS->Prop} {Q:Act->Prop}
  (hQ:∀ak a',K (clean ak)->SatF n ak.env ak.rho a' V->(∀e∈ak.env,jv nid vc e.s)->ak.bx=bx/\ak.vc=vc/\ak.nid=nid/\ak.m=m->Q a'):
  ∀(l:List Oper) (i:Nat) (st:LS) (a:Act),CH c P l i K st->SatF n st.env st.rho a V->(∀e∈st.env,jv nid vc e.s)->st.bx=bx/\st.vc=vc/\st.nid=nid/\st.m=m->RInv ops (· <i) st.rho->
   (∀j,l[j]? =ops[i+j]?)->(∀o∈l,ng n o=true/\J0 (gW c o.op)=true)->wpQuiet P ops (Cl C bx vc nid m V) Q l a
 |[],i,st,a,h,hF,rJ,he,hR,hl,hd=>hQ _ _ h hF rJ he
 |o::r,i,st,a,h,hF,rJ,he,hR,hl,hd=>by
  obtain⟨p,hp,h⟩:=aO h;have iK:ops[i]? =some o:=by have:=hl 0;simpa using this.symm
  obtain⟨rfl,rfl,rfl,rfl⟩:=he;unfold wpQuiet;refine Ys hF rJ Gh ef hR (Nat.lt_irrefl _) iK (hd o (bY ..)).1 (hd o (bY ..)).2 hp h fun ak a' hK vo FP sA vn=> ?_
  exact NR ef Gh hQ r (i+1) ak a' hK vo FP sA (vn.mono fun k hk=>by omega) (fun j=>by have:=hl (j+1);simpa [Nat.add_assoc,Nat.add_comm 1 j] using this) (fun o ho=>hd o (bR _ ho))
theorem lH (ef:dt c P) {id:Nat} {l:List Oper} {Q:Exit->LS->Prop} {st:LS} (hm:P.follows .mixedOrders=true) (hB:Region.lexB .any ⟨l⟩=true) (hd:l.all (fun o=>ng n o&&J0 (gW c o.op))=true)
  (h:AD (.mk (k:=(c,P,0,l,Q .normal)) st)):kv (.mk (k:=(P,n,.region id ⟨l⟩ true,Q)) st):=by
 rintro C a w ⟨gE,V,D,hS⟩;have cH:Cl C st.bx st.vc st.nid st.m V {w with drawn:=w.drawn+1}:=⟨V,D,Agree.refl _ _ _,hS.w.drew _⟩;refine wp_region_quiet (C:=Cl C st.bx st.vc st.nid st.m V) hm hB cH ?_;refine NR (ops:=⟨l⟩) ef cH (K:=Q .normal) ?_ l 0 st a h hS.f hS.ids ⟨rfl,rfl,rfl,rfl⟩ ?_ (fun j=>by simp) (fun o ho=> ?_)
 ·rintro ak a' hK vo FP ⟨e1,e2,e3,e4⟩ w' ⟨V',D',ha,hW⟩;refine⟨clean ak,?_,hK⟩;have gv:Sat C n ak a' V' D' w' :=⟨vo.agree FP ha,by rw[e2,e3];exact FP,by rw[e1,e2,e3,e4];exact hW⟩;exact Hy gv
 ·rw[gE];intro g hg;cases hg
 ·have:=List.all_eq_true.1 hd o ho;simpa using this
end
/-! Functions of values, listed. -/
def AI:List (FuncId×(List Value->Option (Prop×Value)))->FuncId->Option (List Value->Option (Prop×Value))
 |[],_=>none
 |(g,F)::r,f=>if g=f then some F else AI r f
def gC (own:FuncId->Bool) (L:List (FuncId×(List Value->Option (Prop×Value)))):Cfg:=⟨own,fun f=>(AI L f).map fun F _=>F⟩
attribute [go_sem] AI.eq_1 AI.eq_2 gC.eq_1
theorem pure_nil {P:Program} {own:FuncId->Bool}:dt (gC own []) P:=fun f F h=>by cases h
theorem pure_cons {P:Program} {own:FuncId->Bool} {L:List (FuncId×(List Value->Option (Prop×Value)))} {g:FuncId} {F:List Value->Option (Prop×Value)} (ar:iY P g=true)
  (h:∀fe y,F fe=some y->y.1->∀m,FnH P g (fe.map SV.v) ⟨[],[]⟩ m (fun r H' _=>r= .v y.2/\H' =⟨[],[]⟩)) (hL:dt (gC own L) P):dt (gC own ((g,F)::L)) P:=by
 intro f G hf;by_cases e:g=f
 ·subst e;simp only[gC,AI,if_true,Option.map_some,dT] at hf;subst hf;exact⟨ar,fun m fe y hy hB=>h fe y hy hB m⟩
 ·simp only[gC,AI,af e] at hf;exact hL f G hf
/-! .. and functions of values and of what lies in memory. -/
def AH:List (FuncId×(Mem->List Value->Option (Prop×Value)))->FuncId->Option (Mem->List Value->Option (Prop×Value))
 |[],_=>none
 |(g,F)::r,f=>if g=f then some F else AH r f
def z6 (own:FuncId->Bool) (L:List (FuncId×(Mem->List Value->Option (Prop×Value)))):Cfg:=⟨own,AH L⟩
attribute [go_sem] AH.eq_1 AH.eq_2 z6.eq_1
theorem anQ {P:Program} {own:FuncId->Bool}:dt (z6 own []) P:=fun f F h=>by cases h
theorem anP {P:Program} {own:FuncId->Bool} {L:List (FuncId×(Mem->List Value->Option (Prop×Value)))} {g:FuncId} {F:Mem->List Value->Option (Prop×Value)} (ar:iY P g=true)
  (h:∀m fe y,F m fe=some y->y.1->FnH P g (fe.map SV.v) ⟨[],[]⟩ m (fun r H' _=>r= .v y.2/\H' =⟨[],[]⟩)) (hL:dt (z6 own L) P):dt (z6 own ((g,F)::L)) P:=by
 intro f G hf;by_cases e:g=f
 ·subst e;simp only[z6,AH,if_true,dT] at hf;subst hf;exact⟨ar,h⟩
 ·simp only[z6,AH,af e] at hf;exact hL f G hf
def wy (ops:Array Oper):Nat->Nat->Nat->Bool
 |0,_,_=>false
 |f+1,j,i=>match ops[j]? with
  |some o=>o.after.toList.any fun e=>Region.binds .any e&&(e.on==i||wy ops f e.on i)
  |none=>false
def pZ (ops:Array Oper) (j i:Nat):Prop:=∃f,wy ops f j i=true
def Closed (ops:Array Oper) (listed:Array Bool) (i:Nat):Prop:=∀k,listed.getD k false=true->pZ ops k i->listed.getD i false=true
section
variable {P:Program} {ops:Array Oper} {Q:Exit->Act->World->Prop} {Cw:World->Prop}
theorem Iy {listed:Array Bool} {i:Nat} (h:listed.getD i true=false):listed.getD i false=false:=by
 rcases Nat.lt_or_ge i listed.size with h' |h'
 ·simp only[Array.getD,h',dite_true] at h ⊢;exact h
 ·simp [Array.getElem?_eq_none h'] at h
theorem Wm {listed:Array Bool} {i j:Nat} (hc:Closed ops listed i) (hi:listed.getD i false=false) (hj:j∈Region.ready .any ops listed):¬pZ ops j i:=by
 rintro⟨f,hf⟩;obtain⟨_,o,ho,gm⟩:=mem_ready.1 hj;cases f with
 |zero=>cases hf
 |succ f=>
  simp only[wy,ho] at hf;obtain⟨e,he,h⟩:=List.any_eq_true.1 hf;simp only[aD,Bool.or_eq_true,beq_iff_eq] at h;have hl:=gm e (by simpa using he) h.1;rcases h.2 with h2 |h2
  ·rw[h2,hi] at hl;cases hl
  ·have:=hc _ hl ⟨f,h2⟩;rw[hi] at this;cases this
theorem Closed.set {listed:Array Bool} {i j:Nat} (hc:Closed ops listed i) (hj:¬pZ ops j i):Closed ops (listed.setIfInBounds j true) i:=fun k hk hd=>by
 by_cases e:j=k
 ·subst e;exact absurd hd hj
 ·rw[getD_set_ne false e] at hk;exact getD_set_true (hc k hk hd)
theorem Closed.done {listed:Array Bool} {i:Nat} (h:listed.getD i false=true):Closed ops listed i:=fun _ _ _=>h
def YW (P:Program) (ops:Array Oper) (Cw:World->Prop) (o:Oper) (v:Value) (a:Act):Prop:=
 (Region.wanted o (yielded ops a.tmps)=true/\∀w,Cw w->(execOp a.eval o).run P w= .ok (.value v) w)\/(Region.wanted o (yielded ops a.tmps)=false/\v=undef)
theorem YW.same {o:Oper} {v:Value} {a a' :Act} (hy:YW P ops Cw o v a) (he:execOp a'.eval o=execOp a.eval o) (hw:Region.wanted o (yielded ops a'.tmps)=Region.wanted o (yielded ops a.tmps)):YW P ops Cw o v a' :=by
 unfold YW at *;rw[he,hw];exact hy
theorem YW.wpOp {i:Nat} {o:Oper} {v:Value} {a:Act} (hi:ops[i]? =some o) (hy:YW P ops Cw o v a) {K:Act->World->Prop} {w:World} (hw:Cw w) (h:K (a.put o.dst v) w):wpOp P ops Q i K a w:=by
 unfold Go.wpOp;simp only[hi];rcases hy with ⟨Ls,hv⟩ |⟨Ls,rfl⟩
 ·simp only[Ls,if_true,Oper.wp,hv w hw,Oper.upon];exact .inl h
 ·simp only[Ls,Bool.false_eq_true,if_false];exact h
theorem XR {j:Nat} {oi oj:Oper} {v:Value} (hj:ops[j]? =some oj) (qN:oi.apart ops oj=true) (hsi:∀cs b,oi.op≠ .select cs b) (UO:∀cs b,oj.op≠ .select cs b)
  (hQ:∀c a w,¬Q (.panic c) a w) {K:Act->World->Prop} {a:Act} {w:World} (hy:YW P ops Cw oi v a) (h:wpOp P ops Q j K (a.put oi.dst v) w):
  wpOp P ops Q j (fun a' w' =>YW P ops Cw oi v a' /\K (a'.put oi.dst v) w') a w:=by
 obtain⟨h1,h2,h3⟩:=Oper.apart_spec qN;have uX:∀(a:Act),YW P ops Cw oi v a->∀u,YW P ops Cw oi v (a.put oj.dst u):=fun a hy u=>
  hy.same (execOp_put oi hsi a oj.dst u h3) (wanted_put oi a oj.dst u h3)
 have agi:∀d,YW P ops Cw oi v {a with defers:=d::a.defers}:=fun d=>hy.same rfl rfl
 unfold wpOp at *;simp only[hj] at *;rw[wanted_put oj a oi.dst v h1] at h;split
 ·rename_i hw;simp only[hw,if_true] at h;rcases h with h |⟨TI,hlets⟩
  case inr=>exact .inr ⟨by unfold Oper.asks at *;rw[execOp_put oj UO a oi.dst v h1] at TI;exact TI,hlets⟩
  refine .inl ?_;unfold Oper.wp at *;rw[execOp_put oj UO a oi.dst v h1] at h;generalize (execOp a.eval oj).run P w=r at *
  cases r with
  |ok n w' =>
   cases n<;>simp only[Oper.upon] at h ⊢;case value u=>exact⟨uX a hy u,by rw[<- Act.put_comm a v u h2];exact h⟩
   case skip=>exact⟨uX a hy _,by rw[<- Act.put_comm a v undef h2];exact h⟩
   case defer d=>
    refine⟨uX _ (agi d) _,?_⟩;rw[<- Act.put_comm _ v undef h2,<- Act.put_defers];exact h
   case enter f args=>
    refine Calls.mono h fun e qB he=> ?_
    cases e with
    |returned u=>exact⟨uX a hy u,by rw[<- Act.put_comm a v u h2];exact he⟩
    |panicked c=>exact absurd he (hQ _ _ _)
    |outgrown=>exact he
   case row row args=>exact Rows.mono h fun u qB he=>⟨uX a hy u,by rw[<- Act.put_comm a v u h2];exact he⟩
  |halt x w' =>
   cases x<;>simp only[Oper.upon] at h ⊢;case panic u=>exact absurd h (hQ _ _ _)
 ·rename_i hw;simp only[hw] at h;exact⟨uX a hy _,by rw[<- Act.put_comm a v undef h2];exact h⟩
def rl (P:Program) (ops:Array Oper) (Q:Exit->Act->World->Prop):Nat->(Nat×(World->Prop)->Prop)->Array Bool->Act->World->Prop
 |0,_,listed,a,w=>Region.ready .any ops listed=[]/\Q .normal a w
 |fuel+1,I,listed,a,w=>
  (Region.ready .any ops listed=[]->Q .normal a w)/\
  ∀j∈Region.ready .any ops listed,wpOp P ops Q j (fun a' w' =>(∀x,I x->¬pZ ops j x.1->x.2 w')/\rl P ops Q fuel (fun x=>I x/\¬pZ ops j x.1) (listed.setIfInBounds j true) a' w') a w
theorem M6:∀(fuel:Nat) (I:Nat×(World->Prop)->Prop) (listed:Array Bool) (a:Act) (w:World),rl P ops Q fuel I listed a w->wpAny P .any ops Q fuel listed a w
 |0,_,_,_,_,h=>h
 |fuel+1,_,_,_,_,h=>⟨h.1,fun j hj=>wpOp_mono (fun a' w' h' =>M6 fuel _ _ a' w' h'.2) (h.2 j hj)⟩
theorem AX:∀(fuel:Nat) (I J:Nat×(World->Prop)->Prop) (_:∀i,J i->I i) (listed:Array Bool) (a:Act) (w:World),rl P ops Q fuel I listed a w->rl P ops Q fuel J listed a w
 |0,_,_,_,_,_,_,h=>h
 |fuel+1,I,J,hI,_,_,_,h=>⟨h.1,fun j hj=>wpOp_mono (fun a' w' h' =>⟨fun x h1 h2=>h'.1 x (hI x h1) h2,AX fuel _ _ (fun x hx=>⟨hI x hx.1,hx.2⟩) _ a' w' h'.2⟩) (h.2 j hj)⟩
theorem hoist {i:Nat} {oi:Oper} {v:Value} (hi:ops[i]? =some oi) (F8:∀(j:Nat) (o:Oper) cs b,ops[j]? =some o->o.op≠ .select cs b) (hQ:∀c a w,¬Q (.panic c) a w):
  ∀(fuel:Nat) (I:Nat×(World->Prop)->Prop) (listed:Array Bool) (a:Act) (w:World),
   (∀j oj,ops[j]? =some oj->j≠i->listed.getD j true=false->(∀e∈oj.after,Region.binds .any e=true->e.on≠i)->oi.apart ops oj=true)->
   Closed ops listed i->i∈Region.ready .any ops listed->YW P ops Cw oi v a->Cw w->(∀x,I x->x.2 w)->
   rl P ops Q fuel (fun x=>x=(i,Cw)\/I x) (listed.setIfInBounds i true) (a.put oi.dst v) w->rl P ops Q (fuel+1) I listed a w:=by
 intro fuel;induction fuel with
 |zero=>
  intro I listed a w _ _ hr hy hC hI H;refine⟨fun h=>(by rw[h] at hr;cases hr),fun j hj=> ?_⟩;by_cases hji:j=i
  ·subst hji;exact hy.wpOp hi hC ⟨fun x h1 _=>hI x h1,H⟩
  ·have:=ready_mono hj hji;rw[H.1] at this;cases this
 |succ fuel ih=>
  intro I listed a w FQ cH hr hy hC hI H;refine⟨fun h=>(by rw[h] at hr;cases hr),fun j hj=> ?_⟩;by_cases hji:j=i
  ·subst hji;exact hy.wpOp hi hC ⟨fun x h1 _=>hI x h1,AX _ _ _ (fun x hx=> .inr hx.1) _ _ _ H⟩
  ·have h1:=H.2 j (ready_mono hj hji);obtain⟨T7,oj,hoj,gm⟩:=mem_ready.1 hj;have T8:=Iy (mem_ready.1 hr).1;have iL:=Wm cH T8 hj;have At:∀e∈oj.after,Region.binds .any e=true->e.on≠i:=fun e he hb heq=>by
    have h1:=gm e he hb;rw[heq,T8] at h1;cases h1
   have h2:=XR hoj (FQ j oj hoj hji T7 At) (fun cs b=>F8 i oi cs b hi) (fun cs b=>F8 j oj cs b hoj) hQ hy h1;have aez:∀k ok,ops[k]? =some ok->k≠i->(listed.setIfInBounds j true).getD k true=false->
     (∀e∈ok.after,Region.binds .any e=true->e.on≠i)->oi.apart ops ok=true:=fun k ok hk hki AJ mN=>by
    refine FQ k ok hk hki ?_ mN;by_cases qH:j=k
    ·subst qH;exact T7
    ·rw[getD_set_ne true qH] at AJ;exact AJ
   refine wpOp_mono (fun a' w' h3=> ?_) h2;obtain⟨br,hC',h3⟩:=h3;have aj8:=hC' (i,Cw) (.inl rfl) iL;have fG:∀x,I x/\¬pZ ops j x.1->x.2 w' :=fun x hx=>hC' x (.inr hx.1) hx.2
   refine⟨fun x h1 h2=>fG x ⟨h1,h2⟩,ih _ (listed.setIfInBounds j true) a' w' aez (cH.set iL) (ready_mono hr (Ne.symm hji)) br aj8 fG ?_⟩;rw[Array.setIfInBounds_comm _ _ hji];refine AX _ _ _ (fun x hx=> ?_) _ _ _ h3;rcases hx with rfl |hx
   ·exact⟨.inl rfl,iL⟩
   ·exact⟨.inr hx.1,hx.2⟩
end
inductive Plan where
 |done
 |stop
 |hoist (i:Nat) (r:Plan)
 |alt (j:Nat) (ow:List Nat) (r next:Plan)
structure HX where
 i:Nat
 bx:List Bx
 vc:List Vc
 m:Mem
def r0:List Oper->Nat->Option Oper
 |[],_=>none
 |o::_,0=>some o
 |_::r,n+1=>r0 r n
def xL (st:LS) (p:bV):List Operand->List Nat->List Nat
 |[],acc=>acc
 |x::r,acc=>rdIds1 st p r acc (cU st p x)
where rdIds1 (st:LS) (p:bV) (r:List Operand) (acc:List Nat):Option SV->List Nat
 |some s=>xL st p r (oK acc [s])
 |none=>xL st p r acc
def mo:Op->List Operand
 | .load _ a=>[a]
 | .convert _ _ a=>[a]
 | .fieldAddr _ a _=>[a]
 | .indexAddr _ a _=>[a]
 | .call {args:=⟨[x]⟩,..}=>[x]
 | .move _=>[]
 | .assign _=>[]
 | .pick _ _ _=>[]
 | .nilCheck _=>[]
 | .binOp _ _ _ _ _=>[]
 | .unOp _ _ _=>[]
 | .field _ _ _=>[]
 | .index _ _ _=>[]
 | .slice _ _ _ _ _=>[]
 | .extract _ _=>[]
 | .build _ _=>[]
 |_=>[]
def ql (ow:List Nat):List HX->List HX
 |[]=>[]
 |⟨i,bx,vc,m⟩::r=>if jm ow i=true then⟨i,bx,vc,m⟩::ql ow r else ql ow r
def ym (st:LS):List HX->Prop
 |[]=>True
 |⟨_,bx,vc,m⟩::r=>rZ st bx/\rY st vc/\ae m st.m/\ym st r
def F7 {P:Program} {o:Oper} {p:bV} {st:LS} {i:Nat} {K:LS->HX->Prop} (x:A (P,o,p,st,i,K) (OpK×Bool×Bool×List Nat)):Prop:=
 match x with
 | .mk (_,true,false,_)=>K (mr (put st o.dst p (.v undef)) i o.dst p (oy o.op)) ⟨i,[],[],st.m⟩
 | .mk (.qt,false,false,ks)=>qOp (.mk (k:=(P,o.op,fun s=>jv st.nid st.vc s/\K (mq (put st o.dst p s) i o.dst p (oy o.op) s) ⟨i,gA ks st.bx,fX ks st.vc,st.m⟩)) (⟨st.env,st.rho,gA ks st.bx,fX ks st.vc,st.nid,st.m⟩,p))
 |_=>False
def jb {c:Cfg} {P:Program} {o:Oper} {i:Nat} {K:LS->HX->Prop} (x:A (c,P,o,i,K) (LS×bV)):Prop:=
 match x with
 | .mk (st,p)=>F7 (.mk (k:=(P,o,p,st,i,K)) (gW c o.op,v7 st.rho p,kD st.rho o.dst,xL st p (mo o.op) []))
def xQ (c:Cfg) (P:Program) (l:List Oper) (K:LS->Prop):Plan->List HX->LS->Prop
 | .done,_,st=>K (clean st)
 | .stop,_,_=>True
 | .hoist i r,I,st=>aP (.mk (k:=fun o:Oper=>aP (.mk (k:=fun p:bV=>jb (.mk (k:=(c,P,o,i,fun ak X=>xQ c P l K r (X::I) ak)) (st,p))) (pathOf st o.guard))) (r0 l i))
 | .alt j ow r nx,I,st=>aP (.mk (k:=fun o:Oper=>aP (.mk (k:=fun p:bV=>one (.mk (k:=(c,P,j,o,fun ak=>ym ak (ql ow I)/\xQ c P l K r (ql ow I) ak)) (st,p))) (pathOf st o.guard))) (r0 l j))/\xQ c P l K nx I st
def wC {c:Cfg} {P:Program} {l:List Oper} {K:LS->Prop} {pl:Plan} {I:List HX} (x:A (c,P,l,K,pl,I) LS):Prop:=match x with | .mk st=>xQ c P l K pl I st
/-! Does the plan fit the region? -/
def lX (ops:Array Oper):Plan->Nat->List Nat->Array Bool->Option (List Nat)->Bool
 | .done,_,_,listed,none=>(Region.ready .any ops listed).isEmpty
 | .hoist i r,f+1,H,listed,none=>Region.free .any ops listed i&&(Region.ready .any ops listed).contains i&&lX ops r f (i::H) (listed.setIfInBounds i true) none
 | .alt j ow r nx,f+1,H,listed,none=>(Region.ready .any ops listed).contains j&&H.all (fun i=>jm ow i||wy ops ops.size j i)&&
   lX ops r f (H.filter (jm ow)) (listed.setIfInBounds j true) none&&lX ops nx (f+1) H listed (some ((Region.ready .any ops listed).filter (· != j)))
 | .alt j ow r nx,f+1,H,listed,some R=>R.contains j&&(Region.ready .any ops listed).contains j&&H.all (fun i=>jm ow i||wy ops ops.size j i)&&
   lX ops r f (H.filter (jm ow)) (listed.setIfInBounds j true) none&&lX ops nx (f+1) H listed (some (R.filter (· != j)))
 | .stop,_,_,_,some R=>R.isEmpty
 |_,_,_,_,_=>false
section
variable {ops:Array Oper}
def AllClosed (ops:Array Oper) (listed:Array Bool):Prop:=∀i,Closed ops listed i
theorem Pg {listed:Array Bool} {j:Nat} (hj:j∈Region.ready .any ops listed):j<listed.size:=by
 have h:=(mem_ready.1 hj).1;rcases Nat.lt_or_ge j listed.size with h' |h'
 ·exact h'
 ·simp [Array.getElem?_eq_none h'] at h
theorem QJ {listed:Array Bool} {j:Nat} (hj:j<listed.size):(listed.setIfInBounds j true).getD j false=true:=by simp [hj]
theorem X4 {listed:Array Bool} {j k:Nat} (h:(listed.setIfInBounds j true).getD k false=true):k=j\/listed.getD k false=true:=by
 by_cases e:j=k
 ·exact .inl e.symm
 ·rw[getD_set_ne false e] at h;exact .inr h
theorem AllClosed.set {listed:Array Bool} {j:Nat} (hc:AllClosed ops listed) (hj:j∈Region.ready .any ops listed):AllClosed ops (listed.setIfInBounds j true):=by
 intro i k hk hd;refine getD_set_true ?_;rcases X4 hk with rfl |hk
 ·obtain⟨_,o,ho,gm⟩:=mem_ready.1 hj;obtain⟨f,hf⟩:=hd;cases f with
  |zero=>cases hf
  |succ f=>
   simp only[wy,ho] at hf;obtain⟨e,he,h⟩:=List.any_eq_true.1 hf;simp only[aD,Bool.or_eq_true,beq_iff_eq] at h;have hl:=gm e (by simpa using he) h.1;rcases h.2 with h2 |h2
   ·rw[<- h2];exact hl
   ·exact hc i _ hl ⟨f,h2⟩
 ·exact hc i k hk hd
theorem Jh:∀{l:List Oper} {i:Nat} {o:Oper},r0 l i=some o->l[i]? =some o
 |[],_,_,h=>by cases h
 |o::r,0,o',h=>h
 |o::r,n+1,o',h=>by
  simp only[r0] at h;simpa using Jh h
end
section
variable {C:Ctx} {n:Nat} {st:LS} {a:Act} {V:Vl} {D:Nat->Nat} {w:World} {P:Program} {p:bV} {c:Cfg} {ops:Array Oper} {L:Nat->Prop} {i:Nat} {o:Oper}
structure SX where
 h:HX
 nid:Nat
 vc:List Vc
 V:Vl
def SX.cl (C:Ctx) (x:SX) (w:World):Prop:=∃V' D',Agree x.nid x.vc x.V V' /\SatW C x.h.bx x.h.vc x.nid x.h.m V' D' w
structure SX.ok (C:Ctx) (st:LS) (V:Vl) (x:SX):Prop where
 step:Step x.nid x.vc st.nid st.vc x.V V
 hd:pL ⟨[],[],x.h.bx,x.h.vc,x.nid,x.h.m⟩
 b:∀b∈C.H0.bx,b.id<x.nid
 v:∀b∈C.H0.vc,b.id<x.nid
 m:C.m0.le x.h.m
theorem HL {L:List Nat}:∀{bx:List Bx},∀b∈gA L bx,b∈bx
 |[],_,h=>h
 |⟨k,t,cs⟩::r,b,h=>by
  simp only[gA] at h;split at h
  ·rcases List.mem_cons.1 h with rfl |h
   ·exact bY ..
   ·exact bR _ (HL b h)
  ·exact bR _ (HL b h)
theorem SatW.pickW (h:SatW C st.bx st.vc st.nid st.m V D w) (ks:List Nat):SatW C (gA ks st.bx) (fX ks st.vc) st.nid st.m V D w:=by
 have nw:=(D3 ks h.heap).app.1;have hv:∀b∈fX ks st.vc,b∈st.vc:=fun b hb=>(vB hb).1
 have hb:∀b∈gA ks st.bx,b∈st.bx:=fun b hb=>HL b hb
 have GF:∀{k u:Nat},cD st.vc k u->cD (fX ks st.vc) k u:=fun{k u} hh=>(zc nw.uniq).2 fun x hx e=>(zc h.heap.uniq).1 hh x (hv x hx) e
 have ajW:∀s:SV,lS st.nid st.vc s->lS st.nid (fX ks st.vc) s:=fun s hs=>by
  cases s<;>first |exact hs |exact⟨hs.1,GF hs.2⟩
 have ajU:∀l:List SV,fO st.nid st.vc l->fO st.nid (fX ks st.vc) l:=fun l=>by
  induction l with
  |nil=>exact id
  |cons s r ih=>exact fun hs=>⟨ajW s hs.1,ih hs.2⟩
 exact⟨nw,h.wf,h.frm,fun g hg=>h.own g (EN hb hv g hg),h.baseB,fun b eY=>⟨(h.baseV b eY).1,(h.baseV b eY).2.1,GF (h.baseV b eY).2.2⟩,
  ⟨fun b eY=>⟨(h.ids.1 b (hb b eY)).1,ajU _ (h.ids.1 b (hb b eY)).2⟩,fun b eY=>h.ids.2 b (hv b eY)⟩,h.le0,h.m0,h.mle⟩
theorem Ra {nid:Nat} {vc:List Vc}:∀{bx:List Bx},(∀b∈bx,b.id<nid/\fO nid vc b.cs)->Ak nid vc bx
 |[],_=>trivial
 |⟨k,t,cs⟩::r,h=>⟨(h ⟨k,t,cs⟩ (bY ..)).1,(h ⟨k,t,cs⟩ (bY ..)).2,Ra fun b hb=>h b (bR _ hb)⟩
theorem Q9 {nid:Nat}:∀{vc:List Vc},(∀b∈vc,b.id<nid)->Aj nid vc
 |[],_=>trivial
 |⟨k,_,_,_,_,_⟩::r,h=>⟨h _ (bY ..),Q9 fun b hb=>h b (bR _ hb)⟩
theorem YE (hS:Sat C n st a V D w) (hR:RInv ops L st.rho) (oX:¬L i) (iK:ops[i]? =some o) (hd:ng n o=true) (Cy:pathOf st o.guard=some p) {K:LS->HX->Prop} (h:jb (.mk (k:=(c,P,o,i,K)) (st,p))):
  ∃(v:Value) (x:SX) (ak:LS),x.h.i=i/\YW P ops (x.cl C) o v a/\x.cl C w/\x.ok C ak V/\ak.nid=st.nid/\ak.vc=st.vc/\K ak x.h/\Sat C n ak (a.put o.dst v) V D w/\RInv ops (fun k=>L k\/k=i) ak.rho:=by
 obtain⟨hp,hw⟩:=HM hS hR Cy;have T2:∀ks,pL ⟨[],[],gA ks st.bx,fX ks st.vc,st.nid,st.m⟩:=fun ks=>by
  have:=(hS.w.pickW ks).ids;exact⟨trivial,Ra this.1,Q9 this.2⟩
 have hB:∀b∈C.H0.bx,b.id<st.nid:=fun b hb=>(hS.w.baseB b hb).2
 have hV:∀b∈C.H0.vc,b.id<st.nid:=fun b hb=>(hS.w.baseV b hb).2.1
 simp only[jb] at h;unfold F7 at h;split at h
 ·rename_i ks q;simp only[A.mk.injEq,Prod.mk.injEq] at q;obtain⟨hq,hdead,hit,_⟩:=q;have hc:=Er hdead;obtain⟨h1,h2⟩:=Km hS hR oX iK hd hit hp hc (oy o.op);have cH:=hS.w.pickW [];have e1:gA [] st.bx=[]:=by
   generalize st.bx=l
   induction l with
   |nil=>rfl
   |cons x r ih=>obtain⟨_,_,_⟩:=x;simp only[gA,List.contains_nil,Bool.false_eq_true,if_false];exact ih
  have e2:fX [] st.vc=[]:=by
   generalize st.vc=l
   induction l with
   |nil=>rfl
   |cons x r ih=>obtain⟨_,_,_,_,_,_⟩:=x;simp only[fX,List.contains_nil,Bool.false_eq_true,if_false];exact ih
  rw[e1,e2] at cH;have hh:=T2 [];rw[e1,e2] at hh;refine⟨undef,⟨⟨i,[],[],st.m⟩,st.nid,st.vc,V⟩,_,rfl,.inr ⟨by rw[hw];exact hc,rfl⟩,⟨V,D,Agree.refl _ _ _,cH⟩,⟨Step.same yX.1 yX.2 V,hh,hB,hV,hS.w.m0⟩,yX.1,yX.2,h,h1,h2⟩
 ·rename_i ks q;simp only[A.mk.injEq,Prod.mk.injEq] at q;obtain⟨hq,hdead,hit,hks⟩:=q;obtain⟨s,⟨hs,hK⟩,hdet⟩:=QX _ h;have rJ:∀e∈st.env,jv st.nid st.vc e.s:=hS.ids;have GF:∀{k u:Nat},cD st.vc k u->cD (fX ks st.vc) k u:=fun{k u} hh=>
   (zc (hS.w.pickW ks).heap.uniq).2 fun x hx e=>(zc hS.w.heap.uniq).1 hh x (vB hx).1 e
  have Cf:∀{V' :Vl} {D' :Nat->Nat} {w' :World},Agree st.nid st.vc V V' ->SatW C (gA ks st.bx) (fX ks st.vc) st.nid st.m V' D' w' ->
    Sat C n ⟨st.env,st.rho,gA ks st.bx,fX ks st.vc,st.nid,st.m⟩ a V' D' w' :=fun ha hW=>
   ⟨hS.f.agree rJ ha,fun e he=>PD (au _) (fun k u _ hh=>GF hh) (rJ e he),hW⟩
  have dE:∀w',(SX.cl C ⟨⟨i,gA ks st.bx,fX ks st.vc,st.m⟩,st.nid,st.vc,V⟩ w')->cF st.rho p=true->(execOp a.eval o).run P w' = .ok (.value (den V s)) w' :=by
   rintro w' ⟨V',D',ha,hW⟩ hc;obtain⟨s',e,hr⟩:=H4 (Cf ha hW) hp (o:=o) rfl hdet;subst e;rw[hr hc,Eo ha hs]
  refine⟨if cF st.rho p=true then den V s else undef,⟨⟨i,gA ks st.bx,fX ks st.vc,st.m⟩,st.nid,st.vc,V⟩,_,rfl,?_,⟨V,D,Agree.refl _ _ _,hS.w.pickW ks⟩,⟨Step.same yW.1 yW.2 V,T2 ks,hB,hV,hS.w.m0⟩,yW.1,yW.2,hK,CB hS hR oX iK hd hit hp hs rfl (oy o.op)⟩;cases hc:cF st.rho p with
  |true=>exact .inl ⟨by rw[hw];exact hc,fun w' Dg=>by simpa using dE w' Dg hc⟩
  |false=>exact .inr ⟨by rw[hw];exact hc,by simp⟩
 ·cases h
theorem Q5 {st:LS}:∀{I:List HX},ym st I->∀x∈I,rZ st x.bx/\rY st x.vc/\ae x.m st.m
 |[],_,_,h=>by cases h
 |⟨_,_,_,_⟩::r,h,x,hx=>by
  rcases List.mem_cons.1 hx with rfl |hx
  ·exact⟨h.1,h.2.1,h.2.2.1⟩
  ·exact Q5 h.2.2.2 x hx
theorem Ii {ow:List Nat}:∀{S:List SX},ql ow (S.map (·.h))=(S.filter fun x=>jm ow x.h.i).map (·.h)
 |[]=>rfl
 |x::r=>by
  obtain⟨⟨i,bx,vc,m⟩,nid,fg,V⟩:=x;simp only[bN,ql,List.filter_cons];split
  ·rw[Ii];rfl
  ·exact Ii
theorem aaC {ow:List Nat} {S:List SX}:(S.filter fun x=>jm ow x.h.i).map (·.h.i)=(S.map (·.h.i)).filter (jm ow):=by
 rw[List.filter_map];rfl
theorem Sv {st ak:LS} (e:ak.bx=st.bx):∀{l:List Bx},rZ st l->rZ ak l
 |[],_=>trivial
 |⟨_,_,_⟩::_,h=>⟨by rw[e];exact h.1,h.2.1,Sv e h.2.2⟩
theorem Su {st ak:LS} (e:ak.vc=st.vc):∀{l:List Vc},rY st l->rY ak l
 |[],_=>trivial
 |⟨_,_,_,_,_,_⟩::_,h=>⟨by rw[e];exact h.1,h.2.1,Su e h.2.2⟩
theorem SX.still {x:SX} (hx:x.ok C st V) (hS:Sat C n st a V D w) (h1:rZ st x.h.bx) (h2:rY st x.h.vc) (h3:ae x.h.m st.m):x.cl C w:=by
 have hF:Sat C n ⟨[],[],st.bx,st.vc,st.nid,st.m⟩ a V D w:=
  ⟨⟨hS.f.defers,hS.f.size,fun e he=>(by cases he),fun t q s _ hl _=>(by cases hl),fun g hg=>(by cases hg)⟩,fun e he=>(by cases he),hS.w⟩
 have hM:Match ⟨[],[],st.bx,st.vc,st.nid,st.m⟩ ⟨[],[],x.h.bx,x.h.vc,x.nid,x.h.m⟩:=by
  refine⟨trivial,rfl,?_,?_,h3⟩
  ·exact Sv (st:=st) (ak:=⟨[],[],st.bx,st.vc,st.nid,st.m⟩) rfl h1
  ·exact Su (st:=st) (ak:=⟨[],[],st.bx,st.vc,st.nid,st.m⟩) rfl h2
 exact⟨V,D,hx.step.agr,(hF.weaken hM hx.hd hx.b hx.v hx.m).w⟩
theorem adn (ef:dt c P) {l:List Oper} {K:LS->Prop} {Q:Exit->Act->World->Prop} {listed:Array Bool} {S:List SX} {j f:Nat} {ow:List Nat} {r:Plan} (Gf:∀o∈l,ng n o=true)
  (hj:j∈Region.ready .any ⟨l⟩ listed) (hH:(S.map (·.h.i)).all (fun i=>jm ow i||wy ⟨l⟩ l.length j i)=true)
  (h:aP (.mk (k:=fun o:Oper=>aP (.mk (k:=fun p:bV=>one (.mk (k:=(c,P,j,o,fun ak=>ym ak (ql ow (S.map (·.h)))/\xQ c P l K r (ql ow (S.map (·.h))) ak)) (st,p))) (pathOf st o.guard))) (r0 l j)))
  (hS:Sat C n st a V D w) (hR:RInv ⟨l⟩ (fun k=>listed.getD k false=true) st.rho) (hX:∀x∈S,x.ok C st V/\x.cl C w)
  (ih:∀ak a' V' D' w',xQ c P l K r ((S.filter fun x=>jm ow x.h.i).map (·.h)) ak->Sat C n ak a' V' D' w' ->RInv ⟨l⟩ (fun k=>(listed.setIfInBounds j true).getD k false=true) ak.rho->
   (∀x∈S.filter (fun x=>jm ow x.h.i),x.ok C ak V' /\x.cl C w')->rl P ⟨l⟩ Q f (fun y=>∃x∈S.filter (fun x=>jm ow x.h.i),y=(x.h.i,x.cl C)) (listed.setIfInBounds j true) a' w'):
  wpOp P ⟨l⟩ Q j (fun a' w' =>(∀y,(∃x∈S,y=(x.h.i,x.cl C))->¬pZ ⟨l⟩ j y.1->y.2 w')/\rl P ⟨l⟩ Q f (fun y=>(∃x∈S,y=(x.h.i,x.cl C))/\¬pZ ⟨l⟩ j y.1) (listed.setIfInBounds j true) a' w') a w:=by
 obtain⟨o,ho,h⟩:=aO h;obtain⟨p,hp,h⟩:=aO h;have yx:l[j]? =some o:=Jh ho;have iK:(⟨l⟩:Array Oper)[j]? =some o:=by simpa using yx
 have AJ:=Iy (mem_ready.1 hj).1;have At:∀x∈S,¬pZ ⟨l⟩ j x.h.i->jm ow x.h.i=true:=fun x hx iL=>by
  have:=List.all_eq_true.1 hH x.h.i (List.mem_map.2 ⟨x,hx,rfl⟩);rcases Bool.or_eq_true_iff.1 this with h |h
  ·exact h
  ·exact absurd ⟨_,h⟩ iL
 unfold wpOp;simp only[iK];refine Oe hS ef hR (by rw[AJ];exact Bool.false_ne_true) iK (Gf o (List.mem_of_getElem? yx)) hp h fun ak a' V' D' w' ⟨UT,hK⟩ gv vn jb=> ?_
 rw[Ii] at UT hK;have GQ:∀x∈S.filter (fun x=>jm ow x.h.i),x.ok C ak V' /\x.cl C w' :=fun x hx=>by
  have Dd:=(hX x (List.mem_filter.1 hx).1).1;have ar:x.ok C ak V' :=⟨Dd.step.trans jb,Dd.hd,Dd.b,Dd.v,Dd.m⟩;obtain⟨h1,h2,h3⟩:=Q5 UT x.h (List.mem_map.2 ⟨x,hx,rfl⟩);exact⟨ar,SX.still ar gv h1 h2 h3⟩
 refine⟨?_,AX _ _ _ ?_ _ _ _ (ih ak a' V' D' w' hK gv (vn.mono fun k hk=> ?_) GQ)⟩
 ·rintro y ⟨x,hx,rfl⟩ iL;exact(GQ x (List.mem_filter.2 ⟨hx,At x hx iL⟩)).2
 ·rintro y ⟨⟨x,hx,rfl⟩,iL⟩;exact⟨x,List.mem_filter.2 ⟨hx,At x hx iL⟩,rfl⟩
 ·rcases hk with hk |rfl
  ·exact getD_set_true hk
  ·exact QJ (Pg hj)
theorem Xj (ef:dt c P) {l:List Oper} {K:LS->Prop} {Q:Exit->Act->World->Prop} (hQ0:∀c a w,¬Q (.panic c) a w) (hQ:∀ak a' w',K ak->kn C n ak a' w' ->Q .normal a' w')
  (F8:Region.noSelect ⟨l⟩=true) (Gf:∀o∈l,ng n o=true):
  ∀(pl:Plan) (fuel:Nat) (listed:Array Bool) (rem:Option (List Nat)) (st:LS) (a:Act) (V:Vl) (D:Nat->Nat) (w:World) (S:List SX),
   lX ⟨l⟩ pl fuel (S.map (·.h.i)) listed rem=true->AllClosed ⟨l⟩ listed->xQ c P l K pl (S.map (·.h)) st->Sat C n st a V D w->RInv ⟨l⟩ (fun k=>listed.getD k false=true) st.rho->(∀x∈S,x.ok C st V/\x.cl C w)->
   match rem with
   |none=>rl P ⟨l⟩ Q fuel (fun y=>∃x∈S,y=(x.h.i,x.cl C)) listed a w
   |some R=>∀f,fuel=f+1->∀j∈R,wpOp P ⟨l⟩ Q j (fun a' w' =>(∀y,(∃x∈S,y=(x.h.i,x.cl C))->¬pZ ⟨l⟩ j y.1->y.2 w')/\rl P ⟨l⟩ Q f (fun y=>(∃x∈S,y=(x.h.i,x.cl C))/\¬pZ ⟨l⟩ j y.1) (listed.setIfInBounds j true) a' w') a w:=by
 intro pl;induction pl with
 |done=>
  intro fuel listed rem st a V D w S hc cH h hS hR hX;cases rem with
  |some R=>simp [lX] at hc
  |none=>
   simp only[lX,List.isEmpty_iff] at hc;have hq:=hQ _ _ _ h (Hy hS);cases fuel with
   |zero=>exact⟨hc,hq⟩
   |succ f=>exact⟨fun _=>hq,by rw[hc];intro j hj;cases hj⟩
 |stop=>
  intro fuel listed rem st a V D w S hc cH h hS hR hX;cases rem with
  |none=>simp [lX] at hc
  |some R=>
   simp only[lX,List.isEmpty_iff] at hc;subst hc;intro f _ j hj;cases hj
 |hoist i r ih=>
  intro fuel listed rem st a V D w S hc cH h hS hR hX;cases rem with
  |some R=>cases fuel<;>simp [lX] at hc
  |none=>
   cases fuel with
   |zero=>simp [lX] at hc
   |succ f=>
    simp only[lX,aD] at hc;obtain⟨⟨FQ,bU⟩,hc⟩:=hc;have bU:i∈Region.ready .any ⟨l⟩ listed:=by simpa using bU
    obtain⟨o,ho,h⟩:=aO h;obtain⟨p,hp,h⟩:=aO h;have yx:l[i]? =some o:=Jh ho;have iK:(⟨l⟩:Array Oper)[i]? =some o:=by simpa using yx
    have AJ:=Iy (mem_ready.1 bU).1;obtain⟨v,x,ak,hxi,hy,hclw,ar,hn,hv,hK,gv,vn⟩:=YE hS hR (by rw[AJ];exact Bool.false_ne_true) iK (Gf o (List.mem_of_getElem? yx)) hp h;refine hoist iK (Region.noSelect_spec F8) hQ0 f _ listed a w (Region.free_spec iK FQ) (cH i) bU hy hclw ?_ ?_
    ·rintro y ⟨z,hz,rfl⟩;exact(hX z hz).2
    ·have:=ih f (listed.setIfInBounds i true) none ak (a.put o.dst v) V D w (x::S) (by simp only[bN,hxi];exact hc) (cH.set bU) hK gv (vn.mono fun k hk=>by
      rcases hk with hk |rfl
      ·exact getD_set_true hk
      ·exact QJ (Pg bU)) (fun z hz=>by
      rcases List.mem_cons.1 hz with rfl |hz
      ·exact⟨ar,hclw⟩
      ·obtain⟨h1,h2⟩:=hX z hz
       exact⟨⟨by rw[hn,hv];exact h1.step,h1.hd,h1.b,h1.v,h1.m⟩,h2⟩)
     refine AX _ _ _ ?_ _ _ _ this;rintro y (rfl |⟨z,hz,rfl⟩)
     ·exact⟨x,bY ..,by rw[hxi]⟩
     ·exact⟨z,bR _ hz,rfl⟩
 |alt j ow r nx ihr ihn=>
  intro fuel listed rem st a V D w S hc cH h hS hR hX;cases fuel with
  |zero=>cases rem<;>simp [lX] at hc
  |succ f=>
   obtain⟨h,so⟩:=h;have key:∀(hj:j∈Region.ready .any ⟨l⟩ listed) (hH:(S.map (·.h.i)).all (fun i=>jm ow i||wy ⟨l⟩ l.length j i)=true) (LL:lX ⟨l⟩ r f ((S.map (·.h.i)).filter (jm ow)) (listed.setIfInBounds j true) none=true),
     wpOp P ⟨l⟩ Q j (fun a' w' =>(∀y,(∃x∈S,y=(x.h.i,x.cl C))->¬pZ ⟨l⟩ j y.1->y.2 w')/\rl P ⟨l⟩ Q f (fun y=>(∃x∈S,y=(x.h.i,x.cl C))/\¬pZ ⟨l⟩ j y.1) (listed.setIfInBounds j true) a' w') a w:=by
    intro hj hH LL;refine adn ef Gf hj hH h hS hR hX fun ak a' V' D' w' hK gv vn GQ=> ?_
    exact ihr f (listed.setIfInBounds j true) none ak a' V' D' w' (S.filter fun x=>jm ow x.h.i) (by rw[aaC];exact LL) (cH.set hj) hK gv vn GQ
   cases rem with
   |none=>
    simp only[lX,aD] at hc;obtain⟨⟨⟨h1,h2⟩,h3⟩,h4⟩:=hc;have hj:j∈Region.ready .any ⟨l⟩ listed:=by simpa using h1
    have vY:=ihn (f+1) listed (some _) st a V D w S h4 cH so hS hR hX f rfl;refine⟨fun h0=>(by rw[h0] at hj;cases hj),fun k hk=> ?_⟩;by_cases e:k=j
    ·subst e;exact key hj h2 h3
    ·exact vY k (List.mem_filter.2 ⟨hk,by simpa using e⟩)
   |some R=>
    simp only[lX,aD] at hc;obtain⟨⟨⟨⟨h0,h1⟩,h2⟩,h3⟩,h4⟩:=hc;have hj:j∈Region.ready .any ⟨l⟩ listed:=by simpa using h1
    have vY:=ihn (f+1) listed (some _) st a V D w S h4 cH so hS hR hX f rfl;rintro f' e k hk;obtain rfl:f=f' :=Nat.succ.inj e;by_cases e:k=j
    ·subst e;exact key hj h2 h3
    ·exact vY k (List.mem_filter.2 ⟨hk,by simpa using e⟩)
theorem bO (pl:Plan) (ef:dt c P) {id:Nat} {l:List Oper} {Q:Exit->LS->Prop} {st:LS} (hm:P.follows .mixedOrders=true)
  (hc:(lX ⟨l⟩ pl l.length [] (Array.replicate l.length false) none&&Region.noSelect ⟨l⟩&&l.all (ng n))=true)
  (h:wC (.mk (k:=(c,P,l,Q .normal,pl,[])) st)):kv (.mk (k:=(P,n,.region id ⟨l⟩ true,Q)) st):=by
 simp only[aD] at hc;obtain⟨⟨hc,hns⟩,hd⟩:=hc;rintro C a w ⟨gE,V,D,hS⟩;refine wp_mono (Q:=fun e a' w' =>match e with | .normal=>∃ak,kn C n ak a' w' /\Q .normal ak |_=>False) (wp_region_any hm (M6 _ (fun y=>∃x∈([]:List SX),y=(x.h.i,x.cl C)) _ _ _ ?_)) ?_
 ·refine Xj ef (K:=Q .normal) (fun _ _ _ h=>h) (fun ak a' w' hq hE=>⟨ak,hE,hq⟩) hns (fun o ho=>List.all_eq_true.1 hd o ho) pl l.length (Array.replicate l.length false) none st a V D _ [] hc ?_ h
   ⟨hS.f,hS.ids,hS.w.drew _⟩ ?_ (fun x hx=>by cases hx)
  ·intro i k hk;exfalso;rcases Nat.lt_or_ge k l.length with h' |h'
   ·simp [h'] at hk
   ·simp [Nat.not_lt.2 h'] at hk
  ·rw[gE];intro g hg;cases hg
 ·intro e a' w' hq;cases e with
  |normal=>exact hq
  |_=>exact False.elim hq
end
section
variable {c:Cfg} {P:Program} {l:List Oper} {K:LS->Prop} {I:List HX} {st:LS}
theorem Zb:wC (.mk (k:=(c,P,l,K,Plan.done,I)) st)=K (clean st):=rfl
theorem Za:wC (.mk (k:=(c,P,l,K,Plan.stop,I)) st)=True:=rfl
theorem XT {i:Nat} {r:Plan}:wC (.mk (k:=(c,P,l,K,Plan.hoist i r,I)) st)=
  aP (.mk (k:=fun o:Oper=>aP (.mk (k:=fun p:bV=>jb (.mk (k:=(c,P,o,i,fun ak X=>wC (.mk (k:=(c,P,l,K,r,X::I)) ak))) (st,p))) (pathOf st o.guard))) (r0 l i)):=rfl
theorem abr {j:Nat} {ow:List Nat} {r nx:Plan}:wC (.mk (k:=(c,P,l,K,Plan.alt j ow r nx,I)) st)=
  (aP (.mk (k:=fun o:Oper=>aP (.mk (k:=fun p:bV=>one (.mk (k:=(c,P,j,o,fun ak=>ym ak (ql ow I)/\wC (.mk (k:=(c,P,l,K,r,ql ow I)) ak))) (st,p))) (pathOf st o.guard))) (r0 l j))/\
   wC (.mk (k:=(c,P,l,K,nx,I)) st)):=rfl
end
theorem ad4 {x:ByteArray}:(Value.string x).oneCell' =true:=rfl
theorem ad6 {k:IntKind} {x:Int}:(Value.int k x).oneCell' =true:=rfl
theorem ab0 {x:Bool}:(Value.bool x).oneCell' =true:=rfl
theorem ad5 {x:Option Addr}:(Value.pointer x).oneCell' =true:=rfl
theorem agc {x:Option Addr} {n c:Nat}:(Value.slice x n c).oneCell' =true:=rfl
attribute [go_sem] ad4 ad6 ab0 ad5 agc
attribute [go_sem] jb.eq_1 F7.eq_1 F7.eq_2 xL.eq_1 xL.eq_2 xL.rdIds1.eq_1 xL.rdIds1.eq_2 mo.eq_1 mo.eq_2 mo.eq_3 mo.eq_4 mo.eq_5 mo.eq_6 mo.eq_7 mo.eq_8 mo.eq_9 mo.eq_10 mo.eq_11 mo.eq_12 mo.eq_13 mo.eq_14 mo.eq_15 mo.eq_16 Zb Za XT abr r0.eq_1 r0.eq_2 r0.eq_3 ql.eq_1 ql.eq_2 ym.eq_1 ym.eq_2
theorem least {J:Nat->Prop}:∀n,J n->∃k,J k/\∀j,j<k->¬J j:=by
 intro n;induction n using Nat.strongRecOn with
 |_ n ih=>
  intro h;by_cases hj:∃j,j<n/\J j
  ·obtain⟨j,ay,hJ⟩:=hj;exact ih j ay hJ
  ·exact⟨n,h,fun j ay hJ=>hj ⟨j,ay,hJ⟩⟩
section
variable {P:Program} {a:Act} {w:World} {Q:Exit->Act->World->Prop}
theorem VE {c rest:Code} (l:Nat) (J:Nat->Act->World->Prop) (hf:findLabel c l=some rest) (first:c.wp P (Exit.jump l (fun a' w' =>∃k,J k a' w') Q) a w)
  (pass:∀k a w,J k a w->rest.wp P (Exit.jump l (fun a' w' =>∃k',k' <k/\J k' a' w') Q) a w):(Code.scope c).wp P Q a w:=by
 classical
 refine wp_scope_jumps l (fun a w=>∃k,J k a w) (fun a w=>if h:∃k,J k a w/\∀j,j<k->¬J j a w then Classical.choose h else 0) hf first ?_
 rintro a w ⟨k0,h0⟩;have hex:∃k,J k a w/\∀j,j<k->¬J j a w:=least k0 h0;obtain⟨h1,h2⟩:=Classical.choose_spec hex;refine wp_mono (pass _ a w h1) ?_;intro e a' w' hq;cases e with
 |goto l' =>
  obtain⟨rfl,k',ay,hk⟩:=hq;refine⟨rfl,⟨k',hk⟩,?_⟩;have xY:∃k,J k a' w' /\∀j,j<k->¬J j a' w' :=least k' hk;simp only[dif_pos hex,dif_pos xY];rcases Nat.lt_or_ge (Classical.choose xY) (Classical.choose hex) with h |h
  ·exact h
  ·exact absurd hk ((Classical.choose_spec xY).2 k' (eM ay h))
 |_=>exact hq
end
section
variable {P:Program} {n:Nat} {c:Cfg} {st:LS}
theorem abd (ef:dt c P) {body rest:Code} {l:Nat} {Q:Exit->LS->Prop} {X:Type} (S:X->LS) (I:X->Prop) (μ:X->Nat) (hf:findLabel body l=some rest)
  (vm:jk n rest=true) (hn:∀x,I x->st.nid<=(S x).nid) (hm:∀x,I x->ae st.m (S x).m) (ar:∀x,pL (S x))
  (first:WP P n body (Cs l (fun ak=>∃x',Match ak (S x')/\I x') Q) st)
  (pass:∀x,I x->eb (.mk (k:=(c,P,n,rest,Cs l (fun ak=>∃x',Match ak (S x')/\I x' /\μ x' <μ x) Q)) (S x))):kv (.mk (k:=(P,n,.scope body,Q)) st):=by
 rintro C a w ⟨gE,V,D,hS⟩;have hB:∀b∈C.H0.bx,b.id<st.nid:=fun b hb=>(hS.w.baseB b hb).2
 have hV:∀b∈C.H0.vc,b.id<st.nid:=fun b hb=>(hS.w.baseV b hb).2.1
 have Dm:∀x,I x->C.m0.le (S x).m:=fun x hx=>by
  rcases hm x hx with e |h
  ·rw[<- e];exact hS.w.m0
  ·exact Mem.le_trans hS.w.m0 h
 have wb:∀(lR:LS) (a1:Act) (w1:World) (x:X),kn C n lR a1 w1->Match lR (S x)->I x->kn C n (S x) a1 w1:=by
  rintro lR a1 w1 x ⟨_,V1,D1,hS1⟩ hM hx;exact⟨hM.2.1,V1,D1,hS1.weaken hM (ar x) (fun b hb=>eM (hB b hb) (hn x hx)) (fun b hb=>eM (hV b hb) (hn x hx)) (Dm x hx)⟩
 refine VE l (fun k a w=>∃x,I x/\μ x=k/\kn C n (S x) a w) hf ?_ ?_
 ·refine wp_mono (first C a w ⟨gE,V,D,hS⟩) ?_;rintro e a2 w2 ⟨cA,cu,hq⟩;cases e with
  |goto l' =>
   obtain⟨rfl,x',hM,bP⟩:=hq;exact⟨rfl,μ x',x',bP,rfl,wb _ _ _ _ cu hM bP⟩
  |normal=>exact⟨cA,cu,hq⟩
  |exit id=>exact⟨cA,cu,hq⟩
  |ret=>exact⟨cA,cu,hq⟩
  |panic ch=>exact⟨cA,cu,hq⟩
  |outgrown=>exact⟨cA,cu,hq⟩
 ·rintro k a1 w1 ⟨x,hx,rfl,hE⟩;refine wp_mono (qV ef vm (pass x hx) C a1 w1 hE) ?_;rintro e a2 w2 ⟨cA,cu,hq⟩;cases e with
  |goto l' =>
   obtain⟨rfl,x',hM,bP,ay⟩:=hq;exact⟨rfl,μ x',ay,x',bP,rfl,wb _ _ _ _ cu hM bP⟩
  |normal=>exact⟨cA,cu,hq⟩
  |exit id=>exact⟨cA,cu,hq⟩
  |ret=>exact⟨cA,cu,hq⟩
  |panic ch=>exact⟨cA,cu,hq⟩
  |outgrown=>exact⟨cA,cu,hq⟩
def Ln (Q:Exit->LS->Prop):Exit->LS->Prop
 | .goto _,_=>False
 |e,st=>Q e st
theorem Y2 (ef:dt c P) {body:Code} {Q:Exit->LS->Prop} (hd:jk n body=true) (h:eb (.mk (k:=(c,P,n,body,Ln Q)) st)):kv (.mk (k:=(P,n,.scope body,Q)) st):=by
 intro C a w hE;refine wp_scope_straight (wp_mono (qV ef hd h C a w hE) ?_);rintro e a2 w2 ⟨cA,cu,hq⟩;cases e with
 |goto l=>exact hq.elim
 |normal=>exact⟨cA,cu,hq⟩
 |exit id=>exact⟨cA,cu,hq⟩
 |ret=>exact⟨cA,cu,hq⟩
 |panic ch=>exact⟨cA,cu,hq⟩
 |outgrown=>exact⟨cA,cu,hq⟩
theorem Y1 (ef:dt c P) {rest:Code} {l:Nat} {Q:Exit->LS->Prop} {X:Type} (S:X->LS) (I:X->Prop) (μ:X->Nat) (x0:X)
  (hd:jk n rest=true) (hn:∀x,I x->st.nid<=(S x).nid) (hm:∀x,I x->ae st.m (S x).m) (ar:∀x,pL (S x)) (h0:Match st (S x0)) (hI:I x0)
  (pass:∀x,I x->eb (.mk (k:=(c,P,n,rest,Cs l (fun ak=>∃x',Match ak (S x')/\I x' /\μ x' <μ x) Q)) (S x))):kv (.mk (k:=(P,n,.scope (.seq (.label l) rest),Q)) st):=by
 have qK:jk n (.seq .skip rest)=true:=by simp only[jk,Bool.true_and];exact hd
 have wT:jk n (.seq (.label l) rest)=true:=by simp only[jk,Bool.true_and];exact hd
 refine abd ef S I μ (rest:= .seq .skip rest) (by simp [findLabel]) qK hn hm ar ?_ pass;rintro C a w ⟨gE,V,D,hS⟩
 have hE:kn C n (S x0) a w:=⟨h0.2.1,V,D,hS.weaken h0 (ar x0) (fun b hb=>eM (hS.w.baseB b hb).2 (hn x0 hI)) (fun b hb=>eM (hS.w.baseV b hb).2.1 (hn x0 hI)) (by
  rcases hm x0 hI with e |h
  ·rw[<- e];exact hS.w.m0
  ·exact Mem.le_trans hS.w.m0 h)⟩
 have hw:WP P n (.seq (.label l) rest) _ (S x0):=qV ef wT (pass x0 hI);refine(WP.mono hw ?_) C a w hE;intro e ak hq;cases e with
 |goto l' =>
  obtain⟨rfl,x',hM,bP,_⟩:=hq;exact⟨rfl,x',hM,bP⟩
 |_=>exact hq
theorem abe (ef:dt c P) {id:Nat} {body:Code} {K:LS->Prop} {Q:Exit->LS->Prop} {X Y:Type} (S:X->LS) (I:X->Prop) (μ:X->Nat) (x0:X) (E:Y->LS) (J:Y->Prop)
  (hd:jk n body=true) (hn:∀x,I x->st.nid<=(S x).nid) (hm:∀x,I x->ae st.m (S x).m) (ar:∀x,pL (S x)) (h0:Match st (S x0)) (hI:I x0)
  (UW:∀y,J y->st.nid<=(E y).nid) (hmE:∀y,J y->ae st.m (E y).m) (ajV:∀y,pL (E y)) (out:∀y,J y->K (E y))
  (round:∀x,I x->eb (.mk (k:=(c,P,n,body,j9 (fun ak=>∃x',Match ak (S x')/\I x' /\μ x' <μ x) (qe id (j9 (fun ak=>∃y,Match ak (E y)/\J y) Q)))) (S x))):
  kv (.mk (k:=(P,n,.loop body,qe id (j9 K Q))) st):=by
 have hW:WP P n (.loop body) (qe id (j9 (fun ak=>∃y,Match ak (E y)/\J y) Q)) st:=ei ef S I μ x0 hd hn hm ar h0 hI round;rintro C a w ⟨gE,V,D,hS⟩;have hK:∀cA a2 w2,kn C n cA a2 w2->(∃y,Match cA (E y)/\J y)->∃ak,kn C n ak a2 w2/\K ak:=by
  rintro cA a2 w2 ⟨_,V2,D2,hS2⟩ ⟨y,hM,hy⟩;refine⟨E y,⟨hM.2.1,V2,D2,hS2.weaken hM (ajV y) (fun b hb=>eM (hS.w.baseB b hb).2 (UW y hy)) (fun b hb=>eM (hS.w.baseV b hb).2.1 (UW y hy)) ?_⟩,out y hy⟩;rcases hmE y hy with e |h
  ·rw[<- e];exact hS.w.m0
  ·exact Mem.le_trans hS.w.m0 h
 refine wp_mono (hW C a w ⟨gE,V,D,hS⟩) ?_;rintro e a2 w2 ⟨cA,cu,hq⟩;cases e with
 |normal=>
  obtain⟨Gq,h1,h2⟩:=hK cA a2 w2 cu hq;exact⟨Gq,h1,h2⟩
 |exit id' =>
  simp only[qe] at hq;split at hq
  ·rename_i e;obtain⟨Gq,h1,h2⟩:=hK cA a2 w2 cu hq;exact⟨Gq,h1,by simp only[qe];rw[ah e];exact h2⟩
  ·rename_i e;exact⟨cA,cu,by simp only[qe];rw[af e];exact hq⟩
 |goto l=>exact⟨cA,cu,hq⟩
 |ret=>exact⟨cA,cu,hq⟩
 |panic ch=>exact⟨cA,cu,hq⟩
 |outgrown=>exact⟨cA,cu,hq⟩
theorem zr {x:Code} {Q:Exit->LS->Prop} (t:Nat) (e:TypeId) (sz:Nat) (h0:0<sz) (hl:gb st.env t []=some (.v (.slice none 0 0)))
  (h:kv (.mk (k:=(P,n,x,Q)) ⟨⟨t,[],.vec st.nid 0⟩::st.env,st.rho,st.bx,⟨st.nid,0,e,sz,0,[]⟩::st.vc,st.nid+1,st.m⟩)):kv (.mk (k:=(P,n,x,Q)) st):=by
 rintro C a w ⟨gE,V,D,hS⟩;obtain⟨V',ha,hγ,hW⟩:=hS.w.addVc (w' :=w) (hd:=⟨none,0,0⟩) (e:=e) (sz:=sz) (n:=0) (xs:=[]) rfl rfl rfl (au _) (fun _ _=>rfl) (World.ownsRow_nil w 0 e sz) (fun g hg=>by cases hg) h0 (fun u hu=>by cases hu);have gv:Sat C n _ a V' D w:=hS.to ha (Nat.le_succ _) (fun k u hk hv=>ud rfl k u hk hv) hW;refine h C a w ⟨gE,V',D,⟨gv.f.defers,gv.f.size,fun e' sA=> ?_,fun t' q s' hq kY hc=> ?_,gv.f.rho⟩,fun e' sA=> ?_,hW⟩
 ·rcases List.mem_cons.1 sA with rfl |sA
  ·exact rh
  ·exact gv.f.pth e' sA
 ·simp only[gb] at kY;split at kY
  ·rename_i ht;subst ht;split at kY
   ·cases kY;have:=hS.f.env t [] _ rh hl rfl;rw[this];show some (Value.slice none 0 0)=some (Hd.val (V'.γ st.nid 0));rw[hγ];rfl
   ·cases kY
  ·exact gv.f.env t' q s' hq kY hc
 ·rcases List.mem_cons.1 sA with rfl |sA
  ·exact⟨Nat.lt_succ_self _,by simp [cD]⟩
  ·exact gv.ids e' sA
end
attribute [go_sem] Ln.eq_1 Ln.eq_2
end Go.Proofs.YtimddhkipjedcaaGreatDoor.E
namespace Go.Proofs
open Go.Shelf
def Tryz.lays137_ren:Go.Shelf.Ren:=⟨fun |137=>183 |217=>222 |266=>244 |n=>n,fun |9=>9 |5=>5 |3=>3 |n=>n,fun |n=>n⟩
theorem Tryz.lays137:Go.Proofs.Lays.n137 Tryz.prog Tryz.lays137_ren:={
 mixed:=by kernel_rfl
 f137:=Tryz.func183.trans (congrArg some (by kernel_rfl))
 f217:=Tryz.func222.trans (congrArg some (by kernel_rfl))
 f266:=Tryz.func244.trans (congrArg some (by kernel_rfl))
 t3:=Tryz.underlying3
 a3:=Tryz.isAgg3
 z3:=Tryz.sizeOf3
 v3:=Tryz.zeroValue3
 t5:=Tryz.underlying5
 a5:=Tryz.isAgg5
 z5:=Tryz.sizeOf5
 v5:=Tryz.zeroValue5
 t9:=Tryz.underlying9
 a9:=Tryz.isAgg9
 z9:=Tryz.sizeOf9
 v9:=Tryz.zeroValue9}
open Go.RowKit in
theorem Tryz.strings_IndexByte (s:ByteArray) (c:Int) (w:World):
  Calls Tryz.prog 183 #[.string s,.int .u8 c] w fun e w' =>e= .returned (.int .i64 (Lib.indexByte s.data.toList c.toNat.toUInt8))/\w' =w:=Any.strings_IndexByte Tryz.lays137 s c w
def Tryz.lays155_ren:Go.Shelf.Ren:=⟨fun |155=>224 |154=>245 |138=>254 |165=>255 |143=>248 |166=>256 |197=>257 |169=>258 |195=>267 |218=>268 |240=>269 |241=>270 |219=>264 |260=>271 |276=>280 |277=>281 |217=>222 |225=>277 |224=>278 |267=>279 |266=>244 |314=>283 |n=>n,fun |9=>9 |3=>3 |4=>4 |72=>210 |0=>0 |76=>212 |105=>214 |21=>21 |5=>5 |70=>208 |20=>20 |37=>83 |75=>195 |127=>225 |164=>230 |46=>220 |119=>233 |139=>236 |138=>235 |146=>241 |51=>240 |80=>85 |n=>n,fun |1=>1 |3=>4 |4=>5 |n=>n⟩
theorem Tryz.lays155:Go.Proofs.Lays.n155 Tryz.prog Tryz.lays155_ren:={
 mixed:=by kernel_rfl
 f138:=Tryz.func254.trans (congrArg some (by kernel_rfl))
 f143:=Tryz.func248.trans (congrArg some (by kernel_rfl))
 f154:=Tryz.func245.trans (congrArg some (by kernel_rfl))
 f155:=Tryz.func224.trans (congrArg some (by kernel_rfl))
 f165:=Tryz.func255.trans (congrArg some (by kernel_rfl))
 f166:=Tryz.func256.trans (congrArg some (by kernel_rfl))
 f169:=Tryz.func258.trans (congrArg some (by kernel_rfl))
 f195:=Tryz.func267.trans (congrArg some (by kernel_rfl))
 f197:=Tryz.func257.trans (congrArg some (by kernel_rfl))
 f217:=Tryz.func222.trans (congrArg some (by kernel_rfl))
 f218:=Tryz.func268.trans (congrArg some (by kernel_rfl))
 f219:=Tryz.func264.trans (congrArg some (by kernel_rfl))
 f224:=Tryz.func278.trans (congrArg some (by kernel_rfl))
 f225:=Tryz.func277.trans (congrArg some (by kernel_rfl))
 f240:=Tryz.func269.trans (congrArg some (by kernel_rfl))
 f241:=Tryz.func270.trans (congrArg some (by kernel_rfl))
 f260:=Tryz.func271.trans (congrArg some (by kernel_rfl))
 f266:=Tryz.func244.trans (congrArg some (by kernel_rfl))
 f267:=Tryz.func279.trans (congrArg some (by kernel_rfl))
 f276:=Tryz.func280.trans (congrArg some (by kernel_rfl))
 f277:=Tryz.func281.trans (congrArg some (by kernel_rfl))
 f314:=Tryz.func283.trans (congrArg some (by kernel_rfl))
 t0:=Tryz.underlying0
 a0:=Tryz.isAgg0
 z0:=Tryz.sizeOf0
 v0:=Tryz.zeroValue0
 t3:=Tryz.underlying3
 a3:=Tryz.isAgg3
 z3:=Tryz.sizeOf3
 v3:=Tryz.zeroValue3
 t4:=Tryz.underlying4
 a4:=Tryz.isAgg4
 z4:=Tryz.sizeOf4
 v4:=Tryz.zeroValue4
 t5:=Tryz.underlying5
 a5:=Tryz.isAgg5
 z5:=Tryz.sizeOf5
 v5:=Tryz.zeroValue5
 t9:=Tryz.underlying9
 a9:=Tryz.isAgg9
 z9:=Tryz.sizeOf9
 v9:=Tryz.zeroValue9
 t20:=Tryz.underlying20
 a20:=Tryz.isAgg20
 z20:=Tryz.sizeOf20
 v20:=Tryz.zeroValue20
 t21:=Tryz.underlying21
 a21:=Tryz.isAgg21
 z21:=Tryz.sizeOf21
 v21:=Tryz.zeroValue21
 t37:=Tryz.underlying83
 a37:=Tryz.isAgg83
 z37:=Tryz.sizeOf83
 v37:=Tryz.zeroValue83
 t46:=Tryz.underlying220
 a46:=Tryz.isAgg220
 z46:=Tryz.sizeOf220
 v46:=Tryz.zeroValue220
 t51:=Tryz.underlying240
 a51:=Tryz.isAgg240
 z51:=Tryz.sizeOf240
 v51:=Tryz.zeroValue240
 t70:=Tryz.underlying208
 a70:=Tryz.isAgg208
 z70:=Tryz.sizeOf208
 v70:=Tryz.zeroValue208
 t72:=Tryz.underlying210
 a72:=Tryz.isAgg210
 z72:=Tryz.sizeOf210
 v72:=Tryz.zeroValue210
 t75:=Tryz.underlying195
 a75:=Tryz.isAgg195
 z75:=Tryz.sizeOf195
 v75:=Tryz.zeroValue195
 t76:=Tryz.underlying212
 a76:=Tryz.isAgg212
 z76:=Tryz.sizeOf212
 v76:=Tryz.zeroValue212
 t105:=Tryz.underlying214
 a105:=Tryz.isAgg214
 z105:=Tryz.sizeOf214
 v105:=Tryz.zeroValue214
 t119:=Tryz.underlying233
 a119:=Tryz.isAgg233
 z119:=Tryz.sizeOf233
 t127:=Tryz.underlying225
 a127:=Tryz.isAgg225
 z127:=Tryz.sizeOf225
 v127:=Tryz.zeroValue225
 t138:=Tryz.underlying235
 a138:=Tryz.isAgg235
 z138:=Tryz.sizeOf235
 v138:=Tryz.zeroValue235
 t139:=Tryz.underlying236
 a139:=Tryz.isAgg236
 z139:=Tryz.sizeOf236
 v139:=Tryz.zeroValue236
 t146:=Tryz.underlying241
 a146:=Tryz.isAgg241
 z146:=Tryz.sizeOf241
 v146:=Tryz.zeroValue241
 t164:=Tryz.underlying230
 a164:=Tryz.isAgg230
 z164:=Tryz.sizeOf230
 v164:=Tryz.zeroValue230
 g1:=by kernel_rfl
 g3:=by kernel_rfl
 g4:=by kernel_rfl}
theorem Tryz.Builder_Extra_155:Builder.Extra Tryz.prog Tryz.lays155_ren:={
 sizeBuilder:=by kernel_rfl
 liesBuilder:=by kernel_rfl
 t5:=Tryz.underlying5
 a5:=Tryz.isAgg5
 z5:=Tryz.sizeOf5
 v5:=Tryz.zeroValue5
 infoByte:=by kernel_rfl
 cellsByte:=by kernel_rfl
 sizeByte:=by kernel_rfl
 neB5:=by decide}
open Go.RowKit Go.Lib in
theorem Tryz.strings_ReplaceAll (s eX new:ByteArray) (m:Int) (w:World) (hs:s.size<4294967281) (hm:w.cell? ⟨1,0,none⟩=some (.int .i64 m)) (h1:1<=eX.size) (hlen:s.size+Lib.countB s eX * new.size<=140737488355328):
  Calls Tryz.prog 224 #[.string s,.string eX,.string new] w fun e w' =>
   e= .returned (.string ⟨(Lib.replaceAll s.data.toList eX.data.toList new.data.toList).toArray⟩)/\Below w.heap.size w w' :=Any.strings_ReplaceAll Tryz.lays155 Tryz.Builder_Extra_155 s eX new m w hs hm h1 hlen
def Tryz.lays144_ren:Go.Shelf.Ren:=⟨fun |144=>228 |143=>248 |219=>264 |217=>222 |225=>277 |224=>278 |267=>279 |266=>244 |314=>283 |n=>n,fun |9=>9 |4=>4 |3=>3 |5=>5 |46=>220 |146=>241 |51=>240 |n=>n,fun |1=>1 |n=>n⟩
theorem Tryz.lays144:Go.Proofs.Lays.n144 Tryz.prog Tryz.lays144_ren:={
 mixed:=by kernel_rfl
 f143:=Tryz.func248.trans (congrArg some (by kernel_rfl))
 f144:=Tryz.func228.trans (congrArg some (by kernel_rfl))
 f217:=Tryz.func222.trans (congrArg some (by kernel_rfl))
 f219:=Tryz.func264.trans (congrArg some (by kernel_rfl))
 f224:=Tryz.func278.trans (congrArg some (by kernel_rfl))
 f225:=Tryz.func277.trans (congrArg some (by kernel_rfl))
 f266:=Tryz.func244.trans (congrArg some (by kernel_rfl))
 f267:=Tryz.func279.trans (congrArg some (by kernel_rfl))
 f314:=Tryz.func283.trans (congrArg some (by kernel_rfl))
 t3:=Tryz.underlying3
 a3:=Tryz.isAgg3
 z3:=Tryz.sizeOf3
 v3:=Tryz.zeroValue3
 t4:=Tryz.underlying4
 a4:=Tryz.isAgg4
 z4:=Tryz.sizeOf4
 v4:=Tryz.zeroValue4
 t5:=Tryz.underlying5
 a5:=Tryz.isAgg5
 z5:=Tryz.sizeOf5
 v5:=Tryz.zeroValue5
 t9:=Tryz.underlying9
 a9:=Tryz.isAgg9
 z9:=Tryz.sizeOf9
 v9:=Tryz.zeroValue9
 t46:=Tryz.underlying220
 a46:=Tryz.isAgg220
 z46:=Tryz.sizeOf220
 v46:=Tryz.zeroValue220
 t51:=Tryz.underlying240
 a51:=Tryz.isAgg240
 z51:=Tryz.sizeOf240
 v51:=Tryz.zeroValue240
 t146:=Tryz.underlying241
 a146:=Tryz.isAgg241
 z146:=Tryz.sizeOf241
 v146:=Tryz.zeroValue241
 g1:=by kernel_rfl}
theorem Tryz.strings_Contains_one (s:ByteArray) (c:UInt8) (w:World):
  Calls Tryz.prog 228 #[.string s,.string ⟨#[c]⟩] w fun e w' =>e= .returned (.bool (decide (0<=Lib.indexByte s.data.toList c)))/\w' =w:=Any.strings_Contains_one Tryz.lays144 s c w
end Go.Proofs
namespace Go.Proofs.YtimddhkipjedcaaGreatDoor.E
open Go Go.RowKit
attribute [go_sem] or_true or_false true_or false_or dT exists_eq_left exists_eq_left' true_implies true_and and_true Bool.and_true Bool.true_and Bool.or_false Bool.false_or Bool.not_true Bool.not_false Bool.and_false Bool.false_and dW List.nil_append List.append_nil PQ zV List.getElem?_cons_zero List.getElem?_cons_succ eq_self implies_true false_implies bt decide_eq_false_iff_not aD Bool.or_eq_true Bool.not_eq_true' Bool.and_eq_false_iff Bool.or_eq_false_iff Bool.not_eq_false' SV.v.injEq Value.int.injEq Value.bool.injEq Value.string.injEq List.contains_cons List.contains_nil beq_self_eq_true Nat.max_def Int.toNat_natCast Nat.mul_one Int.toNat_zero List.drop_zero Bx.mk.injEq Vc.mk.injEq List.cons.injEq List.take_length List.getElem?_nil List.getD_cons_zero List.getD_cons_succ not_false_eq_true au Nat.reduceBEq Nat.reduceAdd Nat.reduceMul Nat.reduceSub Nat.reduceEqDiff Nat.reduceLT Nat.reduceLeDiff Option.map Option.bind List.map List.length reduceCtorEq Option.toList Option.getD List.set List.drop List.take Int.reduceToNat
def cf0:Cfg:=⟨fun _=>false,fun _=>none⟩
theorem qD {P:Program}:dt cf0 P:=fun f F h=>by cases h
def dU (c:Int):Bool:=decide (97<=c)&&decide (c<=122)||decide (65<=c)&&decide (c<=90)||decide (c=95)||decide (c=36)
def eG (c:Int):Bool:=decide (48<=c)&&decide (c<=57)
def vg (F:Int->Bool):List Value->Option (Prop×Value)
 |[.int .u8 c]=>some (True,.bool (F c))
 |_=>none
theorem II {F:Int->Bool} {l:List Value} {y:Prop×Value} (h:vg F l=some y):∃c,l=[.int .u8 c]/\y=(True,.bool (F c)):=by
 unfold vg at h;split at h
 ·cases h;exact⟨_,rfl,rfl⟩
 ·cases h
theorem akQ:eR Tryz.prog 9=some none:=by kernel_rfl
theorem akT:eR Tryz.prog 3=some none:=by kernel_rfl
theorem ah7:Tryz.prog.underlying 9=some .string:=by kernel_rfl
attribute [go_sem] akQ akT ah7 vg.eq_1
theorem ag3:iP Tryz.prog 55=some 9:=by kernel_rfl
theorem sz9:bX Tryz.prog 9=1:=by kernel_rfl
theorem by9:od Tryz.prog 9=16:=by kernel_rfl
theorem afd:fB Tryz.prog 9=some [.v (.string (bs []))]:=by kernel_rfl
theorem sz3:bX Tryz.prog 3=1:=by kernel_rfl
attribute [go_sem] ag3 sz9 by9 afd sz3
abbrev gP:Cfg:=gC (fun _=>false) []
theorem aB:dt gP Tryz.prog:=pure_nil
def strs (l:List (List UInt8)):List Value:=l.map fun b=> .string (bs b)
theorem BM {m:Mem} {a:Option Addr} {n:Nat} {xs:List Value} (h:aZ m a n 1 xs) {i:Nat} (hi:i<n):∃hx:i<xs.length,Rd m (cM a i) [xs[i]]/\a≠none:=by
 have hl:xs.length=n:=by rw[h.1,Nat.mul_one]
 refine⟨by omega,?_,?_⟩
 ·obtain⟨ad,rfl,hs,hc⟩:=h.2 (by omega);obtain⟨e1,e2,e3⟩:=mQ ad i hs;refine⟨ad.add i,rfl,e3,fun j hj=> ?_⟩;obtain rfl:j=0:=by simp at hj;omega
  obtain⟨h1,h2⟩:=hc i (by omega);refine⟨?_,by rw[e1,e2];exact h2⟩;rw[show(ad.add i).add 0=ad.add i from rfl,h1];simp [hl,hi]
 ·obtain⟨ad,rfl,_⟩:=h.2 (by omega);simp
theorem O3 {l:List (List UInt8)} {s:List UInt8} {k:Nat} (h:k<l.length):(l.take (k+1)).contains s=((l.take k).contains s||decide (s=l[k])):=by
 rw[List.take_succ_eq_append_getElem h,Bool.eq_iff_iff];simp only[List.contains_iff_mem,List.mem_append,List.mem_singleton,Bool.or_eq_true,bt]
theorem index_spec (l:List (List UInt8)) (s:List UInt8) (a:Option Addr) (n c:Nat) (m:Mem) (h:aZ m a n 1 (strs l)) (hn:n<=4611686018427387904):
  FnH Tryz.prog 202 [.v (.slice a n c),.v (.string (bs s))] ⟨[],[]⟩ m fun r H' _=>(∃i:Int,r= .v (.int .i64 i)/\(decide (0<=i)=l.contains s))/\H' =⟨[],[]⟩:=by
 have hl:l.length=n:=by have:=h.1;simpa [strs] using this
 refine aR qD Tryz.func202 ?_
 ·simp only[go_sem];refine du qD (fun k:Nat=>⟨[⟨0,[],.v (.slice a n c)⟩,⟨1,[],.v (.string (bs s))⟩,⟨7,[],.v (.int .i64 n)⟩,⟨8,[],.v (.int .i64 k)⟩],[],[],[],0,m⟩)
   (fun k=>k<=n/\(l.take k).contains s=false) (fun k=>n - k) 0 (fun _ _=>au _) (fun _ _=> .inl rfl) ?_ ?_ ?_
  ·simp only[go_sem];rfl
  ·simp
  ·rintro k ⟨hk,hp⟩;simp only[go_sem];refine⟨fun ay=> ?_,fun cg=> ?_⟩
   ·have LC:k<n:=by omega
    obtain⟨hx,hr,cQ⟩:=BM h LC;refine⟨⟨by omega,ay,cQ⟩,_,by simpa using hr,?_⟩;have cB:k<l.length:=by omega
    have e:(strs l)[k]= .string (bs l[k]):=by simp [strs]
    have ec:=O3 (s:=s) cB;simp only[e];simp only[go_sem];refine⟨fun he=> ?_,fun he=>⟨by unfold aF;omega,k+1,by omega,⟨by omega,?_⟩,by omega⟩⟩
    ·have:s∈l:=by rw[he];exact List.getElem_mem cB
     simp [this]
    ·rw[ec,hp];simp [he]
   ·have:l.take k=l:=fi (by omega);rw[this] at hp;rw[hp];rfl
theorem yP (l:List (List UInt8)) (s:List UInt8) (a:Option Addr) (n c:Nat) (m:Mem) (h:aZ m a n 1 (strs l)) (hn:n<=4611686018427387904):
  FnH Tryz.prog 144 [.v (.slice a n c),.v (.string (bs s))] ⟨[],[]⟩ m fun r H' _=>r= .v (.bool (l.contains s))/\H' =⟨[],[]⟩:=by
 refine aR aB Tryz.func144 ?_
 ·simp only[go_sem];refine ab ((index_spec l s a n c m h hn).mono ?_);rintro r H' m' hm ⟨⟨i,rfl,hi⟩,rfl⟩;simp only[go_sem];exact hi
def gw:List (List UInt8):=[[97,98,115,116,114,97,99,116],[97,115],[99,97,116,99,104],[99,108,97,115,115],[101,108,115,101],[101,120,116,101,110,100,115],[102,105,110,97,108],[105,102],[105,109,112,108,101,109,101,110,116,115],[105,110,116],[105,110,116,101,114,102,97,99,101],[105,115],[108,101,110],[108,111,110,103],[110,101,119],[110,117,108,108],[112,114,105,118,97,116,101],[112,114,111,116,101,99,116,101,100],[112,117,98,108,105,99],[114,101,116,117,114,110],[115,116,97,116,105,99],[115,117,112,101,114],[115,121,110,99],[116,104,105,115],[116,104,114,111,119],[116,114,121],[118,111,105,100],[119,104,105,108,101]]
def je:List (List UInt8):=[[62,62,62],[60,60],[62,62],[61,61],[33,61],[60,61],[62,61],[38,38],[124,124],[123],[125],[40],[41],[91],[93],[59],[44],[46],[61],[43],[45],[42],[47],[37],[38],[124],[94],[33],[60],[62]]
theorem He (m:Mem):FnH Tryz.prog 209 [] ⟨[],[]⟩ m fun r H' m' =>r= .vec 0 0/\H' =⟨[],[⟨0,0,9,1,28,strs gw⟩]⟩/\m' =m:=by
 refine aR aB Tryz.func209 ?_
 ·simp only[go_sem];rfl
theorem VF (m:Mem):FnH Tryz.prog 227 [] ⟨[],[]⟩ m fun r H' m' =>r= .vec 0 0/\H' =⟨[],[⟨0,0,9,1,30,strs je⟩]⟩/\m' =m:=by
 refine aR aB Tryz.func227 ?_
 ·simp only[go_sem];rfl
def fr (B:List UInt8->Prop) (F:List UInt8->Value):List Value->Option (Prop×Value)
 |[.string a]=>some (B (tl a),F (tl a))
 |_=>none
attribute [go_sem] fr.eq_1
def qp (P:Program) (f:FuncId) (G:List Value->Option (Prop×Value)):Prop:=∀fe y,G fe=some y->y.1->∀m,FnH P f (fe.map SV.v) ⟨[],[]⟩ m (fun r H' _=>r= .v y.2/\H' =⟨[],[]⟩)
theorem JW {P:Program} {f:FuncId} {F:Int->Bool} (h:∀c m,FnH P f [.v (.int .u8 c)] ⟨[],[]⟩ m fun r H' _=>r= .v (.bool (F c))/\H' =⟨[],[]⟩):qp P f (vg F):=fun fe y hy _ m=>by
 obtain⟨c,rfl,rfl⟩:=II hy;exact h c m
theorem fL {P:Program} {f:FuncId} {B:List UInt8->Prop} {F:List UInt8->Value} (h:∀a m,B a->FnH P f [.v (.string (bs a))] ⟨[],[]⟩ m fun r H' _=>r= .v (F a)/\H' =⟨[],[]⟩):qp P f (fr B F):=fun fe y hy hB m=>by
 unfold fr at hy;split at hy
 ·rename_i a;cases hy;have:=h (tl a) m hB;rwa [oG] at this
 ·cases hy
def vN (c:Int):Int:=if dU c then 1 else if eG c then 2 else 0
theorem YP (c:Int):vN c=if 97<=c/\c<=122\/65<=c/\c<=90\/c=95\/c=36 then 1 else if 48<=c/\c<=57 then 2 else 0:=by
 simp [vN,dU,eG,or_assoc]
theorem XK (c:Int) (m:Mem):FnH Tryz.prog 229 [.v (.int .u8 c)] ⟨[],[]⟩ m fun r H' _=>r= .v (.int .i64 (vN c))/\H' =⟨[],[]⟩:=by
 refine aR aB Tryz.func229 ?_
 ·simp only[go_sem];rw[YP];split
  ·omega
  ·split<;>omega
def Gt (F:Int->Value):List Value->Option (Prop×Value)
 |[.int .u8 c]=>some (True,F c)
 |_=>none
attribute [go_sem] Gt.eq_1
theorem adX {P:Program} {f:FuncId} {F:Int->Value} (h:∀c m,FnH P f [.v (.int .u8 c)] ⟨[],[]⟩ m fun r H' _=>r= .v (F c)/\H' =⟨[],[]⟩):qp P f (Gt F):=fun fe y hy _ m=>by
 unfold Gt at hy;split at hy
 ·cases hy;exact h _ m
 ·cases hy
theorem Ir (c:Int):vN c=1↔dU c=true:=by
 unfold vN;split
 ·simp_all
 ·split<;>simp_all
theorem ON (c:Int):vN c=2↔¬dU c=true/\eG c=true:=by
 unfold vN;split
 ·simp_all
 ·split<;>simp_all
def eA:Bool->List UInt8->Bool
 |start,[]=> !start
 |start,c::r=>if c.toNat=47/\start=false then eA true r else if dU c.toNat=true\/(eG c.toNat=true/\start=false) then eA false r else false
def fJ (s:List UInt8):Bool:=decide (s.length<=64)&&eA true s
abbrev Vt:Cfg:=gC (fun _=>false) [(229,Gt fun c=> .int .i64 (vN c))]
theorem Uz:dt Vt Tryz.prog:=pure_cons (by kernel_rfl) (adX XK) pure_nil
theorem drop_at {s:List UInt8} {k:Nat} (h:k<s.length):s.drop k=s.getD k 0::s.drop (k+1):=by
 rw[List.drop_eq_getElem_cons h,List.getD_eq_getElem?_getD,List.getElem?_eq_getElem h];rfl
theorem Hv (s:List UInt8) (m:Mem) (hs:s.length<=4611686018427387904):FnH Tryz.prog 192 [.v (.string (bs s))] ⟨[],[]⟩ m fun r H' _=>r= .v (.bool (fJ s))/\H' =⟨[],[]⟩:=by
  refine enter Vt Uz Tryz.func192 rfl rfl (by kernel_rfl) rfl ?_ ?_
  · simp only[go_sem]
  · simp only[go_sem]
    refine⟨fun h=> ?_,fun h=> ?_⟩
    · rcases h with rfl |h
      · rfl
      · have:¬s.length<=64:=by omega
        simp [fJ,this]
    · refine ei Uz (fun x:Nat×Bool=>⟨[⟨0,[],.v (.string (bs s))⟩,⟨3,[],.v (.bool x.2)⟩,⟨14,[],.v (.int .i64 s.length)⟩,⟨15,[],.v (.int .i64 x.1)⟩],[],[],[],0,m⟩)
        (fun x=>x.1<=s.length/\eA true s=eA x.2 (s.drop x.1)) (fun x=>s.length - x.1) (0,true) (by kernel_rfl) (fun _ _=>au _) (fun _ _=> .inl rfl) (fun _=> ?_) ?_ ?_ ?_
      · simp only[go_sem]
      · simp only[go_sem]
        rfl
      · simp
      · rintro⟨k,st⟩ ⟨hk,hp⟩
        simp only at hk hp;simp only[go_sem];have hN:fJ s=eA true s:=by
          have:s.length<=64:=by omega
          simp [fJ,this]
        rw[hN];refine⟨fun ay=> ?_,fun cg=> ?_⟩
        · have cB:k<s.length:=by omega
          rw[drop_at cB] at hp;simp only[eA] at hp;have hI:aF (k+1):=by unfold aF;omega
          refine⟨⟨by omega,ay⟩,⟨by omega,ay⟩,fun h1=>⟨hI,(k+1,true),⟨rfl,rfl⟩,⟨cB,?_⟩,by simp only;omega⟩,fun h1=>⟨fun h2=>⟨fun _=>⟨hI,(k+1,false),⟨rfl,rfl⟩,⟨cB,?_⟩,by simp only;omega⟩,fun h3=>absurd h2 h3⟩,
            fun h2=>⟨fun h3=>⟨hI,(k+1,false),⟨rfl,rfl⟩,⟨cB,?_⟩,by simp only;omega⟩,fun h3=> ?_⟩⟩⟩
          · rw[hp,ah ⟨by omega,h1.2⟩]
          · rw[hp,af (by rintro⟨e,e'⟩;rcases h1 with h1 |h1;· omega
                         · rw[e'] at h1;cases h1),ah (.inl ((Ir _).1 h2))]
          · rw[hp,af (by rintro⟨e,e'⟩;rcases h1 with h1 |h1;· omega
                         · rw[e'] at h1;cases h1),ah (.inr ⟨((ON _).1 h3.1).2,h3.2⟩)]
          · rw[hp,af (by rintro⟨e,e'⟩;rcases h1 with h1 |h1;· omega
                         · rw[e'] at h1;cases h1),af]
            rintro(e |⟨e,e'⟩)
            · exact h2 ((Ir _).2 e)
            · rcases h3 with h3 |h3
              · exact h3 ((ON _).2 ⟨fun x=>h2 ((Ir _).2 x),e⟩)
              · rw[e'] at h3;cases h3
        · rw[hp,List.drop_of_length_le (by omega)]
          rfl
theorem V5 (c:Int) (m:Mem):FnH Tryz.prog 242 [.v (.int .u8 c)] ⟨[],[]⟩ m fun r H' _=>r= .v (.bool (dU c))/\H' =⟨[],[]⟩:=by
 refine aR aB Tryz.func242 ?_
 ·simp only[go_sem];rfl
def rz (c:UInt8):Bool:=dU c.toNat||eG c.toNat
def ox:List UInt8->Bool
 |[]=>false
 |c::r=>dU c.toNat&&r.all rz
theorem JA:∀(p r:List UInt8),(∀c∈p,c.toNat≠47)->eA false (p++r)=(p.all rz&&eA false r)
 |[],r,_=>by simp
 |c::p,r,h=>by
  have h1:=h c (bY ..);have ih:=JA p r fun x hx=>h x (bR _ hx)
  simp only[dW,eA,List.all_cons,rz];rw[af (fun e=>h1 e.1)];cases e1:dU c.toNat<;>cases e2:eG c.toNat<;>simp [ih]
theorem ab3 (p r:List UInt8) (h:∀c∈p,c.toNat≠47):eA true (p++47::r)=(ox p&&eA true r):=by
 cases p with
 |nil=>simp [eA,ox,dU,eG]
 |cons c p=>
  have h1:=h c (bY ..);have ih:=JA p (47::r) fun x hx=>h x (bR _ hx)
  simp only[dW,eA,ox];rw[af (fun e=>h1 e.1),ih];cases e1:dU c.toNat<;>simp [eA]
theorem Rh (p:List UInt8) (h:∀c∈p,c.toNat≠47):eA true p=ox p:=by
 cases p with
 |nil=>rfl
 |cons c p=>
  have h1:=h c (bY ..);have ih:=JA p [] fun x hx=>h x (bR _ hx)
  rw[List.append_nil] at ih;simp only[eA,ox];rw[af (fun e=>h1 e.1),ih];cases e1:dU c.toNat<;>simp [eA]
abbrev cf4:Cfg:=gC (fun _=>false) [(242,vg dU)]
theorem Uy:dt cf4 Tryz.prog:=pure_cons (by kernel_rfl) (JW V5) pure_nil
theorem Xm (s:List UInt8) (m:Mem) (hs:s.length<=4611686018427387904):FnH Tryz.prog 216 [.v (.string (bs s))] ⟨[],[]⟩ m fun r H' _=>r= .v (.bool (ox s))/\H' =⟨[],[]⟩:=by
 refine aR Uy Tryz.func216 ?_
 ·simp only[go_sem];refine du Uy (fun k:Nat=>⟨[⟨0,[],.v (.string (bs s))⟩,⟨3,[],.v (.int .i64 k)⟩],[],[],[],0,m⟩)
    (fun k=>k<=s.length/\(k=0\/ox s=(s.drop k).all rz)) (fun k=>s.length - k) 0 (fun _ _=>au _) (fun _ _=> .inl rfl) ?_ ?_ ?_
  ·simp only[go_sem];rfl
  ·simp
  ·rintro k ⟨hk,hp⟩;simp only[go_sem];have ar:∀x:UInt8,rz x=true↔dU x.toNat=true\/¬(x.toNat:Int)<48/\¬57<(x.toNat:Int):=fun x=>by
    simp [rz,eG]
   have lB:k=0->k<s.length->ox s=(dU (s.getD k 0).toNat&&(s.drop (k+1)).all rz):=by
    rintro rfl ay;have:=drop_at ay;rw[List.drop_zero] at this;rw[this];rfl
   refine⟨fun ay=>⟨⟨by omega,ay⟩,fun _=>⟨by omega,ay⟩,fun _=>⟨by omega,ay⟩,fun h=> ?_,fun h=>⟨by unfold aF;omega,k+1,by omega,⟨by omega,.inr ?_⟩,by omega⟩⟩,fun cg=> ?_⟩
   ·have cB:k<s.length:=by omega
    rcases Nat.eq_zero_or_pos k with h0 |h0
    ·rw[lB h0 cB,h.1];rfl
    ·rcases hp with hp |hp
     ·omega
     ·rw[hp,drop_at cB,List.all_cons];have:rz (s.getD k 0)=false:=by
       rw[Bool.eq_false_iff];intro e;rcases(ar _).1 e with e |e
       ·rw[e] at h;cases h.1
       ·omega
      rw[this];rfl
   ·have cB:k<s.length:=by omega
    rcases Nat.eq_zero_or_pos k with h0 |h0
    ·rw[lB h0 cB];have:dU (s.getD k 0).toNat=true:=by
      rcases h with h |h
      ·exact h
      ·omega
     rw[this];rfl
    ·rcases hp with hp |hp
     ·omega
     ·rw[hp,drop_at cB,List.all_cons]
      have:rz (s.getD k 0)=true:=(ar _).2 (by
       rcases h with h |h
       ·exact .inl h
       ·exact .inr ⟨h.1.2,h.2⟩)
      rw[this];rfl
   ·rcases Nat.eq_zero_or_pos s.length with h0 |h0
    ·rw[List.eq_nil_of_length_eq_zero h0];rfl
    ·rcases hp with hp |hp
     ·omega
     ·rw[hp,List.drop_of_length_le (by omega)];simpa using h0
def j7 (s:List UInt8) (c:Int):Nat->Int
 |0=> -1
 |k+1=>if((s.getD k 0).toNat:Int)=c then k else j7 s c k
theorem lastIdx_spec (s:List UInt8) (c:Int) (m:Mem) (hs:s.length<=4611686018427387904):FnH Tryz.prog 265 [.v (.string (bs s)),.v (.int .u8 c)] ⟨[],[]⟩ m fun r H' _=>r= .v (.int .i64 (j7 s c s.length))/\H' =⟨[],[]⟩:=by
 refine aR aB Tryz.func265 ?_
 ·simp only[go_sem];refine⟨by unfold aF;omega,?_⟩;refine du aB (fun k:Nat=>⟨[⟨0,[],.v (.string (bs s))⟩,⟨1,[],.v (.int .u8 c)⟩,⟨5,[],.v (.int .i64 (k - 1))⟩],[],[],[],0,m⟩)
    (fun k=>k<=s.length/\j7 s c s.length=j7 s c k) (fun k=>k) s.length (fun _ _=>au _) (fun _ _=> .inl rfl) ?_ ?_ ?_
  ·simp only[go_sem]
  ·simp
  ·rintro k ⟨hk,hp⟩;simp only[go_sem];refine⟨fun h0=>⟨⟨h0,by omega⟩,fun h=> ?_,fun h=>⟨by unfold aF;omega,k - 1,by omega,⟨by omega,?_⟩,by omega⟩⟩,fun h=> ?_⟩
   ·obtain⟨k,rfl⟩:∃j,k=j+1:=⟨k - 1,by omega⟩;have e:((k+1:Nat):Int) - 1=k:=by omega
    rw[e,Int.toNat_natCast] at h;rw[e];rw[hp];simp only[j7];rw[ah h]
   ·obtain⟨k,rfl⟩:∃j,k=j+1:=⟨k - 1,by omega⟩;have e:((k+1:Nat):Int) - 1=k:=by omega
    rw[e,Int.toNat_natCast] at h;rw[hp];simp only[j7];rw[af h];rfl
   ·obtain rfl:k=0:=by omega
    rw[hp];rfl
theorem V9 (s:List UInt8) (m:Mem) (hs:s.length<=4611686018427387904):FnH Tryz.prog 217 [.v (.string (bs s))] ⟨[],[]⟩ m fun r H' _=>r= .v (.int .i64 (j7 s 47 s.length))/\H' =⟨[],[]⟩:=by
 refine aR aB Tryz.func217 ?_
 ·simp only[go_sem];refine⟨by unfold aF;omega,?_⟩;refine du aB (fun k:Nat=>⟨[⟨0,[],.v (.string (bs s))⟩,⟨3,[],.v (.int .i64 (k - 1))⟩],[],[],[],0,m⟩)
    (fun k=>k<=s.length/\j7 s 47 s.length=j7 s 47 k) (fun k=>k) s.length (fun _ _=>au _) (fun _ _=> .inl rfl) ?_ ?_ ?_
  ·simp only[go_sem]
  ·simp
  ·rintro k ⟨hk,hp⟩;simp only[go_sem];refine⟨fun h0=>⟨⟨h0,by omega⟩,fun h=> ?_,fun h=>⟨by unfold aF;omega,k - 1,by omega,⟨by omega,?_⟩,by omega⟩⟩,fun h=> ?_⟩
   ·obtain⟨k,rfl⟩:∃j,k=j+1:=⟨k - 1,by omega⟩;have e:((k+1:Nat):Int) - 1=k:=by omega
    rw[e,Int.toNat_natCast] at h;rw[e];rw[hp];simp only[j7];rw[ah h]
   ·obtain⟨k,rfl⟩:∃j,k=j+1:=⟨k - 1,by omega⟩;have e:((k+1:Nat):Int) - 1=k:=by omega
    rw[e,Int.toNat_natCast] at h;rw[hp];simp only[j7];rw[af h];rfl
   ·obtain rfl:k=0:=by omega
    rw[hp];rfl
theorem VQ (s:List UInt8) (c:Int) (m:Mem) (hs:s.length<=4611686018427387904):FnH Tryz.prog 249 [.v (.string (bs s)),.v (.int .u8 c)] ⟨[],[]⟩ m fun r H' _=>r= .v (.int .i64 (j7 s c s.length))/\H' =⟨[],[]⟩:=by
 refine aR aB Tryz.func249 ?_
 ·simp only[go_sem];refine ab ((lastIdx_spec s c m hs).mono ?_);rintro r H' m' hm ⟨rfl,rfl⟩;simp only[go_sem]
theorem WT (s:List UInt8) (m:Mem) (hs:s.length<=4611686018427387904):FnH Tryz.prog 230 [.v (.string (bs s))] ⟨[],[]⟩ m fun r H' _=>r= .v (.int .i64 (j7 s 47 s.length))/\H' =⟨[],[]⟩:=by
 refine aR aB Tryz.func230 ?_
 ·simp only[go_sem];refine ab ((VQ s 47 m hs).mono ?_);rintro r H' m' hm ⟨rfl,rfl⟩;simp only[go_sem]
theorem Eh (s:List UInt8) (c:Int):∀k,-1<=j7 s c k/\j7 s c k<k
 |0=>⟨by simp [j7],by simp [j7]⟩
 |k+1=>by
  obtain⟨h1,h2⟩:=Eh s c k;simp only[j7];split<;>omega
def vD (s:List UInt8):List UInt8:=s.drop (j7 s 47 s.length+1).toNat
theorem Wa (s:List UInt8) (m:Mem) (hs:s.length<=4611686018427387904):FnH Tryz.prog 193 [.v (.string (bs s))] ⟨[],[]⟩ m fun r H' _=>r= .v (.string (bs (vD s)))/\H' =⟨[],[]⟩:=by
 refine aR aB Tryz.func193 ?_
 ·simp only[go_sem];refine ab ((WT s m hs).mono ?_);rintro r H' m' hm ⟨rfl,rfl⟩;simp only[go_sem];obtain⟨h1,h2⟩:=Eh s 47 s.length;refine⟨by unfold aF;omega,⟨by omega,by omega,by omega⟩,?_⟩;rfl
theorem VU (s:List UInt8) (m:Mem) (hs:s.length<=4611686018427387904):FnH Tryz.prog 171 [.v (.string (bs s))] ⟨[],[]⟩ m fun r H' _=>r= .v (.string (bs (vD s)))/\H' =⟨[],[]⟩:=by
 refine aR aB Tryz.func171 ?_
 ·simp only[go_sem];refine ab ((V9 s m hs).mono ?_);rintro r H' m' hm ⟨rfl,rfl⟩;simp only[go_sem];obtain⟨h1,h2⟩:=Eh s 47 s.length;refine⟨by unfold aF;omega,⟨by omega,by omega,by omega⟩,?_⟩;rfl
theorem aaR {s:List UInt8} {f k:Nat} (hf:f<=k) (hk:k<=s.length):s.drop f=(s.take k).drop f++s.drop k:=by
 conv=>lhs;rw[<- List.take_append_drop k s]
 rw[List.drop_append_of_le_length (by rw[List.length_take];omega)]
theorem ZE {s:List UInt8} {f k:Nat} (hf:f<=k) (hk:k<s.length):(s.take (k+1)).drop f=(s.take k).drop f++[s.getD k 0]:=by
 rw[List.take_succ_eq_append_getElem hk,List.drop_append_of_le_length (by rw[List.length_take];omega),List.getD_eq_getElem?_getD,List.getElem?_eq_getElem hk];rfl
abbrev cf5:Cfg:=gC (fun _=>false) [(216,fr (fun s=>s.length<=4611686018427387904) fun s=> .bool (ox s))]
theorem Ll:dt cf5 Tryz.prog:=pure_cons (by kernel_rfl) (fL fun s m h=>Xm s m h) pure_nil
theorem MH (s:List UInt8) (m:Mem) (hs:s.length<=4611686018427387904):FnH Tryz.prog 170 [.v (.string (bs s))] ⟨[],[]⟩ m fun r H' _=>r= .v (.bool (fJ s))/\H' =⟨[],[]⟩:=by
 refine aR Ll Tryz.func170 ?_
 ·simp only[go_sem];refine⟨fun h=> ?_,fun h=> ?_⟩
  ·have:¬s.length<=64:=by omega
   simp [fJ,this]
  ·refine du Ll (fun x:Nat×Nat=>⟨[⟨0,[],.v (.string (bs s))⟩,⟨3,[],.v (.int .i64 x.1)⟩,⟨4,[],.v (.int .i64 x.2)⟩],[],[],[],0,m⟩)
    (fun x=>x.1<=x.2/\x.2<=s.length/\(∀c∈(s.take x.2).drop x.1,c.toNat≠47)/\fJ s=eA true (s.drop x.1)) (fun x=>s.length - x.2) (0,0) (fun _ _=>au _) (fun _ _=> .inl rfl) ?_ ?_ ?_
   ·simp only[go_sem];exact⟨rfl,rfl⟩
   ·have:s.length<=64:=by omega
    simp [fJ,this]
   ·rintro⟨f,k⟩ ⟨hf,hk,mN,hp⟩;simp only at hf hk mN hp;simp only[go_sem];have hlen:∀l:List UInt8,(l.take k).length<=k:=fun l=>by rw[List.length_take];omega
    refine⟨fun ay=> ?_,fun cg=> ?_⟩
    ·have cB:k<s.length:=by omega
     have hI:aF (k+1):=by unfold aF;omega
     refine⟨⟨by omega,ay⟩,fun vq=> ?_,fun vq=>⟨hI,(f,k+1),⟨rfl,rfl⟩,⟨by simp only;omega,cB,?_,hp⟩,by simp only;omega⟩⟩
     ·have e47:s.getD k 0=47:=by
       have:(s.getD k 0).toNat=47:=by omega
       exact UInt8.toNat_inj.1 this
      have nw:fJ s=(ox ((s.take k).drop f)&&eA true (s.drop (k+1))):=by
       rw[hp,aaR hf hk,drop_at cB,e47];exact ab3 _ _ mN
      refine⟨⟨by omega,by omega,by omega⟩,by simp only[dI,List.length_take];omega,fun h=> ?_,fun h=>⟨hI,hI,(k+1,k+1),⟨rfl,rfl⟩,⟨au _,cB,?_,?_⟩,by simp only;omega⟩⟩
      ·rw[nw,h];rfl
      ·rw[List.drop_of_length_le (by simp;omega)];intro c hc;cases hc
      ·rw[nw,h];rfl
     ·simp only;rw[ZE hf cB];intro c hc;rcases List.mem_append.1 hc with hc |hc
      ·exact mN c hc
      ·rw[List.mem_singleton.1 hc];omega
    ·obtain rfl:k=s.length:=by omega
     refine⟨⟨by omega,by omega,by omega⟩,by simp only[dI,List.length_take];omega,?_⟩;rw[hp];have:=Rh _ mN;rw[List.take_length] at this;exact this.symm
theorem Sm:∀(s:List UInt8) (b:Bool),eA b s=true->s=[]\/((s.getD (s.length - 1) 0).toNat≠47/\eA b s=true)
 |[],_,_=> .inl rfl
 |c::r,b,h=>by
  refine .inr ⟨?_,h⟩;simp only[eA] at h;cases r with
  |nil=>
   intro e;have e:c.toNat=47:=e;rw[e] at h;cases b<;>simp [eA,dU,eG] at h
  |cons d r=>
   have go:∀b',eA b' (d::r)=true->((c::d::r).getD ((c::d::r).length - 1) 0).toNat≠47:=fun b' hb=>by
    rcases Sm (d::r) b' hb with e |e
    ·cases e
    ·simpa using e.1
   split at h
   ·exact go _ h
   ·split at h
    ·exact go _ h
    ·cases h
theorem NZ {s:List UInt8} (h:fJ s=true):0<(vD s).length:=by
 simp only[fJ,aD] at h;rcases Sm s true h.2 with rfl |⟨e,_⟩
 ·simp [eA] at h
 ·have hl:0<s.length:=by
   cases s with
   |nil=>simp [eA] at h
   |cons c r=>simp
  unfold vD;rw[dI];obtain⟨n,hn⟩:∃n,s.length=n+1:=⟨s.length - 1,by omega⟩;rw[hn] at e ⊢;simp only[Nat.add_sub_cancel] at e;have h2:=Eh s 47 n;have:j7 s 47 (n+1)=j7 s 47 n:=by
   simp only[j7];rw[af (by omega)]
  rw[this];omega
def dd (s:List UInt8):Bool:=fJ s&&decide (65<=((vD s).getD 0 0).toNat)&&decide (((vD s).getD 0 0).toNat<=90)
abbrev BL (s:List UInt8):Prop:=s.length<=4611686018427387904
abbrev G4:Cfg:=gC (fun _=>false) [(192,fr BL fun s=> .bool (fJ s)),(170,fr BL fun s=> .bool (fJ s)),(193,fr BL fun s=> .string (bs (vD s))),(171,fr BL fun s=> .string (bs (vD s)))]
theorem rW:dt G4 Tryz.prog:=pure_cons (by kernel_rfl) (fL Hv) (pure_cons (by kernel_rfl) (fL MH) (pure_cons (by kernel_rfl) (fL Wa) (pure_cons (by kernel_rfl) (fL VU) pure_nil)))
theorem A5 (s:List UInt8) (m:Mem) (hs:BL s):FnH Tryz.prog 134 [.v (.string (bs s))] ⟨[],[]⟩ m fun r H' _=>r= .v (.bool (dd s))/\H' =⟨[],[]⟩:=by
 refine aR rW Tryz.func134 ?_
 ·simp only[go_sem];refine⟨hs,fun h=>by simp [dd,h],fun h=>⟨hs,⟨by omega,by have:=NZ h;omega⟩,?_⟩⟩;rw[dd,h,Bool.true_and];have e1:∀n:Nat,decide ((65:Int)<=n)=decide (65<=n):=fun n=>by rw[decide_eq_decide];omega
  have e2:∀n:Nat,decide ((n:Int)<=90)=decide (n<=90):=fun n=>by rw[decide_eq_decide];omega
  rw[e1,e2]
theorem FA {P:Program} {f:FuncId} {args:List Value} {m:Mem} {R:Value->Prop} (h:∀w D,Wf w D->m.le ⟨w,D⟩->Calls P f ⟨args⟩ w fun e w' =>∃y,e= .returned y/\R y/\Below w.heap.size w w'):
  FnH P f (args.map SV.v) ⟨[],[]⟩ m fun r H' m' =>(∃y,r= .v y/\R y)/\H' =⟨[],[]⟩/\m' =m:=by
 intro V w D kI hle hH;have ha:(args.map SV.v).map (den V)=args:=by rw[List.map_map];exact List.map_id'' (fun _=>rfl) args
 rw[ha];refine(h w D kI hle).mono ?_;rintro e w' ⟨y,rfl,hy,hb⟩;have ay:∀b,0<D b->b<w.heap.size:=fun b hb=>by
  rcases Nat.lt_or_ge b w.heap.size with h |h
  ·exact h
  ·have:=kI b h;omega
 have T6:Mem.le ⟨w,D⟩ ⟨w',D⟩:=fun b=>⟨au _,fun h0=>⟨ay b h0,ub (hb.block b (ay b h0))⟩⟩
 exact⟨.v y,V,D,⟨[],[]⟩,m,rfl,fun b oW=>kI b (cZ hb.size oW),⟨fun b hb=>(by cases hb),fun b hb=>(by cases hb),by simp [bq],by simp⟩,fun b hb=>(by cases hb),fun b hb=>(by cases hb),
  ⟨hb.os,hb.tape,hb.output,hb.size,fun b oW _=>⟨hb.block b oW,rfl⟩⟩,fun b hb=>(by simp [bq] at hb),T6,fun b=>⟨au _,fun h=>⟨((hle b).2 h).1,ub rfl⟩⟩,Mem.le_trans hle T6,⟨y,rfl,hy⟩,rfl,rfl⟩
theorem zS {m m' :Mem} {a:Option Addr} {n sz:Nat} {xs:List Value} (hle:m.le m') (h:aZ m a n sz xs):aZ m' a n sz xs:=by
 refine⟨h.1,fun h0=> ?_⟩;obtain⟨ad,rfl,hs,hc⟩:=h.2 h0;refine⟨ad,rfl,hs,fun j hj=> ?_⟩;obtain⟨h1,h2⟩:=hc j hj;obtain⟨e1,e2,e3⟩:=mQ ad j hs;have hx:xs[j]? =some (xs[j]'(by rw[h.1];exact hj)):=List.getElem?_eq_getElem _;exact⟨(Ec hle e3 (by rw[e1,e2];exact h2) (h1.trans hx)).trans hx.symm,eM h2 (hle _).1⟩
theorem ahQ {m m' :Mem} {x:Value} {cs:List Value} (hle:m.le m') (h:Rd m x cs):Rd m' x cs:=by
 obtain⟨ad,rfl,hs,hc⟩:=h;refine⟨ad,rfl,hs,fun j hj=> ?_⟩;obtain⟨h1,h2⟩:=hc j hj;obtain⟨e1,e2,e3⟩:=mQ ad j hs;have hx:cs[j]? =some (cs[j]'hj):=List.getElem?_eq_getElem _;exact⟨(Ec hle e3 (by rw[e1,e2];exact h2) (h1.trans hx)).trans hx.symm,eM h2 (hle _).1⟩
def opsL:List (List UInt8):=[[124,124],[38,38],[124],[94],[38],[61,61],[33,61],[60],[60,61],[62],[62,61],[60,60],[62,62],[62,62,62],[43],[45],[42],[47],[37]]
def Glob (m:Mem):Prop:=(∀w D,m.le ⟨w,D⟩->(∃k,w.cell? ⟨1,0,none⟩=some (.int .i64 k))/\Lib.TabIs Tryz.prog w "internal/strconv.uint64pow10" .u64 Lib.pow10Tab)/\
 ∃ad c,Rd m (.pointer (some ⟨0,0,none⟩)) [.slice (some ad) 19 c]/\19<=c/\aZ m (some ad) 19 1 (strs opsL)
theorem Glob.up {m m' :Mem} (h:Glob m) (hm:m.le m'):Glob m' :=
 ⟨fun w D hw=>h.1 w D (Mem.le_trans hm hw),h.2.elim fun ad h=>h.elim fun c h=>⟨ad,c,ahQ hm h.1,h.2.1,zS hm h.2.2⟩⟩
theorem I5 (b:ByteArray):(tl b).length=b.size:=by simp [tl]
theorem qb (l:List UInt8):(bs l).size=l.length:=by rw[<- I5,zV]
theorem VY (s eX new:List UInt8) (m:Mem) (hg:Glob m) (hs:s.length<=2147483648) (ho:1<=eX.length) (hn:new.length<=16):
  FnH Tryz.prog 224 [.v (.string (bs s)),.v (.string (bs eX)),.v (.string (bs new))] ⟨[],[]⟩ m fun r H' m' =>(r= .v (.string (bs (Lib.replaceAll s eX new))))/\H' =⟨[],[]⟩/\m' =m:=by
 refine(FA (args:=[.string (bs s),.string (bs eX),.string (bs new)]) (R:=fun y=>y= .string (bs (Lib.replaceAll s eX new))) fun w D kI hle=> ?_).mono ?_
 ·obtain⟨k,hk⟩:=(hg.1 w D hle).1;have hc:=Lib.countB_mul_le (bs eX) (by rw[qb];exact ho) s.length (bs s) (by rw[qb];omega);have h1:Lib.countB (bs s) (bs eX)<=s.length:=by
   rw[qb] at hc;exact cZ (Nat.le_mul_of_pos_right _ ho) hc
  have h2:Lib.countB (bs s) (bs eX) * (bs new).size<=s.length * 16:=by rw[qb];exact Nat.mul_le_mul h1 hn
  refine(Tryz.strings_ReplaceAll (bs s) (bs eX) (bs new) k w (by rw[qb];omega) hk (by rw[qb];exact ho) (by rw[qb s];omega)).mono ?_;rintro e w' ⟨rfl,hb⟩;exact⟨_,rfl,by rw[<- PQ];rfl,hb⟩
 ·rintro r H' m' hm ⟨⟨y,rfl,rfl⟩,h1,h2⟩;exact⟨rfl,h1,h2⟩
theorem My (s:List UInt8) (c:Int) (m:Mem):FnH Tryz.prog 183 [.v (.string (bs s)),.v (.int .u8 c)] ⟨[],[]⟩ m fun r H' _=>r= .v (.int .i64 (Lib.indexByte s c.toNat.toUInt8))/\H' =⟨[],[]⟩:=by
 refine(FA (args:=[.string (bs s),.int .u8 c]) (R:=fun y=>y= .int .i64 (Lib.indexByte s c.toNat.toUInt8)) fun w D kI hle=> ?_).mono ?_
 ·refine(Tryz.strings_IndexByte (bs s) c w).mono ?_;rintro e w' ⟨rfl,rfl⟩;exact⟨_,rfl,rfl,Below.refl _ _⟩
 ·rintro r H' m' hm ⟨⟨y,rfl,rfl⟩,h1,h2⟩;exact⟨rfl,h1⟩
theorem ady:fB Tryz.prog 50=some [.v (.int .i64 0),.v (.string (bs [])),.v (.int .i64 0),.v (.int .i64 0)]:=by kernel_rfl
theorem ahP:eR Tryz.prog 50=some (some 4):=by kernel_rfl
theorem aio:bX Tryz.prog 50=4:=by kernel_rfl
theorem akG:od Tryz.prog 50=40:=by kernel_rfl
theorem ac5:da Tryz.prog 50 0=some (0,none,1):=by kernel_rfl
theorem ac4:da Tryz.prog 50 1=some (1,none,1):=by kernel_rfl
theorem ac3:da Tryz.prog 50 2=some (2,none,1):=by kernel_rfl
theorem ac2:da Tryz.prog 50 3=some (3,none,1):=by kernel_rfl
theorem ahB:nO Tryz.prog 50=true:=by kernel_rfl
theorem akh:qR Tryz.prog 3 5= .int .u8:=by kernel_rfl
theorem ahb:qR Tryz.prog 83 9= .b2s:=by kernel_rfl
attribute [go_sem] akh ahb ady ahP aio akG ac5 ac4 ac3 ac2 ahB
structure Tk where
 k:Int
 s:List UInt8
 n:Int
 at_:Int
abbrev Tk.cells (t:Tk):List SV:=[.v (.int .i64 t.k),.v (.string (bs t.s)),.v (.int .i64 t.n),.v (.int .i64 t.at_)]
abbrev Tk.sv (t:Tk):SV:= .agg t.cells
def mE:List UInt8:=[48,49,50,51,52,53,54,55,56,57,97,98,99,100,101,102]
theorem ag2:iP Tryz.prog 83=some 5:=by kernel_rfl
theorem sz5:bX Tryz.prog 5=1:=by kernel_rfl
theorem by5:od Tryz.prog 5=1:=by kernel_rfl
theorem afe:fB Tryz.prog 5=some [.v (.int .u8 0)]:=by kernel_rfl
theorem akR:eR Tryz.prog 5=some none:=by kernel_rfl
attribute [go_sem] ag2 sz5 by5 afe akR
theorem Bz (a b:List UInt8):jW (a++b)=jW a++jW b:=by simp [jW]
theorem Pf (eX new:List UInt8):∀(k:Nat) (s:List UInt8),(Lib.replaceK eX new k s).length<=s.length+k * new.length
 |0,s=>by simp [Lib.replaceK]
 |k+1,s=>by
  rw[Lib.replaceK];split
  ·exact Nat.le_add_right _ _
  ·have ih:=Pf eX new k (s.drop ((Lib.index s eX).toNat+eX.length));simp only[aI,List.length_take,dI] at ih ⊢;rw[Nat.add_mul];omega
theorem QT (s eX new:List UInt8) (ho:1<=eX.length) (hs:s.length<=1000000000):(Lib.replaceAll s eX new).length<=s.length+s.length * new.length:=by
 unfold Lib.replaceAll Lib.replace;split
 ·exact Nat.le_add_right _ _
 ·refine cZ (Pf _ _ _ _) ?_;have hn:Lib.replaceNum s eX (-1)=Lib.count s eX:=by simp [Lib.replaceNum]
  have hc:=Lib.countB_mul_le (bs eX) (by rw[qb];exact ho) s.length (bs s) (by rw[qb];exact au _);have hcc:Lib.countB (bs s) (bs eX)=Lib.count s eX:=rfl;rw[hcc,qb,qb] at hc;have:Lib.count s eX<=s.length:=cZ (Nat.le_mul_of_pos_right _ ho) hc;rw[hn];exact Nat.add_le_add_left (Nat.mul_le_mul_right _ this) _
theorem ag4:iP Tryz.prog 45=some 50:=by kernel_rfl
attribute [go_sem] ag4
def cv (ts:List Tk):List Value:=(ts.map fun t=>[Value.int .i64 t.k,.string (bs t.s),.int .i64 t.n,.int .i64 t.at_]).flatten
theorem On {a b c:Mem} (h:ae a b) (h' :b.le c):ae a c:=by
 rcases h with rfl |h
 ·exact .inr h'
 ·exact .inr (Mem.le_trans h h')
theorem akg:qR Tryz.prog 5 3= .int .i64:=by kernel_rfl
attribute [go_sem] akg
def km (c:UInt8):List UInt8:=
 if c.toNat=34\/c.toNat=92 then[92,c] else if c.toNat=10 then[92,110] else if c.toNat<32\/126<c.toNat then[92,120,mE.getD (c.toNat / 16) 0,mE.getD (c.toNat % 16) 0] else[c]
def uq (s:List UInt8):List UInt8:=34::(s.map km).flatten++[34]
theorem aaL (c:UInt8):(km c).length<=4:=by
 unfold km;split
 ·simp
 ·split
  ·simp
  ·split<;>simp
theorem Hx:∀(s:List UInt8),((s.map km).flatten).length<=4 * s.length
 |[]=>by simp
 |c::r=>by
  have h1:=aaL c;have h2:=Hx r;simp only[bN,List.flatten_cons,aI,aL];omega
def ff (t:Tk):Option (List UInt8):=
 if t.k=1 then(if t.n=0/\fJ t.s=true/\gw.contains t.s=false then some (Lib.replaceAll t.s [47] [58,58]) else none)
 else if t.k=2 then(if t.n=0/\gw.contains t.s=true then some t.s else none)
 else if t.k=3 then(if(t.s=[]/\0<=t.n)/\t.n<2147483648 then some (Lib.itoa t.n) else none)
 else if t.k=4 then(if t.s=[]/\0<=t.n then some (Lib.itoa t.n++[76]) else none)
 else if t.k=5 then(if t.n=0/\t.s.length<=1024 then some (uq t.s) else none)
 else if t.k=6 then(if t.n=0/\je.contains t.s=true then some t.s else none)
 else none
def Ur (o:Option (List UInt8)) (r:SV):Prop:=
 match o with
 |some x=>r= .tup [.v (.string (bs x)),.v (.int .i64 0)]
 |none=>r= .tup [.v (.string (bs [])),.v (.int .i64 1)]
def qA (t:Tk):Prop:=t.s.length<=2000000/\aF t.n
theorem HN:∀(k:Nat) (u:Nat),u<10 ^ k->Lib.nDigits u<=k+1:=by
 intro k;induction k with
 |zero=>intro u hu;rw[Lib.nDigits_small (by simp at hu;omega)];omega
 |succ k ih=>
  intro u hu;by_cases h:u<10
  ·rw[Lib.nDigits_small h];omega
  ·rw[Lib.nDigits_big h];have:=ih (u / 10) (by rw[Nat.div_lt_iff_lt_mul (by omega)];rw[Nat.pow_succ] at hu;exact hu);omega
theorem P3 {n:Int} (h:aF n):(Lib.itoa n).length<=21:=by
 unfold Lib.itoa;have h1:=h.1;have h2:=h.2;split
 ·rw[aL,Lib.decDigits_length];have:=HN 19 n.natAbs (by omega);omega
 ·rw[Lib.decDigits_length];have:=HN 19 n.toNat (by omega);omega
def jS:List Tk->Option (List (List UInt8))
 |[]=>some []
 |t::r=>match ff t with |none=>none |some x=>match jS r with |none=>none |some y=>some (x::y)
def lM (ts:List Tk):List UInt8×Int:=
 if 5000<ts.length then([],5) else
  match jS ts with
  |none=>([],1)
  |some l=>if 20000<(Lib.join l [32]).length then([],8) else(Lib.join l [32],0)
theorem BR (ts:List Tk):(cv ts).length=ts.length * 4:=by
 induction ts with
 |nil=>rfl
 |cons t r ih=>simp only[cv,bN,List.flatten_cons,aI,aL,bh] at ih ⊢;omega
theorem dA {m:Mem} {a:Option Addr} {n sz:Nat} {xs:List Value} (h:aZ m a n sz xs) {i:Nat} (hi:i<n):Rd m (cM a (i * sz)) ((xs.drop (i * sz)).take sz)/\a≠none:=by
 have hl:=h.1;have hm:(i+1) * sz<=n * sz:=Nat.mul_le_mul_right _ hi;rw[Nat.succ_mul] at hm;obtain⟨ad,rfl,hs,hc⟩:=h.2 (by omega);refine⟨?_,by simp⟩;obtain⟨e1,e2,e3⟩:=mQ ad (i * sz) hs;refine⟨ad.add (i * sz),rfl,e3,fun j hj=> ?_⟩;rw[List.length_take,dI] at hj;obtain⟨h1,h2⟩:=hc (i * sz+j) (by omega);obtain⟨f1,f2,f3⟩:=mQ (ad.add (i * sz)) j e3;obtain⟨g1,g2,g3⟩:=mQ ad (i * sz+j) hs;have LK:(ad.add (i * sz)).add j=ad.add (i * sz+j):=by
  cases hA:(ad.add (i * sz)).add j;cases hB:ad.add (i * sz+j);rw[hA] at f1 f2 f3;rw[hB] at g1 g2 g3;simp only at f1 f2 f3 g1 g2 g3;rw[f1,f2,f3,g1,g2,g3,e1,e2,Nat.add_assoc]
 refine⟨?_,by rw[e1,e2,Nat.add_assoc];exact h2⟩;rw[LK,h1,List.getElem?_take_of_lt (by omega),List.getElem?_drop]
def ko (t:Tk):List Value:=[Value.int .i64 t.k,.string (bs t.s),.int .i64 t.n,.int .i64 t.at_]
theorem Tc:∀{ts:List Tk} {i:Nat} (hi:i<ts.length),((cv ts).drop (i * 4)).take 4=ko ts[i]
 |[],i,hi=>by simp at hi
 |t::r,0,hi=>by simp [cv,ko]
 |t::r,i+1,hi=>by
  have e:(cv (t::r)).drop ((i+1) * 4)=(cv r).drop (i * 4):=by
   rw[show(i+1) * 4=i * 4+1+1+1+1 by omega];simp [cv]
  rw[e,Tc (by simpa using hi)];rfl
theorem aav {t:Tk} (ht:qA t) {x:List UInt8} (h:ff t=some x):x.length<=10000000:=by
 have h1:=ht.1;have h2:=P3 ht.2;unfold ff at h;split at h
 ·split at h
  ·cases h;have:=QT t.s [47] [58,58] (by simp) (by omega);simp only[aL,bh] at this;omega
  ·cases h
 ·split at h
  ·split at h
   ·cases h;omega
   ·cases h
  ·split at h
   ·split at h
    ·cases h;omega
    ·cases h
   ·split at h
    ·split at h
     ·cases h;simp only[aI,aL,bh];omega
     ·cases h
    ·split at h
     ·split at h
      ·cases h;have:=Hx t.s;simp only[uq,dW,aL,aI,bh];omega
      ·cases h
     ·split at h
      ·split at h
       ·cases h;omega
       ·cases h
      ·cases h
theorem MJ (sep:List UInt8) (B:Nat):∀(l:List (List UInt8)),(∀x∈l,x.length<=B)->(Lib.joinTail sep l).length<=l.length * (B+sep.length)
 |[],_=>by simp [Lib.joinTail]
 |x::r,h=>by
  have:=MJ sep B r fun y hy=>h y (bR _ hy)
  have h1:=h x bY;simp only[Lib.joinTail,bN,List.flatten_cons,aI,aL,Nat.succ_mul] at this ⊢;omega
theorem aal (sep:List UInt8) (B:Nat) (l:List (List UInt8)) (h:∀x∈l,x.length<=B):(Lib.join l sep).length<=l.length * (B+sep.length):=by
 cases l with
 |nil=>simp [Lib.join_nil]
 |cons x r=>
  rw[Lib.join_cons,aI,aL,Nat.succ_mul];have:=MJ sep B r fun y hy=>h y (bR _ hy)
  have h1:=h x bY;omega
def CI (acc:List (List UInt8)) (o:Option (List (List UInt8))):Option (List (List UInt8)):=o.map (acc++ ·)
def ahS (o:Option (List UInt8)) (x:List UInt8) (e:Int):Prop:=(e=0/\o=some x)\/(e=1/\x=[]/\o=none)
theorem abl {o:Option (List UInt8)} {r:SV} (h:Ur o r):∃x e,r= .tup [.v (.string (bs x)),.v (.int .i64 e)]/\ahS o x e:=by
 cases o with
 |none=>exact⟨[],1,h,.inr ⟨rfl,rfl,rfl⟩⟩
 |some x=>exact⟨x,0,h,.inl ⟨rfl,rfl⟩⟩
theorem acv {ts:List Tk} {k:Nat} (h:k<ts.length) (hf:ff ts[k]=none):jS (ts.drop k)=none:=by
 rw[List.drop_eq_getElem_cons h];simp only[jS,hf]
theorem aau {ts:List Tk} {k:Nat} (h:k<ts.length) {x:List UInt8} (hf:ff ts[k]=some x):jS (ts.drop k)=(jS (ts.drop (k+1))).map (x:: ·):=by
 rw[List.drop_eq_getElem_cons h];simp only[jS,hf];cases jS (ts.drop (k+1))<;>rfl
end Go.Proofs.YtimddhkipjedcaaGreatDoor.E
namespace Go.Proofs.YtimddhkipjedcaaGreatDoor.E
open Go Go.ChangeShapes Go.WideShapes Go.ChangeAt Go.RowKit
def lG (W:World) (b:Nat):Nat:=match W.heap[b]? with |some (.cells c _ _)=>c.size+1 |_=>0
theorem S7 (W:World):Wf W (lG W):=fun b hb=>by
 have:W.heap[b]? =none:=Array.getElem?_eq_none hb;simp [lG,this]
theorem S8 {W:World} {b:Nat} {c:Array Value} {t:TypeId} {f:Nat×Nat} (h:W.heap[b]? =some (.cells c t f)):lG W b=c.size+1:=by
 simp [lG,h]
theorem Qy {W w:World} {D:Nat->Nat} {b:Nat} {c:Array Value} {t:TypeId} {f:Nat×Nat} (hle:Mem.le ⟨W,lG W⟩ ⟨w,D⟩) (h:W.heap[b]? =some (.cells c t f)):∃t' f',w.heap[b]? =some (.cells c t' f'):=by
 obtain⟨_,hk⟩:=hle b;have hd:lG W b=c.size+1:=S8 h;obtain⟨_,hk⟩:=hk (by show 0<lG W b;omega);obtain⟨c',t',f',ho,hj⟩:=Oo hk h;simp only[hd] at ho hj;have e:c' =c:=by
  apply Array.ext_getElem?
  intro i;rcases Nat.lt_or_ge i (c.size+1) with hi |hi
  ·exact hj i hi
  ·have h1:=hj c.size (by omega);rw[Array.getElem?_eq_none (au c.size)] at h1;have h2:c'.size<=c.size:=by
    rcases Nat.lt_or_ge c.size c'.size with h |h
    ·rw[Array.getElem?_eq_getElem h] at h1;cases h1
    ·exact h
   rw[Array.getElem?_eq_none (by omega),Array.getElem?_eq_none (by omega)]
 subst e;exact⟨t',f',ho⟩
theorem EW {W w:World} {D:Nat->Nat} {g i:Nat} {v:Value} (hle:Mem.le ⟨W,lG W⟩ ⟨w,D⟩) (h:W.cell? ⟨g,i,none⟩=some v):w.cell? ⟨g,i,none⟩=some v:=by
 unfold World.cell? at h ⊢;split at h
 ·rename_i c t f hc;obtain⟨t',f',ho⟩:=Qy hle hc;dsimp only at ho;rw[ho];simpa using h
 ·cases h
theorem R1 {W w:World} {D:Nat->Nat} {P:Program} {n:String} {c:Array Value} (hle:Mem.le ⟨W,lG W⟩ ⟨w,D⟩) (h:W.var? P n=some c):w.var? P n=some c:=by
 unfold World.var? at h ⊢;obtain⟨g,hg,h⟩:=Option.bind_eq_some_iff.1 h;rw[hg];split at h
 ·rename_i c' t f hc;obtain⟨t',f',ho⟩:=Qy hle hc;cases h;simp [ho]
 ·cases h
theorem Is {W:World} {a:Addr} {v:Value} (h:W.cell? a=some v):a.spot=none/\a.off<lG W a.block:=by
 unfold World.cell? at h;split at h
 ·rename_i c t f hc;cases hs:a.spot with
  |some x=>rw[hs] at h;simp at h
  |none=>
   rw[hs] at h;simp only[Option.isSome_none,Bool.false_eq_true,if_false] at h;refine⟨rfl,?_⟩;rw[S8 hc];have:=(Array.getElem?_eq_some_iff.1 h).1;omega
 ·cases h
theorem aa2 {P:Program} {f:FuncId} {args:List SV} {fe:List Value} {W:World} {x:Value} (KM:∀V,args.map (den V)=fe) (h:FnH P f args ⟨[],[]⟩ ⟨W,lG W⟩ fun r H' m' =>ae ⟨W,lG W⟩ m' /\H' =⟨[],[]⟩/\r= .v x):
  Calls P f ⟨fe⟩ W fun e W' =>e= .returned x/\Below W.heap.size W W' :=by
 have:=h ⟨fun _=>0,fun _ _=>⟨none,0,0⟩⟩ W (lG W) (S7 W) (Mem.le_refl ⟨W,lG W⟩ (S7 W)) ⟨fun b hb=>(by cases hb),fun b hb=>(by cases hb),by simp [bq],by simp⟩;rw[KM] at this;refine this.mono ?_;rintro e w' ⟨r,V',D',H',m',rfl,_,_,_,_,hf,_,_,_,_,_,rfl,rfl⟩;exact⟨rfl,hf.os,hf.tape,hf.output,hf.size,fun b hb=>(hf.same b hb (by simp [bq])).1⟩
theorem own:ownKnob Tryz.prog.godebug=none:=by kernel_rfl
def Aa:List (String×DataW Unit):=Rows.parseProgramRow.laid
theorem g1 (W:World) (h:W.ShapedOpen Tryz.prog):∃k,W.cell? ⟨1,0,none⟩=some (.int .i64 k):=
 cell_of_shapedOpen_int (P:=Tryz.prog) (g:=1) (t:=3) (zero:= #[.int .i64 0]) h (of_decide_eq_true (by kernel_rfl)) (by kernel_rfl) rfl (by kernel_rfl) (by kernel_rfl) (by kernel_rfl)
theorem ad1 {W:World} {rest:List (String×DataW Unit)} (h:laidMet Tryz.prog (("armature/ast.operators",Rows.laid_armature_ast_operators)::rest) W):
  ∃ad c,Rd ⟨W,lG W⟩ (.pointer (some ⟨0,0,none⟩)) [.slice (some ad) 19 c]/\19<=c/\aZ ⟨W,lG W⟩ (some ad) 19 1 (strs opsL):=by
 obtain⟨ps,⟨g',t',cs,fuel,p,q,iN,Lv,hvar,hd,_,_⟩,_⟩:=h;obtain rfl:=Option.some.inj ((show Tryz.prog.globalNamed "armature/ast.operators" =some 0 by kernel_rfl).symm.trans iN);obtain rfl:=Option.some.inj ((show(Tryz.prog.globals[0]?).map (·.type)=some 55 by kernel_rfl).symm.trans Lv);have hl:(Rows.laid_armature_ast_operators:DataW Unit)= .slice (opsL.map fun l=> .lit (.string l)) []:=rfl;rw[hl] at hd;obtain⟨a,cap,gX,hcap,hel⟩:=open_row (P:=Tryz.prog) (e:=9) (by kernel_rfl) (by kernel_rfl) hd;have hlen:(opsL.map fun l=>(DataW.lit (.string l):DataW Unit)).length=19:=rfl;rw[hlen] at gX hcap;have jE:W.cell? ⟨0,0,none⟩=some (.slice (some a) 19 cap):=by
  have:=World.var?_cell iN hvar 0;rw[Array.eq_one_of_toList gX] at this;simpa using this
 have iy:∀i (hi:i<19),W.cell? (a.add i)=some (.string (bs (opsL[i]'hi))):=fun i hi=>by
  obtain⟨v,n,q',hc,hr⟩:=hel i (.lit (.string (opsL[i]'hi))) (by rw[List.getElem?_map,List.getElem?_eq_getElem (by exact hi)];rfl);obtain⟨s,e1,e2,_⟩:=DataW.trod_string (show Tryz.prog.underlying 9=some .string by kernel_rfl) hr;have e3:v= .string s:=by simpa using e1
  have e4:s.data.toList=opsL[i]'hi:=by simpa using(congrArg Prod.fst e2).symm
  rw[hc,e3,<- e4];rfl
 have TD:a.spot=none:=by
  have:=(Is (iy 0 (by decide))).1;simpa [Addr.add] using this
 refine⟨a,cap,⟨⟨0,0,none⟩,rfl,rfl,fun j hj=> ?_⟩,hcap,rfl,fun _=>⟨a,rfl,TD,fun j hj=> ?_⟩⟩
 ·have:j=0:=by simpa using hj
  subst this;exact⟨jE,(Is jE).2⟩
 ·have hj:j<19:=by omega
  have h1:=iy j hj;obtain⟨p1,p2,_⟩:=mQ a j TD;have h2:=(Is h1).2;rw[p1,p2] at h2;refine⟨?_,h2⟩;rw[strs,List.getElem?_map,List.getElem?_eq_getElem (by exact hj)];exact h1
theorem acu {W:World} (hL:laidMetH Tryz.prog Aa W) (hs:W.ShapedOpen Tryz.prog):Glob ⟨W,lG W⟩:=by
 rw[MakeChecks.laidMetH_plain _ _ _ (by kernel_rfl)] at hL;have h3:=hL.tail.tail;have ht:=Lib.tabIs_of_head (P:=Tryz.prog) (zs:=Lib.pow10Tab) (g:=6) (t:=250) (e:=217) (n:=20) (by kernel_rfl) (by kernel_rfl) (by kernel_rfl) (by kernel_rfl) (by kernel_rfl) (by kernel_rfl) h3;obtain⟨k,hk⟩:=g1 W hs;exact⟨fun w D hle=>⟨⟨k,EW hle hk⟩,R1 hle ht⟩,ad1 h3.tail.tail.tail.tail⟩
end Go.Proofs.YtimddhkipjedcaaGreatDoor.E

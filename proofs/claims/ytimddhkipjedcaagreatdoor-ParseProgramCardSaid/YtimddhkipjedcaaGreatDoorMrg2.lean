/- Several texts in one. -/
import Derived.Laws.MakeOwn
import Derived.Deep.LoopGhost
import Derived.Deep.Quiet
import Derived.ScopeJumps
import Derived.Shelf.Strings.Builder1
import Derived.Shelf.Strings.Builder2
import Derived.Shelf.Small.Strs
import Derived.Shelf.Strings.BuilderF
import Derived.Shelf.Strings.BuilderK
import Derived.Shelf.Utf8.RuneCount
import Derived.Shelf.Strings.Builder2Cap
import Derived.Shelf.Strconv.Itoa0
import Derived.Shelf.Strconv.Itoa1
import Derived.Shelf.LaysM
import Derived.Shelf.Strconv.Itoa2
import Derived.Shelf.Strconv.Itoa3
import Derived.Shelf.Strconv.ParseIntEmpty
import Derived.Shelf.Strconv.Clone
import Derived.Shelf.Strconv.SyntaxError
import Derived.Shelf.Strconv.Lower
import Derived.Shelf.Strconv.ParseUint10
import Derived.Shelf.Strconv.ParseUint10Empty
import Derived.Shelf.Strconv.RangeError
import Derived.Shelf.Strconv.ParseUintEmpty
import Derived.Shelf.Strconv.ParseUint10b64
import Derived.Shelf.Strconv.ParseUint10b32
import Derived.Shelf.Strconv.ParseUint10b16
import Derived.Shelf.Strconv.ParseUint10b8
import Derived.Shelf.Strings.Search1
import Derived.Shelf.Strings.Search2
import Derived.Shelf.Strings.Search3
import Derived.Shelf.Strings.Count
import Derived.Shelf.Strings.Shaped
import Derived.Shelf.Strings.LastIndex
import Derived.Shelf.Strings.Prefix
import Derived.Shelf.Strings.Split
import Derived.Shelf.Strings.Replace
import Derived.Shelf.Strings.SplitShaped
import Derived.Shelf.Unicode.Decode
import Derived.Shelf.Strings.RuneCount
import Derived.Shelf.Unicode.DecodeSlow
import Derived.Shelf.Unicode.DecodeAny
import Derived.Shelf.Strings.BuilderCap
import Derived.Shelf.Slices.Turned
import Derived.Ground.PaProg
import Derived.Shelf.Path.Small
import Derived.Test.YtimddhkipjedcaaGreatDoorProg
import Derived.Lib.Join
import Derived.Test.YtimddhkipjedcaaGreatDoorRows
import Derived.Test.YtimddhkipjedcaaGreatDoorCards
import Derived.Test.YtimddhkipjedcaaGreatDoorTie
import Derived.ProofKit
import Derived.OpenShut
import Derived.LaidMore
import Derived.Lay
import Derived.SevenTiedAt
import Derived.Stop.Joined
import Derived.Stop.LaidErr
import Derived.Lib.LaidTab
import Derived.Shelf.Vars
import Derived.Deep.Slices
import Derived.Deep.DeepHandedRow
import Derived.Carry
import Derived.Test.YtimddhkipjedcaaGreatDoorMrg1
set_option linter.unusedSimpArgs false
set_option linter.unusedVariables false
set_option maxHeartbeats 4000000
set_option maxRecDepth 20000
namespace Go.Proofs.YtimddhkipjedcaaGreatDoor.E
open Go
section
variable {C:Ctx} {n:Nat} {st:LS} {a:Act} {V:Vl} {D:Nat->Nat} {w:World} {P:Program} {p:bt} {c:Cfg}
theorem th:∀(l:List SV) (K:List SV->LS->Prop) (m:Mem) (D:Nat->Nat),A2 l K ⟨st.env,st.rho,st.bx,st.vc,st.nid,m⟩->SatW C st.bx st.vc st.nid m V D w->
  ∃l' m1 D1,K l' ⟨st.env,st.rho,st.bx,st.vc,st.nid,m1⟩/\SatW C st.bx st.vc st.nid m1 V D1 w/\l'.map (den V)=l.map (den V)
 |[],K,m,D,h,hW=>⟨[],m,D,h,hW,rfl⟩
 |s::r,K,m,D,h,hW=>by
  cases s with
  |agg cs=>
   obtain⟨du,m1,D1,e1,e2,e3,_⟩:=qC (st:=st) cs _ m D h hW;obtain⟨l',m2,D2,f1,f2,f3⟩:=th r _ m1 D1 e1 e2;exact⟨_,m2,D2,f1,f2,by simp only[br,f3,Hv,e3]⟩
  |vec k u=>
   simp only[A2,oh] at h;obtain⟨b,hb,h⟩:=aG h;obtain⟨ad,cp,m1,D',h1,h2,h3,h4,h5⟩:=SatW.pub (st:=⟨st.env,st.rho,st.bx,st.vc,st.nid,m⟩) hW hb;obtain⟨l',m2,D2,f1,f2,f3⟩:=th r _ m1 D' (h ad cp m1 h1 h2 h3) h5;refine⟨_,m2,D2,f1,f2,?_⟩;simp only[br,jD,List.nil_append,f3];congr 1
   exact h4.symm
  |v x=>
   obtain⟨l',m2,D2,f1,f2,f3⟩:=th r _ m D h hW;exact⟨_,m2,D2,f1,f2,by simp only[br,jD,List.nil_append,f3]⟩
  |box k o=>
   obtain⟨l',m2,D2,f1,f2,f3⟩:=th r _ m D h hW;exact⟨_,m2,D2,f1,f2,by simp only[br,jD,List.nil_append,f3]⟩
  |vp k u o=>
   obtain⟨l',m2,D2,f1,f2,f3⟩:=th r _ m D h hW;exact⟨_,m2,D2,f1,f2,by simp only[br,jD,List.nil_append,f3]⟩
  |mp k=>
   obtain⟨l',m2,D2,f1,f2,f3⟩:=th r _ m D h hW;exact⟨_,m2,D2,f1,f2,by simp only[br,jD,List.nil_append,f3]⟩
  |mv f k o=>
   obtain⟨l',m2,D2,f1,f2,f3⟩:=th r _ m D h hW;exact⟨_,m2,D2,f1,f2,by simp only[br,jD,List.nil_append,f3]⟩
  |tup l0=>
   obtain⟨l',m2,D2,f1,f2,f3⟩:=th r _ m D h hW;exact⟨_,m2,D2,f1,f2,by simp only[br,jD,List.nil_append,f3]⟩
theorem z8 (hS:Sat C n st a V D w) (hp:fY st.rho p) (hc:bU st.rho p=true):∀{l:List Operand} {ss:List SV},tT st p l=some ss->l.map a.eval=ss.map (den V)
 |[],ss,h=>by simp only[tT,dy] at h;subst h;rfl
 |x::r,ss,h=>by
  simp only[tT,Option.bind_eq_some_iff,Option.map_eq_some_iff] at h;obtain⟨s,hs,ss',hr,rfl⟩:=h;simp only[br,dw hS hp hc hs,z8 hS hp hc hr]
theorem GN {o:Oper} {fo:Operand} {args:Array Operand} {ts:Array TypeId} {f:FuncId} (ho:o.op= .call {callee:= .value fo,args,argTypes:=ts}) (hf:a.eval fo= .func (.func f) #[] #[]) (ax:iJ P f=true):
  (execOp a.eval o).run P w= .ok (.enter f (args.map a.eval)) w:=by
 unfold iJ at ax;split at ax
 ·rename_i fn fk;simp only[cY,Bool.not_eq_true'] at ax;have hb:fn.body.isNone=false:=by cases h:fn.body<;>simp_all
  simp only[execOp,ho,resolve,hf,Deferred.ofValue,Sem.run_bind,Sem.run_pure,Result.andThen_ok,invoke,callFunc,run_program,fk,ax.1,hb,Bool.false_eq_true,if_false];simp
 ·cases ax
theorem Tp {o:Oper} {fo:Operand} {args:Array Operand} {ts:Array TypeId} {f:FuncId} {x:Value} (ho:o.op= .call {callee:= .value fo,args,argTypes:=ts}) (hf:a.eval fo= .func (.func f) #[x] #[]) (ax:iJ P f=true):
  (execOp a.eval o).run P w= .ok (.enter f (#[x]++args.map a.eval)) w:=by
 unfold iJ at ax;split at ax
 ·rename_i fn fk;simp only[cY,Bool.not_eq_true'] at ax;have hb:fn.body.isNone=false:=by cases h:fn.body<;>simp_all
  simp only[execOp,ho,resolve,hf,Deferred.ofValue,Sem.run_bind,Sem.run_pure,Result.andThen_ok,invoke,callFunc,run_program,fk,ax.1,hb,Bool.false_eq_true,if_false];simp
 ·cases ax
theorem Ke (hS:Sat C n st a V D w) {f:FuncId} {ss:List SV} {K:SV->LS->Prop} {R:Ending->World->Prop} (h:Bh (.mk (k:=(P,f,K)) (st,ss)))
  (hn:∀s ak V' D' w',K s ak->ak.rho=st.rho->Sat C n ak a V' D' w' ->Step st.nid st.vc ak.nid ak.vc V V' ->R (.returned (den V' s)) w'):Calls P f ⟨ss.map (den V)⟩ w R:=by
 simp only[Bh,H5] at h;obtain⟨fJ,h⟩:=h;simp only[Fq,FnH] at h;have hW:=hS.w;have adg:HSat (kO (tv st.bx (oA [] ss)) V) D w (gj st (tv st.bx (oA [] ss))):=(CO _ hW.heap).app.1.into fJ.2.2.2;have:=h (kO (tv st.bx (oA [] ss)) V) w D hW.wf hW.mle adg;rw[MM fJ.2.2.1] at this;refine this.mono fun e w2 ⟨r,V2,D2,H',m',he,h1,h2,h3,h4,h5,h6,h7,h8,h9,hback,hK⟩=> ?_
 obtain⟨V3,a1,a2,a3,a4⟩:=hW.call (r:=r) ⟨fJ.1,fJ.2.1,trivial,fJ.2.2.2⟩ hback h1 h2 h3 h4 h5 h6 h7 h8 h9;subst he;rw[<- a2];exact hn _ _ V3 D2 w2 hK rfl (hS.to a1 (Nat.le_add_right _ _) a4 a3) ⟨a1,Nat.le_add_right _ _,a4⟩
theorem Kd (hS:Sat C n st a V D w) {f:FuncId} {ss:List SV} {b:Bool} {K:SV->LS->Prop} {R:Ending->World->Prop} (h:Bg (.mk (k:=(P,f,st,ss,K)) b))
  (hn:∀s ak V' D' w',K s ak->ak.rho=st.rho->Sat C n ak a V' D' w' ->Step st.nid st.vc ak.nid ak.vc V V' ->R (.returned (den V' s)) w'):Calls P f ⟨ss.map (den V)⟩ w R:=by
 cases b with
 |true=>exact Ke hS h hn
 |false=>
  obtain⟨l',m1,D1,e1,e2,e3⟩:=th (st:=st) ss _ st.m D h hS.w;rw[<- e3];exact Ke (st:=⟨st.env,st.rho,st.bx,st.vc,st.nid,m1⟩) ⟨hS.f,hS.ids,e2⟩ e1 hn
theorem JX (hS:Sat C n st a V D w) {tx:TypeId} {sz:Nat} {y:SV} {K:Nat->List Value->Prop} (j9:0<sz) (h:vd (.mk (k:=(P,tx,sz,K)) (st,y))):∃m news,K m news/\Src P sz tx (den V y) m news w:=by
 unfold vd at h;split at h
 ·rename_i ak k u q;simp only[A.mk.injEq,Prod.mk.injEq] at q;obtain⟨rfl,rfl⟩:=q;obtain⟨e,he,h⟩:=aG h;obtain⟨b,hb,rfl,hK⟩:=aG h;refine⟨_,_,hK,?_⟩;obtain⟨hv,rfl,rfl⟩:=wT hS hb;obtain⟨hn,hl,hx⟩:=wO hv.1;show Src P b.sz tx (Hd.val _) b.n b.xs w;rcases Nat.eq_zero_or_pos b.n with h0 |h0
  ·have lP:b.xs=[]:=List.eq_nil_of_length_eq_zero (by rw[hl,h0,Nat.zero_mul]);unfold Hd.val;rw[hn,h0,lP];cases ha:(V.γ b.id b.ver).a with
   |none=>exact Src.ofNil w (nK he) _
   |some ad=>exact Src.ofSlice w (nK he) ad 0 _ [] (by simp) (fun j u hu=>by simp at hu) (fun u hu=>by cases hu)
  ·obtain⟨g,hg,hc⟩:=hx h0;unfold Hd.val;rw[hn,hg];exact Src.ofSlice w (nK he) ⟨g,0,none⟩ b.n _ b.xs hl (fun j u hu=>by rw[CI];exact hc j u hu) hv.2.2.2
 ·rename_i ak x m cp q;simp only[A.mk.injEq,Prod.mk.injEq] at q;obtain⟨rfl,rfl⟩:=q;obtain⟨e,he,xs,h1,h2,hK⟩:=aG h;refine⟨_,_,hK,?_⟩;show Src P sz tx (.slice x m cp) m xs w;rcases Nat.eq_zero_or_pos m with h0 |h0
  ·subst h0;have lP:xs=[]:=List.eq_nil_of_length_eq_zero (by rw[h1.1,Nat.zero_mul]);subst lP;cases x with
   |none=>exact Src.ofNil w (nK he) _
   |some ad=>exact Src.ofSlice w (nK he) ad 0 _ [] (by simp) (fun j u hu=>by simp at hu) (fun u hu=>by cases hu)
  ·obtain⟨ad,rfl,hc⟩:=OM hS.mle h1 h0;exact Src.ofSlice w (nK he) ad m _ xs h1.1 hc h2
 ·rename_i ak s q;simp only[A.mk.injEq,Prod.mk.injEq] at q;obtain⟨rfl,rfl⟩:=q;obtain⟨h1,rfl,hK⟩:=h;refine⟨_,_,hK,?_⟩;rw[yN];exact Src.ofString w h1 s
 ·cases h
theorem NW {b:Vc} {n:Nat} {xs:List Value}:(nc b n xs).id=b.id/\(nc b n xs).ver=b.ver+1:=by cases b;exact⟨rfl,rfl⟩
theorem SJ (hS:Sat C n st a V D w) {t tx e ty:TypeId} {s y:SV} {K:SV->LS->Prop} (he:iQ P t=some e) (h:zm (.mk (k:=(P,e,tx,y,K)) (st,s))):
  ∃r ak V' D' w',(Builtin.append_ #[t,tx] ty #[den V s,den V y]).run P w= .ok (den V' r) w' /\K r ak/\ak.rho=st.rho/\Sat C n ak a V' D' w' /\Step st.nid st.vc ak.nid ak.vc V V' :=by
 unfold zm at h;split at h
 ·rename_i ak k u q;simp only[A.mk.injEq,Prod.mk.injEq] at q;obtain⟨rfl,rfl⟩:=q;obtain⟨b,hb,h1,h2,h3,h⟩:=aG h;obtain⟨z,hz,h4,h⟩:=aG h;obtain⟨m,news,⟨ph,hK⟩,hsrc⟩:=JX hS h3 h;obtain⟨i,hi,hisz,hiby⟩:=Hq h3;obtain⟨zv,hzv,xE⟩:=MU hi hz;obtain⟨hv,wb,hbv⟩:=wT hS hb;have dU:=hv.1;rw[wb,hbv,h1,h2,<- hisz] at dU;rw[<- hisz] at hsrc;obtain⟨h',w',dq,hown',hcase⟩:=Kp (ty:=ty) (nK he) hi hzv (by rw[xE,h4,hisz]) dU hsrc (by rw[hiby];exact ph);have xR:=hv.2.2;have qh:∀y' ∈b.xs++news,y'.oneCell' =true:=fun y' hy=>(List.mem_append.1 hy).elim (xR.2 y') (hsrc.one y')
  have hU:=hS.w.updVc (w' :=w') (n:=b.n+m) (hd:=h') (xs:=b.xs++news) hb (Nat.mul_le_mul_right _ (Nat.le_add_right _ _))
   (by rcases hcase with ⟨rfl,_⟩ |⟨g,cur,nr,_,_,_,rfl,_⟩ |⟨cc,_,rfl⟩<;>rfl)
   (by rcases hcase with ⟨rfl,_⟩ |⟨g,cur,nr,_,_,_,rfl,_⟩ |⟨cc,_,rfl⟩<;>rfl)
   (by rcases hcase with ⟨rfl,_⟩ |⟨g,cur,nr,_,_,_,rfl,_⟩ |⟨cc,_,rfl⟩<;>rfl)
   (by rcases hcase with ⟨rfl,_⟩ |⟨g,cur,nr,_,_,_,rfl,_⟩ |⟨cc,_,rfl⟩<;>simp)
   (fun x hx cP=>by
    rcases hcase with ⟨rfl,_⟩ |⟨g,cur,nr,_,hg,_,rfl,_⟩ |⟨cc,_,rfl⟩
    ·rfl
    ·exact setRow_other w g x _ (fun e=>cP (e▸hg))
    ·exact ye w.drew _ x hx)
   (fun x hx=>by
    rcases hcase with ⟨rfl,_⟩ |⟨g,cur,nr,_,hg,hcur,rfl,hsame⟩ |⟨cc,_,rfl⟩
    ·exact tc rfl
    ·rw[hg] at hx;obtain rfl:g=x:=Option.some.inj hx;rw[hcur,setRow_heap w g cur _ e _ hcur];exact⟨_,_,_,rfl,fun j hj=>hsame j (by rw[hisz,<- h1];exact hj)⟩
    ·exact tc (ye w.drew _ x (Hg dU hx).2))
   (by rw[h1,h2,<- hisz];exact hown')
   (fun x hx=>by
    rcases hcase with ⟨rfl,rfl⟩ |⟨g,cur,nr,iv,hg,_,rfl,_⟩ |⟨cc,iv,rfl⟩
    ·exact .inl hx
    ·rw[iv] at hx;cases hx;exact .inl hg
    ·rw[iv] at hx;cases hx;exact .inr (aq _))
   qh
  obtain⟨V',ha,hγ,hW⟩:=hU;have Qi:∀k' u',k' <st.nid->bS st.vc k' u' ->bS (po st.vc k (nc b (b.n+m) (b.xs++news))) k' u' :=fun k' u' _=>Kg hb (by rw[NW.1];exact wb) (by rw[NW.2,hbv];exact Nat.le_succ _) k' u'
  refine⟨_,_,V',D,w',?_,hK,rfl,hS.to ha (aq _) Qi hW,⟨ha,aq _,Qi⟩⟩;rw[show den V' (.vec k (u+1))=h'.val from by show Hd.val _=_;rw[hγ]];exact dq
 ·rename_i ak q;simp only[A.mk.injEq,Prod.mk.injEq] at q;obtain⟨rfl,rfl⟩:=q;obtain⟨h3,h⟩:=h;obtain⟨z,hz,h4,h⟩:=aG h;obtain⟨m,news,⟨ph,hK⟩,hsrc⟩:=JX hS h3 h;obtain⟨i,hi,hisz,hiby⟩:=Hq h3;obtain⟨zv,hzv,xE⟩:=MU hi hz;rw[<- hisz] at hsrc;have dU:w.ownsRow 0 e i.size (Hd.val ⟨none,0,0⟩) 0 []:=World.ownsRow_nil w 0 e i.size;obtain⟨h',w',dq,hown',hcase⟩:=Kp (ty:=ty) (nK he) hi hzv (by rw[xE,h4,hisz]) dU hsrc (by rw[hiby,Nat.zero_add];exact ph);rw[Nat.zero_add,List.nil_append,hisz] at hown';obtain⟨V',ha,hγ,hW⟩:=hS.w.addVc (w' :=w') (hd:=h')
   (by rcases hcase with ⟨rfl,_⟩ |⟨g,cur,nr,_,_,_,rfl,_⟩ |⟨cc,_,rfl⟩<;>rfl)
   (by rcases hcase with ⟨rfl,_⟩ |⟨g,cur,nr,_,_,_,rfl,_⟩ |⟨cc,_,rfl⟩<;>rfl)
   (by rcases hcase with ⟨rfl,_⟩ |⟨g,cur,nr,_,_,_,rfl,_⟩ |⟨cc,_,rfl⟩<;>rfl)
   (by rcases hcase with ⟨rfl,_⟩ |⟨g,cur,nr,_,_,_,rfl,_⟩ |⟨cc,_,rfl⟩<;>simp)
   (fun x hx=>by
    rcases hcase with ⟨rfl,_⟩ |⟨g,cur,nr,_,hg,_,rfl,_⟩ |⟨cc,_,rfl⟩
    ·rfl
    ·cases hg
    ·exact ye w.drew _ x hx)
   hown'
   (fun x hx=>by
    rcases hcase with ⟨rfl,rfl⟩ |⟨g,cur,nr,iv,hg,_,rfl,_⟩ |⟨cc,iv,rfl⟩
    ·cases hx
    ·cases hg
    ·rw[iv] at hx;cases hx;exact aq _)
   h3 hsrc.one
  refine⟨_,_,V',D,w',?_,hK,rfl,hS.to ha (Nat.le_succ _) (fun k u hk hv=>tf rfl k u hk hv) hW,⟨ha,Nat.le_succ _,fun k u hk hv=>tf rfl k u hk hv⟩⟩;rw[show den V' (.vec st.nid 0)=h'.val from by show Hd.val _=_;rw[hγ]];exact dq
 ·cases h
end
theorem Kt (z:List Value) (h:0<z.length):∀len:Nat,(List.range (len * z.length)).map (fun i=>z[i % z.length]!)=(List.replicate len z).flatten
 |0=>by simp
 |len+1=>by
  rw[Nat.succ_mul,List.range_add,List.map_append,Kt z h len,List.replicate_succ',List.flatten_append];congr 1
  simp only[List.map_map,List.flatten_cons,List.flatten_nil,List.append_nil];apply List.ext_getElem?
  intro j;simp only[List.getElem?_map,Function.comp];rcases Nat.lt_or_ge j z.length with hj |hj
  ·rw[List.getElem?_range hj,List.getElem?_eq_getElem hj];simp only[Option.map_some,dy,Function.comp];rw[Nat.add_comm,Nat.add_mul_mod_self_right,Nat.mod_eq_of_lt hj];simp [List.getElem!_eq_getElem?_getD,List.getElem?_eq_getElem hj]
  ·rw[List.getElem?_eq_none (by simpa using hj),List.getElem?_eq_none hj];rfl
theorem Lf (z:List Value) (len:Nat) (h:0<z.length):(Array.range (len * z.length)).map (fun i=>(⟨z⟩:Array Value)[i % (⟨z⟩:Array Value).size]!)=⟨(List.replicate len z).flatten⟩:=by
 apply Array.ext'
 rw[<- Kt z h len];simp
theorem VJ {α β:Type} (f:α->β) (z:List α) (len:Nat):((List.replicate len z).flatten).map f=(List.replicate len (z.map f)).flatten:=by
 induction len with
 |zero=>rfl
 |succ k ih=>simp only[List.replicate_succ,List.flatten_cons,List.map_append,ih]
theorem G0 (z:List Value) (len:Nat):((List.replicate len z).flatten).length=len * z.length:=by
 induction len with
 |zero=>simp
 |succ k ih=>simp only[List.replicate_succ,List.flatten_cons,bM,ih,Nat.succ_mul];omega
theorem T2 (z:List Value) {l c:Nat} (h:l<=c):((List.replicate c z).flatten).take (l * z.length)=(List.replicate l z).flatten:=by
 obtain⟨d,rfl⟩:=Nat.exists_eq_add_of_le h;rw[<- List.replicate_append_replicate,List.flatten_append,<- G0 z l];exact List.take_left
theorem VI {z:List Value} {len:Nat} {u:Value} (h:u∈(List.replicate len z).flatten):u∈z:=by
 obtain⟨l,hl,hu⟩:=List.mem_flatten.1 h;rw[List.mem_replicate] at hl;exact hl.2▸hu
theorem Mi {nid:Nat} {vc:List Vc} {c:SV} (hc:ll nid vc c):∀(cs:List SV) (off:Nat),fy nid vc cs->fy nid vc (cs.set off c)
 |[],_,h=>h
 |_::_,0,h=>⟨hc,h.2⟩
 |_::cs,off+1,h=>⟨h.1,Mi hc cs off h.2⟩
theorem Mh {nid:Nat} {vc:List Vc}:∀(l cs:List SV) (off:Nat),fy nid vc l->fy nid vc cs->fy nid vc (kK cs off l)
 |[],_,_,_,h=>h
 |_::r,_,_,hl,h=>Mh r _ _ hl.2 (Mi hl.1 _ _ h)
section
variable {C:Ctx} {n:Nat} {st:LS} {a:Act} {V:Vl} {D:Nat->Nat} {w:World} {P:Program} {p:bt} {c:Cfg}
theorem L7 {sz:Nat} {st:LS} {p:bt} {z:List SV} (hz:z.length=sz):∀(l:List (Nat×Operand)) (i k:Nat) (pre cs:List SV),tF sz st p i l=some cs->pre.length=i * sz->cs.length=k * sz->0<sz->
  oY sz st p l (pre++(List.replicate k z).flatten)=some (pre++cs)
 |[],i,k,pre,cs,h,hp,hk,h0=>by
  simp only[tF,dy] at h;subst h;have:k=0:=by
   rcases Nat.eq_zero_or_pos k with h |h
   ·exact h
   ·have:=Nat.mul_pos h h0;simp only[eM] at hk;omega
  subst this;simp [oY]
 |(j,x)::r,i,k,pre,cs,h,hp,hk,h0=>by
  simp only[tF] at h;split at h
  ·rename_i e;subst e;simp only[Option.bind_eq_some_iff] at h;obtain⟨l,hl,h⟩:=h;split at h
   ·rename_i Ch;obtain⟨du,fp,rfl⟩:=Option.map_eq_some_iff.1 h;have aV:0<k:=by
     rcases Nat.eq_zero_or_pos k with h |h
     ·subst h;simp only[bM,Nat.zero_mul] at hk;omega
     ·exact h
    obtain⟨k',rfl⟩:∃k',k=k' +1:=⟨k - 1,by omega⟩;have ix:(List.replicate (k' +1) z).flatten=z++(List.replicate k' z).flatten:=by rw[List.replicate_succ,List.flatten_cons]
    have iu:du.length=k' * sz:=by
     rw[Nat.add_mul] at hk;simp only[bM,Ch] at hk;omega
    simp only[oY];have hb:((cD st p x).bind kU)=some l:=by simpa [Option.bind_eq_some_iff] using hl
    rw[hb];simp only[Option.bind_some];rw[aj Ch,aj (by rw[bM,hp,ix,bM,hz];omega)];rw[ix,He _ _ _ (by rw[bM,hp,bM,hz,Ch];omega)];have e1:(pre++(z++(List.replicate k' z).flatten)).take (j * sz)=pre:=by rw[<- hp];exact List.take_left' rfl
    have e2:(pre++(z++(List.replicate k' z).flatten)).drop (j * sz+l.length)=(List.replicate k' z).flatten:=by
     rw[<- List.append_assoc];exact List.drop_left' (by rw[bM,hp,hz,Ch])
    rw[e1,e2,L7 hz r (j+1) k' (pre++l) du fp (by rw[bM,hp,Ch,Nat.add_mul];omega) iu h0,List.append_assoc]
   ·cases h
  ·cases h
theorem Vs {sz len:Nat} {st:LS} {p:bt} {z:List SV} {parts:List (Nat×Operand)} {cs:List SV} (hz:z.length=sz) (h0:0<sz) (h:AT sz st p parts len z (tF sz st p 0 parts)=some cs):oY sz st p parts (List.replicate len z).flatten=some cs:=by
 cases hs:tF sz st p 0 parts with
 |none=>rw[hs] at h;exact h
 |some du=>
  rw[hs] at h;simp only[AT] at h;split at h
  ·rename_i hl;cases h;have:=L7 hz parts 0 len [] _ hs (by simp) hl h0;simpa using this
  ·exact h
theorem JS (hS:Sat C n st a V D w) (hp:fY st.rho p) (hc:bU st.rho p=true) {sz:Nat}:
  ∀(parts:List (Nat×Operand)) (cs du:List SV),oY sz st p parts cs=some du->
   Instr.fill (fun i=>some (i * sz,sz)) ⟨cs.map (bj V)⟩ (parts.map fun x=>(x.1,a.eval x.2))=some ⟨du.map (bj V)⟩/\du.length=cs.length
 |[],cs,du,h=>by simp only[oY,dy] at h;subst h;exact⟨rfl,rfl⟩
 |(i,x)::r,cs,du,h=>by
  simp only[oY] at h;obtain⟨l,hl,h⟩:=uM h;obtain⟨s,hs,hl⟩:=uM hl;split at h
  ·rename_i j9;split at h
   ·rename_i ue;have qv:=dw hS hp hc hs;have bW:=CJ (V:=V) hl;have Bb:(a.eval x).cells.size=l.length:=by rw[qv,bW];simp
    obtain⟨ih,ihl⟩:=JS hS hp hc r _ du h;refine⟨?_,by rw[ihl,LN]⟩;simp only[br,Instr.fill]
    rw[ae (by
     simp only[Bb,List.size_toArray,List.length_map,Bool.or_eq_true,gz,not_or,Decidable.not_not]
     exact⟨by simpa using j9,by omega⟩)]
    have HZ:((a.eval x).cells.zipIdx.foldl (fun(cs:Array Value) (y:Value×Nat)=>cs.setIfInBounds (i * sz+y.2) y.1) ⟨cs.map (bj V)⟩)=⟨(kK cs (i * sz) l).map (bj V)⟩:=by
     rw[qv,bW,<- Array.foldl_toList];have:=GY (V:=V) l cs (i * sz) 0;simp only[Nat.add_zero] at this;rw[<- this];simp [Array.toList_zipIdx]
    rw[<- ih,<- HZ]
   ·cases h
  ·cases h
theorem Rb (hS:Sat C n st a V D w) (hp:fY st.rho p) (hc:bU st.rho p=true) {t e:TypeId} {len:Nat} {parts:Array (Nat×Operand)} {z cs:List SV}
    (he:iQ P t=some e) (hz:ft P e=some z) (sU:z.length=bC P e) (h0:0<bC P e) (sN:len * bC P e<=16777216) (h:oY (bC P e) st p parts.toList (List.replicate len z).flatten=some cs):
    (Instr.buildSlice t len (parts.map fun x=>(x.1,a.eval x.2))).run P w= .ok (.slice (some ⟨w.heap.size,0,none⟩) len len) (w.alloc (.cells ⟨cs.map (bj V)⟩ e))/\cs.length=len * bC P e:=by
  obtain⟨zb,hlen⟩:=JS hS hp hc _ _ _ h;have Pb:cs.length=len * bC P e:=by
    rw[hlen];have:((List.replicate len z).flatten).length=len * z.length:=by
      induction len with
      |zero=>simp
      |succ k _=>simp
    rw[this,sU]
  refine⟨?_,Pb⟩;obtain⟨zv,hzv,hzc⟩:=FN (V:=V) (w:=w) hz;have Ou:(parts.map fun x=>(x.1,a.eval x.2)).toList=parts.toList.map fun x=>(x.1,a.eval x.2):=by simp
  simp only[Instr.buildSlice,Sem.run_bind,run_underlying (nK he),Result.andThen_ok,AD h0]
  rw[ae (by have:(2:Nat) ^ 24=16777216:=by decide
            omega)]
  rcases Nat.eq_zero_or_pos len with hl |hl
  · subst hl
    simp only[Nat.zero_mul,Array.range_zero',List.replicate_zero,List.flatten_nil] at h zb ⊢;have fp:cs=[]:=List.eq_nil_of_length_eq_zero (by simpa using Pb);subst fp;simp only[if_true,Sem.run_pure,Result.andThen_ok,Ou,Sem.run_bind];simp only[List.map_nil] at zb;have:(#[]:Array Nat).map (fun i=>(#[]:Array Value)[i % (#[]:Array Value).size]!)= #[]:=by simp
    rw[this];rw[zb];simp [newRow]
  · have cP:¬len * bC P e=0:=by have:=Nat.mul_pos hl h0;omega
    rw[ae cP];simp only[Sem.run_bind,Sem.run_pure,Result.andThen_ok,hzv,hzc,Ou];have aac:(Array.range (len * bC P e)).map (fun i=>(⟨z.map (bj V)⟩:Array Value)[i % (⟨z.map (bj V)⟩:Array Value).size]!)=⟨((List.replicate len z).flatten).map (bj V)⟩:=by
      have:=Lf (z.map (bj V)) len (by simp;omega);simp only[List.length_map,sU] at this;rw[this,VJ]
    rw[aac,zb];simp [newRow]
theorem vf {o:Oper} {v:Value} {w' :World} {next:Act->World->Prop} {Q:Exit->Act->World->Prop} (h:(execOp a.eval o).run P w= .ok (.value v) w') (hn:next (a.put o.dst v) w'):o.wp P a w next Q:=by
 unfold Oper.wp;rw[h];exact hn
theorem LF {o:Oper} {w' :World} {next:Act->World->Prop} {Q:Exit->Act->World->Prop} (h:(execOp a.eval o).run P w= .ok .skip w') (hn:next (a.put o.dst undef) w'):o.wp P a w next Q:=by
 unfold Oper.wp;rw[h];exact hn
theorem TX (hS:Sat C n st a V D w) (hp:fY st.rho p) (hc:bU st.rho p=true) {o:Oper} {op:Op} (ho:o.op=op) {K:SV->LS->Prop} (h:oF (.mk (k:=(c,P,op,K)) (st,p)))
  {next:Act->World->Prop} {Q:Exit->Act->World->Prop} (hn:∀s ak V' D' w',K s ak->ak.rho=st.rho->Sat C n ak a V' D' w' ->Step st.nid st.vc ak.nid ak.vc V V' ->next (a.put o.dst (den V' s)) w'):o.wp P a w next Q:=by
 unfold oF at h;split at h
 ·rename_i t ak p' q;cases q;obtain⟨cs,hz,cZ,ax,hK⟩:=aG h;obtain⟨zv,hzv,hzc⟩:=FN (V:=V) (w:=w) hz;obtain⟨V',ha,hβ,hW⟩:=hS.w.addBx (t:=t) (FM cZ) ax;have dq:(Instr.alloc t true (.tuple #[])).run P w= .ok (.pointer (some ⟨w.heap.size,0,none⟩)) (w.alloc (.cells ⟨cs.map (bj V)⟩ t)):=by
   simp [Instr.alloc,hzv,newVar,newRow,hzc]
  refine vf (v:= .pointer (some ⟨w.heap.size,0,none⟩)) (by simp only[execOp,ho];exact kg dq) ?_;have:=hn _ _ V' D _ hK rfl (hS.to ha (Nat.le_succ _) (fun _ _ _ h=>h) hW) ⟨ha,Nat.le_succ _,fun _ _ _ h=>h⟩;rwa [yK,hβ] at this
 ·rename_i t x ak p' q;cases q;obtain⟨cs,fp,cZ,ax,hK⟩:=aG h;obtain⟨s,hs,fp⟩:=uM fp;obtain⟨V',ha,hβ,hW⟩:=hS.w.addBx (t:=t) (FM cZ) ax;have bW:=CJ (V:=V) fp;have dq:(Instr.box t (den V s)).run P w= .ok (.pointer (some ⟨w.heap.size,0,none⟩)) (w.alloc (.cells ⟨cs.map (bj V)⟩ t)):=by
   simp [Instr.box,newVar,newRow,bW]
  refine vf (v:= .pointer (some ⟨w.heap.size,0,none⟩)) (by simp only[execOp,ho,dw hS hp hc hs];exact kg dq) ?_;have:=hn _ _ V' D _ hK rfl (hS.to ha (Nat.le_succ _) (fun _ _ _ h=>h) hW) ⟨ha,Nat.le_succ _,fun _ _ _ h=>h⟩;rwa [yK,hβ] at this
 ·rename_i t x y ak p' q;cases q;obtain⟨sx,hx,h1⟩:=aG h;obtain⟨cs,fp,h2⟩:=aG h1;obtain⟨sy,hy,fp⟩:=uM fp;clear h h1;unfold EA at h2;split at h2
  ·rename_i ak k off q;simp only[A.mk.injEq,Prod.mk.injEq] at q;obtain⟨rfl,rfl⟩:=q;obtain⟨b,hb,cZ,h0,j9,qh,ax,ue,hK⟩:=aG h2;obtain⟨wb,eC⟩:=tE hb;obtain⟨ob,vB,hob⟩:=(hS.heap.bx b eC).1;have acZ:=MP cZ hob;subst acZ;rw[wb] at vB;have agd:(cs.map (bj V))=cs.map (bj V):=rfl
   have hW:=hS.w.setBx (cs:=kK b.cs off cs) hb cZ (by
    have xR:=(hS.w.ids.1 b eC).2
    exact Mh cs b.cs off ax xR)
   have bW:=CJ (V:=V) fp;have gv:=run_storeCells_at P (V.β k) off b.ty (cs.map (bj V)) 0 ⟨b.cs.map (bj V)⟩ w vB (by simp;exact ue) (tD qh);have dq:(Instr.storeAt t (.pointer (some ⟨V.β k,off,none⟩)) (den V sy)).run P w= .ok () (w.setRow (V.β k) ⟨(kK b.cs off cs).map (bj V)⟩):=by
    have Bb:(den V sy).cells.size=bC P t:=by rw[bW];simpa using j9
    simp only[Instr.storeAt,Instr.sureAddr,Sem.run_bind,Sem.run_pure,Result.andThen_ok,storeVar,AD h0];rw[ae (by rw[Bb];simp)];rw[bW];rw[He _ _ _ ue];simp only[Nat.add_zero] at gv;simp only[List.map_append,List.map_take,List.map_drop];rw[<- List.length_map (f:=bj V)];exact gv
   refine LF (w' :=w.setRow (V.β k) ⟨(kK b.cs off cs).map (bj V)⟩) (by
    simp only[execOp,ho,dw hS hp hc hx,dw hS hp hc hy,yK,Sem.run_bind,dq,Result.andThen_ok,Sem.run_pure]) ?_
   exact hn _ _ V D _ hK rfl (hS.to (Agree.refl _ _ _) (aq _) (fun _ _ _ h=>h) hW) ⟨Agree.refl _ _ _,aq _,fun _ _ _ h=>h⟩
  ·cases h2
 ·rename_i t len parts ak p' q;cases q;obtain⟨e,he,h⟩:=aG h;obtain⟨z,hz,sU,h0,sN,h⟩:=aG h;obtain⟨cs,fp,h⟩:=aG h;have fp:=Vs sU h0 fp;obtain⟨l',m1,D1,e1,e2,e3,_⟩:=qC (st:=st) cs _ st.m D h hS.w;obtain⟨l,hl,qh,hK⟩:=aG e1;have jQ:=CR (V:=V) hl;obtain⟨dq,hclen⟩:=Rb hS hp hc he hz sU h0 sN fp;rw[<- e3,jQ] at dq;have pE:l.length=len * bC P e:=by
   rw[<- jQ,e3,List.length_map,hclen]
  obtain⟨V',ha,hγ,hW⟩:=SatW.addVc (w' :=w.alloc (.cells ⟨l⟩ e)) (hd:=⟨some ⟨w.heap.size,0,none⟩,len,len⟩) (e:=e) (sz:=bC P e) (n:=len) (xs:=l) e2 rfl rfl rfl (by simp) (fun b hb=>ye w _ b hb)
   ⟨pE,.inr ⟨w.heap.size,len,⟨l⟩,rfl,au _,heap_alloc_new w _,aq _,by
    have:len<=len * bC P e:=Nat.le_mul_of_pos_right _ h0
    simp only[maxLen];omega,by simpa using pE,by rw[<- pE];simp⟩⟩
   (fun g hg=>by simp only[Hd.blk,Option.map_some,dy] at hg;omega) h0
   (fun u hu=>by rw[<- jQ] at hu;exact tD qh u hu)
  refine vf (v:= .slice (some ⟨w.heap.size,0,none⟩) len len) (by simp only[execOp,ho];exact kg dq) ?_;have:=hn _ _ V' D1 _ hK rfl (Sat.to (st:=⟨st.env,st.rho,st.bx,st.vc,st.nid,m1⟩) ⟨hS.f,hS.ids,e2⟩ ha (Nat.le_succ _) (fun k u hk hv=>tf rfl k u hk hv) hW) ⟨ha,Nat.le_succ _,fun k u hk hv=>tf rfl k u hk hv⟩;rwa [show den V' (.vec st.nid 0)= .slice (some ⟨w.heap.size,0,none⟩) len len from by show Hd.val _=_;rw[hγ];rfl] at this
 ·rename_i x y t tx ak p' q;cases q;obtain⟨sx,hx,h⟩:=aG h;obtain⟨sy,hy,h⟩:=aG h;obtain⟨e,he,h⟩:=aG h;obtain⟨r,ak,V',D',w',dq,hK,gi,ga,ha⟩:=SJ (ty:=o.type) hS he h;rw[<- dw hS hp hc hx,<- dw hS hp hc hy] at dq
  refine vf (v:=den V' r) (by
   simp only[execOp,ho,resolve,Sem.run_bind,Sem.run_pure,Result.andThen_ok,invoke,builtin]
   simp only[List.map_toArray,br,List.map_nil,dq,Result.andThen_ok]) (hn _ _ V' D' w' hK gi ga ha)
 ·rename_i t l cp ak p' q;cases q;obtain⟨sl,hl,h1⟩:=aG h;obtain⟨sc,bl,h2⟩:=aG h1;obtain⟨e,he,h3⟩:=aG h2;obtain⟨z,hz,h4⟩:=aG h3;clear h h1 h2 h3;obtain⟨zs,xE,hz⟩:=uM hz;unfold E1 at h4;split at h4
  ·rename_i ak kl l' kc c' q;simp only[A.mk.injEq,Prod.mk.injEq] at q;obtain⟨rfl,rfl,rfl⟩:=q;obtain⟨Qw,hlc,ph,sU,h0,qh,hK⟩:=h4;obtain⟨i,hi,hisz,hiby⟩:=Hq h0;have Ig:=xE;unfold ft at Ig;simp only[Option.map_eq_some_iff,Option.bind_eq_some_iff] at Ig;obtain⟨zv,⟨i',ls,hzv⟩,hzz⟩:=Ig;rw[hi] at ls;cases ls;have acQ:zv.cells=⟨z⟩:=by
    have:=CR (V:=V) hz;rw[<- hzz,yX] at this;rw[<- this]
   have aak:0<=c' :=by omega
   have dq:=run_make (P:=P) w t e i zv (nK he) hi hzv kl kc l' c' Qw hlc (by
    have:=ph.1;rw[<- hiby] at this;have hh:((i.bytes * c'.toNat:Nat):Int)<=281474976710656:=by rw[Nat.mul_comm];omega
    rw[Int.natCast_mul,Int.toNat_of_nonneg aak] at hh
    exact hh) (by have:=ph.2;simp only[maxLen] at this;omega)
   have YY:madeCells zv.cells (c'.toNat * i.size)=⟨(List.replicate c'.toNat z).flatten⟩:=by
    unfold madeCells;rw[acQ,hisz,<- sU];exact Lf z _ (by omega)
   rw[YY] at dq;have hlen:((List.replicate l'.toNat z).flatten).length=l'.toNat * bC P e:=by rw[G0,sU]
   obtain⟨V',ha,hγ,hW⟩:=SatW.addVc (w' :=w.alloc (.cells ⟨(List.replicate c'.toNat z).flatten⟩ e)) (hd:=⟨some ⟨w.heap.size,0,none⟩,l'.toNat,c'.toNat⟩) (e:=e) (sz:=bC P e) (n:=l'.toNat) (xs:=(List.replicate l'.toNat z).flatten)
    hS.w rfl rfl rfl (by simp) (fun b hb=>ye w _ b hb)
    ⟨hlen,.inr ⟨w.heap.size,c'.toNat,⟨(List.replicate c'.toNat z).flatten⟩,rfl,au _,heap_alloc_new w _,by omega,ph.2,by simp only[List.size_toArray,G0,sU],by
     show((List.replicate c'.toNat z).flatten).take (l'.toNat * bC P e)=_
     rw[<- sU];exact T2 z (by omega)⟩⟩
    (fun g hg=>by simp only[Hd.blk,Option.map_some,dy] at hg;omega) h0
    (fun u hu=>by
     have:=tD (V:=V) qh u;rw[yX] at this
     exact this (VI hu))
   refine vf (v:= .slice (some ⟨w.heap.size,0,none⟩) l'.toNat c'.toNat) (by
    simp only[execOp,ho,dw hS hp hc hl,dw hS hp hc bl,eR]
    exact kg dq) ?_
   have:=hn _ _ V' D _ hK rfl (hS.to ha (Nat.le_succ _) (fun k u hk hv=>tf rfl k u hk hv) hW) ⟨ha,Nat.le_succ _,fun k u hk hv=>tf rfl k u hk hv⟩;rwa [show den V' (.vec st.nid 0)= .slice (some ⟨w.heap.size,0,none⟩) l'.toNat c'.toNat from by show Hd.val _=_;rw[hγ];rfl] at this
  ·cases h4
 ·rename_i t ak p' q;cases q;obtain⟨vZ,h⟩:=h;obtain⟨V',ha,hβ,hW⟩:=hS.w.addBx (t:=(jb P t).1) (cs:=[]) (o:= .map #[] 0) (by unfold mu;rw[ae (Nat.not_lt.2 vZ.1)];exact⟨#[],0,[],rfl,rfl,rfl,fun x hx=>by cases hx⟩) trivial;have dq:(Instr.makeMap t (Option.map a.eval none)).run P w= .ok (.map (some w.heap.size)) (w.alloc (.map #[] 0)):=by
   simp [Instr.makeMap]
  refine vf (v:= .map (some w.heap.size)) (by simp only[execOp,ho];exact kg dq) ?_;have:=hn _ _ V' D _ h rfl (hS.to ha (Nat.le_succ _) (fun _ _ _ h=>h) hW) ⟨ha,Nat.le_succ _,fun _ _ _ h=>h⟩;rwa [show den V' (.mp st.nid)= .map (some w.heap.size) from by show Value.map _=_;rw[hβ]] at this
 ·rename_i f r ak p' q;cases q;obtain⟨sr,hr,h1⟩:=aG h;clear h;unfold E0 at h1;split at h1
  ·rename_i ak k o' q;simp only[A.mk.injEq,Prod.mk.injEq] at q;obtain⟨rfl,rfl⟩:=q;have dq:(Instr.makeFunc (.func f) (Array.map a.eval #[r]) (Array.map a.eval #[])).run P w= .ok (den V (.mv f k o')) w:=by
    have e:Array.map a.eval #[r]= #[den V (.box k o')]:=by
     apply Array.ext'
     simp only[Array.toList_map,br,List.map_nil];rw[dw hS hp hc hr]
    rw[e];simp [Instr.makeFunc];rfl
   refine vf (v:=den V (.mv f k o')) (by simp only[execOp,ho];exact kg dq) ?_;exact hn _ _ V D _ h1 rfl (hS.to (Agree.refl _ _ _) (aq _) (fun _ _ _ h=>h) hS.w) ⟨Agree.refl _ _ _,aq _,fun _ _ _ h=>h⟩
  ·cases h1
 ·rename_i t m k x ak p' q;cases q;obtain⟨sm,hm,h1⟩:=aG h;obtain⟨sk,hk,h2⟩:=aG h1;obtain⟨sx,hx,h3⟩:=aG h2;clear h h1 h2;unfold EB at h3;split at h3
  ·rename_i ak j s v q;simp only[A.mk.injEq,Prod.mk.injEq] at q;obtain⟨rfl,rfl,qo,hpv⟩:=q;obtain⟨b,hb,cZ,ht,ep,hvv,h4⟩:=aG h3;obtain⟨l,hl,hK⟩:=aG h4;have EM:=beq_iff_eq.1 cZ;obtain⟨es,pJ,l',e1,e2,e3,e4⟩:=N9 hS hb (by rw[EM];exact ht.1);rw[CZ hl] at e2;subst e2;have QR:=e4;rw[EM] at QR;obtain⟨xX,zw,dq,hes'⟩:=R6 (P:=P) (w:=w) ht e1 e3 QR (by rw[<- EM];exact ep) v;rw[L3] at hK;have ao:V.β j<w.heap.size:=(Array.getElem?_eq_some_iff.1 e1).1;have Ip:((np (mB l' s v)).map SV.v).map (bj V)=np (mB l' s v):=by rw[List.map_map];exact List.map_id'' (fun _=>rfl) _
   have acV:fy st.nid st.vc ((np (mB l' s v)).map SV.v):=by
    generalize np (mB l' s v)=z
    induction z with
    |nil=>trivial
    |cons y z ih=>exact⟨trivial,ih⟩
   have hW:=hS.w.setOb (w' :={w with heap:=w.heap.setIfInBounds (V.β j) (.map xX zw)}) (o:= .map xX zw) (cs:=(np (mB l' s v)).map SV.v) hb acV
    (by unfold mu;rw[ae (Nat.not_lt.2 (by rw[EM];exact ht.1)),Ip];exact⟨xX,zw,_,rfl,rfl,hes',M9 ep hvv e4⟩) rfl rfl rfl (by simp) (MapKept.heap_set e1).1 (fun g hg=>(MapKept.heap_set e1).2 g hg)
   refine LF (w' :={w with heap:=w.heap.setIfInBounds (V.β j) (.map xX zw)}) (by
    simp only[execOp,ho,dw hS hp hc hm,dw hS hp hc hk,dw hS hp hc hx,Sem.run_bind];rw[show den V (.mp j)= .map (some (V.β j)) from rfl,Gg qo,Gg hpv,dq]
    rfl) ?_
   exact hn _ _ V D _ hK rfl (hS.to (Agree.refl _ _ _) (aq _) (fun _ _ _ h=>h) hW) ⟨Agree.refl _ _ _,aq _,fun _ _ _ h=>h⟩
  ·cases h3
 ·rename_i fo args _ ak p' q;cases q;obtain⟨l,hl,h1⟩:=aG h;obtain⟨sf,hf,h2⟩:=aG h1;clear h h1;unfold A7 at h2;split at h2
  ·rename_i ak f q;simp only[A.mk.injEq,Prod.mk.injEq] at q;obtain⟨rfl,rfl⟩:=q;obtain⟨ax,h3⟩:=h2;have dq:=GN (w:=w) ho (dw hS hp hc hf) ax;unfold Oper.wp;rw[dq];have rf:args.map a.eval=⟨l.map (den V)⟩:=by
    apply Array.ext'
    rw[Array.toList_map,z8 hS hp hc hl]
   rw[rf];refine Kd (R:=fun | .returned v,qm=>next (a.put o.dst v) qm | .panicked chain,qm=>Q (.panic chain) a qm | .outgrown,_=>LetsOut Q) hS h3 ?_;intro s ak V' D' w' hK gi ga ha;exact hn s ak V' D' w' hK gi ga ha
  ·rename_i ak f k o' q;simp only[A.mk.injEq,Prod.mk.injEq] at q;obtain⟨rfl,rfl⟩:=q;obtain⟨ax,h3⟩:=h2;have dq:=Tp (w:=w) ho (dw hS hp hc hf) ax;unfold Oper.wp;rw[dq];have rf: #[Value.pointer (some ⟨V.β k,o',none⟩)]++args.map a.eval=⟨(SV.box k o' ::l).map (den V)⟩:=by
    apply Array.ext'
    simp only[Array.toList_append,Array.toList_map,z8 hS hp hc hl,br];rfl
   rw[rf];refine Kd (R:=fun | .returned v,qm=>next (a.put o.dst v) qm | .panicked chain,qm=>Q (.panic chain) a qm | .outgrown,_=>LetsOut Q) hS h3 ?_;intro s ak V' D' w' hK gi ga ha;exact hn s ak V' D' w' hK gi ga ha
  ·cases h2
 ·cases h
end
def mq (n:Nat) (o:Oper):Bool:=match o.dst with |some d=>decide (d<n) |none=>true
def RInv (ops:Array Oper) (L:Nat->Prop) (rho:List Gd):Prop:=∀g∈rho,L g.i/\(ops[g.i]?).bind (·.dst)=some g.slot
def cK (c:Cfg) (P:Program):Prop:=
 ∀f F,c.pure f=some F->iJ P f=true/\∀m cL y,F m cL=some y->y.1->FnH P f (cL.map SV.v) ⟨[],[]⟩ m (fun r H' _=>r= .v y.2/\H' =⟨[],[]⟩)
theorem zZ {g:Gd} {rho:List Gd} {j:Nat} (h:g.i≠j):gk (g::rho) j=gk rho j:=by
 obtain⟨i,t,p,b⟩:=g;simp only[gk];rw[ae h]
theorem CL {g:Gd} {rho:List Gd}:gk (g::rho) g.i=some g:=by
 obtain⟨i,t,p,b⟩:=g;simp only[gk,if_true]
theorem GF {g:Gd} {rho:List Gd} {p:bt} (h:fY rho p):fY (g::rho) p:=fun x hx=>by
 obtain⟨g',iv⟩:=h x hx;by_cases e:g.i=x.1
 ·exact⟨g,by rw[<- e];exact CL⟩
 ·exact⟨g',by rw[zZ e];exact iv⟩
theorem T0 {g:Gd} {rho:List Gd} {j:Nat} {w:Bool} (h:g.i≠j):oB (g::rho) j w=oB rho j w:=by
 unfold oB;rw[zZ h]
theorem KI {g:Gd} {rho:List Gd}:∀{p:bt},(∀x∈p,x.1≠g.i)->bU (g::rho) p=bU rho p
 |[],_=>rfl
 |(j,w)::p,h=>by
  simp only[bU];rw[T0 (fun e=>h (j,w) (dz ..) e.symm),KI fun x hx=>h x (cS _ hx)]
theorem Yg {rho:List Gd} {i:Nat} (hi:∀g∈rho,g.i≠i) {p:bt} (h:fY rho p):∀x∈p,x.1≠i:=fun x hx e=>by
 obtain⟨g,hg⟩:=h x hx;obtain⟨h1,h2⟩:=Eh hg;exact hi g h2 (h1.trans e)
theorem Ku:∀p:bt,pZ p p=true
 |[]=>rfl
 |(j,w)::p=>by simp only[pZ,if_true];exact Ku p
theorem UP:∀p:bt,ns p p=true
 |[]=>rfl
 |x::p=>by simp only[ns];rw[aj (Ku _)]
theorem Xd {env:List Ev} {t:Nat} {q:bt} {s:SV} (h:fS env t q=some s):∃e∈env,ns e.p q=true/\fS env t e.p=some s:=by
 induction env with
 |nil=>cases h
 |cons x r ih=>
  obtain⟨t',p',s'⟩:=x;simp only[fS] at h;split at h
  ·rename_i ht;split at h
   ·rename_i xH;refine⟨_,dz ..,xH,?_⟩;simp only[fS];rw[aj ht,aj (UP p')];exact h
   ·cases h
  ·rename_i ht;obtain⟨e,he,h1,h2⟩:=ih h;refine⟨e,cS _ he,h1,?_⟩;simp only[fS];rw[ae ht];exact h2
theorem Ln {d:Nat}:∀{rho:List Gd},j2 rho (some d)=false->∀g∈rho,g.slot≠d
 |[],_,_,hg=>by cases hg
 |⟨i,t,p,b⟩::r,h,g,hg=>by
  simp only[j2] at h;split at h
  ·cases h
  ·rename_i cP;rcases List.mem_cons.1 hg with rfl |hg
   ·exact cP
   ·exact Ln h g hg
section
variable {C:Ctx} {n:Nat} {st:LS} {a:Act} {V:Vl} {D:Nat->Nat} {w:World} {P:Program} {p:bt} {c:Cfg} {ops:Array Oper} {L:Nat->Prop} {i:Nat} {o:Oper}
theorem Hf (hS:Sat C n st a V D w) {d:Nat} (hd:d<n) (v:Value):(a.put (some d) v).tmps[d]? =some v:=by
 have:=hS.f.size;simp only[Act.put];rw[Array.getElem?_setIfInBounds_self_of_lt (by omega)]
theorem KY {d t:Nat} (v:Value) (h:t≠d):(a.put (some d) v).tmps[t]? =a.tmps[t]? :=by
 simp only[Act.put];rw[Array.getElem?_setIfInBounds_ne (fun e=>h e.symm)]
theorem Sat.put (hS:Sat C n st a V D w) {d:Option Nat} (hd:∀x,d=some x->x<n) (hit:j2 st.rho d=false) (hp:fY st.rho p) {s:SV} (hs:jg st.nid st.vc s) {v:Value}
  (hv:bU st.rho p=true->v=den V s):Sat C n (E.put st d p s) (a.put d v) V D w:=by
 cases d with
 |none=>exact hS
 |some d=>
  refine⟨⟨hS.f.defers,by simp only[Act.put,Array.size_setIfInBounds];exact hS.f.size,?_,?_,?_⟩,?_,hS.w⟩
  ·intro e he;rcases List.mem_cons.1 he with rfl |he
   ·exact hp
   ·exact hS.f.pth e he
  ·intro t q s' hq hl hc;simp only[E.put,fS] at hl;split at hl
   ·rename_i ht;subst ht;split at hl
    ·rename_i xH;cases hl;rw[Hf hS (hd _ rfl),hv (Db xH hc)]
    ·cases hl
   ·rename_i ht;rw[KY _ (fun e=>ht e.symm)];exact hS.f.env t q s' hq hl hc
  ·intro g hg;obtain⟨h1,h2,h3⟩:=hS.f.rho g hg;exact⟨h1,h2,by rw[KY _ (Ln hit g hg)];exact h3⟩
  ·intro e he;rcases List.mem_cons.1 he with rfl |he
   ·exact hs
   ·exact hS.ids e he
theorem Sat.note (hS:Sat C n st a V D w) (hp:fY st.rho p) {b:Bool} {d:Nat} (hi:∀g∈st.rho,g.i≠i) (ht:a.tmps[d]? =some (if bU st.rho p=true then .bool b else undef)):
  Sat C n ⟨st.env,⟨i,d,p,.sym b⟩::st.rho,st.bx,st.vc,st.nid,st.m⟩ a V D w:=by
 have hc:∀{q:bt},fY st.rho q->bU (⟨i,d,p,.sym b⟩::st.rho) q=bU st.rho q:=fun hq=>KI (Yg hi hq)
 refine⟨⟨hS.f.defers,hS.f.size,fun e he=>GF (hS.f.pth e he),?_,?_⟩,hS.ids,hS.w⟩
 ·intro t q s hq hl wa;obtain⟨e,he,xH,kv⟩:=Xd hl;have Qh:=hS.f.pth e he;exact hS.f.env t e.p s Qh kv (by rw[<- hc Qh];exact Db xH wa)
 ·intro g hg;rcases List.mem_cons.1 hg with rfl |hg
  ·exact⟨CL,GF hp,by rw[hc hp];exact ht⟩
  ·obtain⟨h1,h2,h3⟩:=hS.f.rho g hg;have:=hi g hg;exact⟨by rw[zZ (fun e=>this e.symm)];exact h1,GF h2,by rw[hc h2];exact h3⟩
/-! Forks. -/
structure Fk (st ak:LS):Prop where
 eqs:ak.bx=st.bx/\ak.vc=st.vc/\ak.nid=st.nid/\ak.m=st.m
 cond:∀q,bU ak.rho q=bU st.rho q
 wf:∀q,fY st.rho q->fY ak.rho q
 hit:∀d,j2 ak.rho d=j2 st.rho d
 inv:∀ops (L:Nat->Prop),RInv ops L st.rho->RInv ops L ak.rho
theorem Fk.refl (st:LS):Fk st st:=⟨⟨rfl,rfl,rfl,rfl⟩,fun _=>rfl,fun _ h=>h,fun _=>rfl,fun _ _ h=>h⟩
theorem Fk.trans {st ak la:LS} (h:Fk st ak) (h' :Fk ak la):Fk st la:=
 ⟨⟨h'.eqs.1.trans h.eqs.1,h'.eqs.2.1.trans h.eqs.2.1,h'.eqs.2.2.1.trans h.eqs.2.2.1,h'.eqs.2.2.2.trans h.eqs.2.2.2⟩,fun q=>(h'.cond q).trans (h.cond q),fun q x=>h'.wf q (h.wf q x),
  fun d=>(h'.hit d).trans (h.hit d),fun o i x=>h'.inv o i (h.inv o i x)⟩
theorem Step.same {nid iH:Nat} {vc eJ:List Vc} (h1:iH=nid) (h2:eJ=vc) (V:Vl):Step nid vc iH eJ V V:=by
 subst h1 h2;exact⟨Agree.refl _ _ _,aq _,fun _ _ _ h=>h⟩
theorem Step.trans {nid iH OX:Nat} {vc eJ Pq:List Vc} {V V' QY:Vl} (h:Step nid vc iH eJ V V') (h' :Step iH eJ OX Pq V' QY):Step nid vc OX Pq V QY:=
 ⟨fun k hk=>⟨((h'.agr k (ej hk h.up)).1).trans (h.agr k hk).1,fun u hu=>((h'.agr k (ej hk h.up)).2 u (h.ver k u hk hu)).trans ((h.agr k hk).2 u hu)⟩,cR h.up h'.up,
  fun k u hk hu=>h'.ver k u (ej hk h.up) (h.ver k u hk hu)⟩
theorem Fk.step {st ak:LS} (h:Fk st ak) (V:Vl):Step st.nid st.vc ak.nid ak.vc V V:=Step.same h.eqs.2.2.1 h.eqs.2.1 V
def sP (j:Nat) (x:Bool) (g:Gd):Gd:=if g.i=j then⟨g.i,g.slot,g.p,.lit x⟩ else g
theorem AI {j:Nat} {x:Bool}:∀{rho:List Gd},lg rho j x=rho.map (sP j x)
 |[]=>rfl
 |⟨i,t,p,b⟩::r=>by
  simp only[lg,br,sP];split
  ·rw[AI]
  ·rw[AI]
theorem D5 {j:Nat} {x:Bool} (g:Gd):(sP j x g).i=g.i/\(sP j x g).slot=g.slot/\(sP j x g).p=g.p:=by
 unfold sP;split<;>exact⟨rfl,rfl,rfl⟩
theorem Oe {f:Gd->Gd} (hf:∀g,(f g).i=g.i):∀{rho:List Gd} (k:Nat),gk (rho.map f) k=(gk rho k).map f
 |[],_=>rfl
 |g::r,k=>by
  by_cases e:g.i=k
  ·subst e;rw[CL,br,<- hf g,CL];rfl
  ·rw[zZ e,br,zZ (by rw[hf];exact e),Oe hf]
theorem D4 {rho:List Gd} {j:Nat} {x:Bool} (k:Nat):gk (lg rho j x) k=(gk rho k).map (sP j x):=by
 rw[AI];exact Oe (fun g=>(D5 g).1) k
theorem NH {rho:List Gd} {j:Nat} {x:Bool} {g:Gd} (h:g∈lg rho j x):∃g' ∈rho,g=sP j x g' :=by
 rw[AI] at h;obtain⟨g',h1,h2⟩:=List.mem_map.1 h;exact⟨g',h1,h2.symm⟩
theorem NB {f:Gd->Gd} (hf:∀g,(f g).slot=g.slot) {d:Option Nat}:∀{rho:List Gd},j2 (rho.map f) d=j2 rho d
 |[]=>rfl
 |g::r=>by
  cases d with
  |none=>rfl
  |some d=>
   have h1:∀(g:Gd) (r:List Gd),j2 (g::r) (some d)=if g.slot=d then true else j2 r (some d):=fun g r=>by cases g;rfl
   rw[br,h1,h1,hf,NB hf]
theorem XT {j:Nat} {x:Bool} {d:Option Nat} {rho:List Gd}:j2 (lg rho j x) d=j2 rho d:=by
 rw[AI];exact NB fun g=>(D5 g).2.1
theorem NG {rho:List Gd} {j k:Nat} {x:Bool} {g g' :Gd} (hg:gk rho j=some g) (hb:g.b.val=x) (hk:gk rho k=some g'):(sP j x g').b.val=g'.b.val:=by
 unfold sP;split
 ·rename_i e;have:=(Eh hk).1;rw[this] at e;subst e;rw[hg] at hk;cases hk;exact hb.symm
 ·rfl
theorem VL {rho:List Gd} {j k:Nat} {x u:Bool} {g:Gd} (hg:gk rho j=some g) (hb:g.b.val=x):oB (lg rho j x) k u=oB rho k u:=by
 unfold oB;rw[D4];cases hk:gk rho k with
 |none=>rfl
 |some g' =>simp only[Option.map_some,NG hg hb hk]
theorem MG {rho:List Gd} {j:Nat} {x:Bool} {g:Gd} (hg:gk rho j=some g) (hb:g.b.val=x):∀q:bt,bU (lg rho j x) q=bU rho q
 |[]=>rfl
 |(k,u)::q=>by simp only[bU];rw[VL hg hb,MG hg hb q]
theorem AX {rho:List Gd} {j:Nat} {x:Bool} {q:bt}:fY (lg rho j x) q↔fY rho q:=by
 constructor
 ·intro h y hy;obtain⟨g,hg⟩:=h y hy;rw[D4] at hg;obtain⟨g',iv,_⟩:=Option.map_eq_some_iff.1 hg;exact⟨g',iv⟩
 ·intro h y hy;obtain⟨g,hg⟩:=h y hy;exact⟨_,by rw[D4,hg];rfl⟩
theorem VH (hS:Sat C n st a V D w) {j t:Nat} {q:bt} {b:GB} {i' :Nat} {x:Bool} (hg:gk st.rho j=some ⟨i',t,q,b⟩) (hb:b.val=x):
  Sat C n ⟨⟨t,q,.v (.bool x)⟩::st.env,lg st.rho j x,st.bx,st.vc,st.nid,st.m⟩ a V D w/\Fk st ⟨⟨t,q,.v (.bool x)⟩::st.env,lg st.rho j x,st.bx,st.vc,st.nid,st.m⟩:=by
 have hc:=MG hg hb;obtain⟨hgi,hgm⟩:=Eh hg;obtain⟨h1,h2,h3⟩:=hS.f.rho _ hgm;refine⟨⟨⟨hS.f.defers,hS.f.size,?_,?_,?_⟩,?_,hS.w⟩,⟨rfl,rfl,rfl,rfl⟩,hc,fun q=>AX.2,fun _=>XT,?_⟩
 ·intro e he;rcases List.mem_cons.1 he with rfl |he
  ·exact AX.2 h2
  ·exact AX.2 (hS.f.pth e he)
 ·intro t' q' s hq hl wa;simp only at hq wa;rw[hc] at wa;have hq:=AX.1 hq;simp only[fS] at hl;split at hl
  ·rename_i ht;subst ht;split at hl
   ·rename_i xH;cases hl;simp only at h3;rw[h3,aj (Db xH wa),hb];rfl
   ·cases hl
  ·exact hS.f.env t' q' s hq hl wa
 ·intro g iv;obtain⟨g0,Jd,rfl⟩:=NH iv;obtain⟨e1,e2,e3⟩:=hS.f.rho g0 Jd;obtain⟨f1,f2,f3⟩:=D5 (j:=j) (x:=x) g0;refine⟨by rw[f1,D4,e1];rfl,by rw[f3];exact AX.2 e2,?_⟩;simp only;rw[f2,f3,hc,NG hg hb e1];exact e3
 ·intro e he;rcases List.mem_cons.1 he with rfl |he
  ·trivial
  ·exact hS.ids e he
 ·intro ops i hR g hg;obtain⟨g',h1,rfl⟩:=NH hg;obtain⟨f1,f2,f3⟩:=D5 (j:=j) (x:=x) g';rw[f1,f2];exact hR g' h1
theorem RU (hS:Sat C n st a V D w) {j:Nat} {u:Bool} {g:Gd} (hg:gk st.rho j=some g) {dead live:LS->Prop} (h:rh (.mk (k:=(j,u,dead,live)) (st,g))):
  ∃ak,Sat C n ak a V D w/\Fk st ak/\(oB st.rho j u=true->live ak)/\(oB st.rho j u=false->dead ak):=by
 have hv:=DK hg (w:=u);obtain⟨i',t,q,b⟩:=g;cases b with
 |lit b=>
  refine⟨st,hS,Fk.refl st,?_⟩;rw[hv];cases u<;>cases b<;>simp_all [rh,GB.val]
 |sym b=>
  obtain⟨h1,h2⟩:=VH hS hg (x:=b) rfl;refine⟨_,h1,h2,?_⟩;rw[hv];cases u<;>cases b<;>simp_all [rh,GB.val]
theorem J7 (hS:Sat C n st a V D w):∀{p:bt} {dead live:LS->Prop},D3 p dead live st->∃ak,Sat C n ak a V D w/\Fk st ak/\(bU st.rho p=true->live ak)/\(bU st.rho p=false->dead ak)
 |[],dead,live,h=>⟨st,hS,Fk.refl st,fun _=>h,fun e=>by cases e⟩
 |(j,u)::p,dead,live,h=>by
  simp only[D3] at h;obtain⟨lk,s1,f1,l1,d1⟩:=J7 hS h;cases hc:bU st.rho p with
  |false=>exact⟨lk,s1,f1,fun e=>by simp [bU,hc] at e,fun _=>d1 hc⟩
  |true=>
   obtain⟨g,hg,h'⟩:=aG (l1 hc);obtain⟨bR,s2,f2,l2,d2⟩:=RU s1 hg h';have:oB lk.rho j u=oB st.rho j u:=by
    have:=f1.cond [(j,u)];simpa [bU] using this
   rw[this] at l2 d2;exact⟨bR,s2,f1.trans f2,fun e=>l2 (by simpa [bU,hc] using e),fun e=>d2 (by simpa [bU,hc] using e)⟩
/-! The guard of an operation. -/
theorem FY (hS:Sat C n st a V D w) (hR:RInv ops L st.rho) (h:pathOf st o.guard=some p):fY st.rho p/\Region.wanted o (yielded ops a.tmps)=bU st.rho p:=by
 unfold Region.wanted;cases hg:o.guard with
 |none=>rw[hg] at h;simp only[pathOf,dy] at h;subst h;exact⟨qK,rfl⟩
 |some x=>
  obtain⟨j,u⟩:=x;rw[hg] at h;simp only[pathOf,Option.map_eq_some_iff] at h;obtain⟨g,hj,rfl⟩:=h;obtain⟨hi,hm⟩:=Eh hj;obtain⟨h1,h2,h3⟩:=hS.f.rho g hm;have Ba:=(hR g hm).2;rw[hi] at Ba;refine⟨fun y hy=> ?_,?_⟩
  ·rcases List.mem_cons.1 hy with rfl |hy
   ·exact⟨g,hj⟩
   ·exact h2 y hy
  ·simp only[bU,DK hj,yielded,Ba,Option.bind_some,h3];cases hc:bU st.rho g.p with
   |false=>simp [undef]
   |true=>cases u<;>cases g.b.val<;>simp
theorem RInv.mono {rho:List Gd} {L' :Nat->Prop} (h:RInv ops L rho) (hL:∀k,L k->L' k):RInv ops L' rho:=fun g hg=>⟨hL _ (h g hg).1,(h g hg).2⟩
theorem RInv.note {rho:List Gd} (h:RInv ops L rho) (im:ops[i]? =some o) {d:Nat} (hd:o.dst=some d) {b:GB}:RInv ops (fun k=>L k\/k=i) (⟨i,d,p,b⟩::rho):=fun g hg=>by
 rcases List.mem_cons.1 hg with rfl |hg
 ·exact⟨.inr rfl,by simp only[im,Option.bind_some];exact hd⟩
 ·exact⟨.inl (h g hg).1,(h g hg).2⟩
theorem ly {d:Option Nat} {s:SV}:(E.put st d p s).rho=st.rho/\(E.put st d p s).nid=st.nid/\(E.put st d p s).vc=st.vc:=by
 cases d<;>exact⟨rfl,rfl,rfl⟩
theorem Sz {s:SV} {x:Value} (h:oX s=some x):den V s=x:=by
 cases s with
 |v y=>simp only[oX,dy] at h;subst h;rfl
 |agg cs=>
  simp only[oX,Option.map_eq_some_iff] at h;obtain⟨l,hl,rfl⟩:=h;rw[Hv,CR hl]
 |_=>simp [oX] at h
theorem FG:∀{ss:List SV} {l:List Value},wE ss=some l->ss.map (den V)=l
 |[],l,h=>by simp only[wE,dy] at h;subst h;rfl
 |s::r,l,h=>by
  simp only[wE,Option.bind_eq_some_iff,Option.map_eq_some_iff] at h;obtain⟨x,hx,l',hl,rfl⟩:=h;simp only[br];rw[Sz hx,FG hl]
theorem SatW.quiet {bx:List Bx} {vc:List Vc} {nid:Nat} {m:Mem} (h:SatW C bx vc nid m V D w) {w2:World} {D2:Nat->Nat} {V1:Vl} (vL:Wf w2 D2) (pG:Frm (· ∈a7 V1 ⟨[],[]⟩) w D w2 D2) (hle:Mem.le ⟨w,D⟩ ⟨w2,D2⟩):
  SatW C bx vc nid m V D2 w2:=
 have hb:=uX h.heap
 ⟨h.heap.frame (fun _ _=>⟨rfl,rfl⟩) (fun _ _=>rfl) (fun g hg=>pG.same g (hb g hg) (by simp [a7])),vL,h.frm.trans pG (fun b hx=>by simp [a7] at hx),h.own,h.baseB,h.baseV,h.ids,
  Mem.le_trans h.le0 hle,h.m0,Mem.le_trans h.mle hle⟩
theorem Mb {op:Op} {F:Mem->List Value->Option (Prop×Value)} (h:gL c op= .pu F):∃f args ts,op= .call {callee:= .value (.func f),args,argTypes:=ts}/\c.pure f=some F:=by
 unfold gL at h;split at h;all_goals first |cases h |skip
 refine⟨_,_,_,rfl,?_⟩;cases hf:c.pure _ with
 |none=>rw[hf] at h;cases h
 |some G=>rw[hf] at h;cases h;rfl
theorem Sv (hS:Sat C n st a V D w) (dQ:cK c P) (hp:fY st.rho p) (hc:bU st.rho p=true) {F:Mem->List Value->Option (Prop×Value)} (hk:gL c o.op= .pu F) {K:SV->Prop} (h:HK (.mk (k:=(F st.m,py st p,K)) (tT st p (yG o.op))))
  {next:Act->World->Prop} {Q:Exit->Act->World->Prop} (hn:∀y D' w',K (.v y)->Sat C n st a V D' w' ->next (a.put o.dst y) w'):o.wp P a w next Q:=by
 obtain⟨f,args,ts,ho,hf⟩:=Mb hk;obtain⟨ax,hF⟩:=dQ f F hf;obtain⟨y,hy,hB,hK⟩:=aG h;rw[ho] at hy;simp only[yG,Option.bind_eq_some_iff] at hy;obtain⟨cL,⟨ss,oG,hvals⟩,hy⟩:=hy;have dq:=GN (w:=w) (a:=a) ho rfl ax;unfold Oper.wp;rw[dq];have rf:args.map a.eval=⟨(cL.map SV.v).map (den V)⟩:=by
  apply Array.ext'
  rw[Array.toList_map,z8 hS hp hc oG,FG hvals];simp only[List.map_map];exact(List.map_id'' (fun x=>rfl) cL).symm
 rw[rf];refine(hF st.m cL y hy (hB hc) V w D hS.w.wf hS.w.mle ⟨fun b hb=>(by cases hb),fun b hb=>(by cases hb),by simp [a7],by simp⟩).mono fun e w2 ⟨r,V2,D2,H',m',he,h1,h2,h3,h4,h5,h6,h7,h8,h9,hr,hH⟩=> ?_
 subst he;subst hr;exact hn y.2 D2 w2 hK ⟨hS.f,hS.ids,hS.w.quiet h1 h5 h7⟩
/-! One operation. -/
theorem FI (st:LS) (i:Nat) (d:Option Nat) (p:bt) (mv:Bool) (s:SV):lD st i d p mv s=st\/∃d' b,d=some d' /\s= .v (.bool b)/\lD st i d p mv s=⟨st.env,⟨i,d',p,.sym b⟩::st.rho,st.bx,st.vc,st.nid,st.m⟩:=by
 unfold lD;split
 ·exact .inr ⟨_,_,rfl,rfl,rfl⟩
 ·exact .inl rfl
theorem FJ (st:LS) (i:Nat) (d:Option Nat) (p:bt) (mv:Bool):lE st i d p mv=st\/∃d',d=some d' /\lE st i d p mv=⟨st.env,⟨i,d',p,.sym false⟩::st.rho,st.bx,st.vc,st.nid,st.m⟩:=by
 unfold lE;split
 ·exact .inr ⟨_,rfl,rfl⟩
 ·exact .inl rfl
theorem yk {st:LS} {i:Nat} {d:Option Nat} {p:bt} {mv:Bool} {s:SV}:(lD (E.put st d p s) i d p mv s).nid=st.nid/\(lD (E.put st d p s) i d p mv s).vc=st.vc:=by
 rcases FI (E.put st d p s) i d p mv s with e |⟨_,_,_,_,e⟩<;>rw[e]<;>cases d<;>exact⟨rfl,rfl⟩
theorem yl {st:LS} {i:Nat} {d:Option Nat} {p:bt} {mv:Bool} {s:SV}:(lE (E.put st d p s) i d p mv).nid=st.nid/\(lE (E.put st d p s) i d p mv).vc=st.vc:=by
 rcases FJ (E.put st d p s) i d p mv with e |⟨_,_,e⟩<;>rw[e]<;>cases d<;>exact⟨rfl,rfl⟩
theorem HH (hd:mq n o=true):∀x,o.dst=some x->x<n:=fun x hx=>by
 simp only[mq,hx] at hd;exact of_decide_eq_true hd
theorem Bf (hS:Sat C n st a V D w) (hR:RInv ops L st.rho) (oK:¬L i) (im:ops[i]? =some o) (hd:mq n o=true) (hit:j2 st.rho o.dst=false) (hp:fY st.rho p) {s:SV} (hs:jg st.nid st.vc s) {v:Value}
  (hv:v=if bU st.rho p=true then den V s else undef) (mv:Bool):
  Sat C n (lD (E.put st o.dst p s) i o.dst p mv s) (a.put o.dst v) V D w/\RInv ops (fun k=>L k\/k=i) (lD (E.put st o.dst p s) i o.dst p mv s).rho:=by
 have rT:=HH hd;have h1:=Sat.put hS (V:=V) rT hit hp hs (v:=v) (fun hc=>by rw[hv,aj hc]);rcases FI (E.put st o.dst p s) i o.dst p mv s with e |⟨d,b,e1,e2,e⟩
 ·rw[e];exact⟨h1,by rw[ly.1];exact hR.mono fun _=> .inl⟩
 ·rw[e]
  refine⟨h1.note (by rw[ly.1];exact hp) (by rw[ly.1];exact fun g hg e=>oK (e▸(hR g hg).1)) ?_,by
   simp only[ly.1];exact hR.note im e1⟩
  rw[e1,Hf hS (rT _ e1),ly.1,hv,e2];rfl
theorem H4 (hS:Sat C n st a V D w) (hR:RInv ops L st.rho) (oK:¬L i) (im:ops[i]? =some o) (hd:mq n o=true) (hit:j2 st.rho o.dst=false) (hp:fY st.rho p) (hc:bU st.rho p=false) (mv:Bool):
  Sat C n (lE (E.put st o.dst p (.v undef)) i o.dst p mv) (a.put o.dst undef) V D w/\RInv ops (fun k=>L k\/k=i) (lE (E.put st o.dst p (.v undef)) i o.dst p mv).rho:=by
 have rT:=HH hd;have h1:=Sat.put hS (V:=V) rT hit hp (s:= .v undef) trivial (v:=undef) (fun _=>rfl);rcases FJ (E.put st o.dst p (.v undef)) i o.dst p mv with e |⟨d,e1,e⟩
 ·rw[e];exact⟨h1,by rw[ly.1];exact hR.mono fun _=> .inl⟩
 ·rw[e]
  refine⟨h1.note (by rw[ly.1];exact hp) (by rw[ly.1];exact fun g hg e=>oK (e▸(hR g hg).1)) ?_,by
   simp only[ly.1];exact hR.note im e1⟩
  rw[e1,Hf hS (rT _ e1),ly.1,hc];rfl
theorem zd (hS:Sat C n st a V D w) (hR:RInv ops L st.rho) (hd:mq n o=true) (hit:j2 st.rho o.dst=false) (hp:fY st.rho p) {s:SV} (hs:jg st.nid st.vc s) {v:Value} (hv:bU st.rho p=true->v=den V s):
  Sat C n (E.put st o.dst p s) (a.put o.dst v) V D w/\RInv ops (fun k=>L k\/k=i) (E.put st o.dst p s).rho:=
 ⟨Sat.put hS (HH hd) hit hp hs hv,by rw[ly.1];exact hR.mono fun _=> .inl⟩
theorem La (hS:Sat C n st a V D w) (dQ:cK c P) (hR:RInv ops L st.rho) (oK:¬L i) (im:ops[i]? =some o) (hd:mq n o=true) (Bc:pathOf st o.guard=some p) {K:LS->Prop} (h:one (.mk (k:=(c,P,i,o,K)) (st,p)))
  {next:Act->World->Prop} {Q:Exit->Act->World->Prop} (hn:∀ak a' V' D' w',K ak->Sat C n ak a' V' D' w' ->RInv ops (fun k=>L k\/k=i) ak.rho->Step st.nid st.vc ak.nid ak.vc V V' ->next a' w'):
  if Region.wanted o (yielded ops a.tmps) then o.wp P a w next Q\/(o.asks P a w/\LetsOut Q) else next (a.put o.dst undef) w:=by
 obtain⟨hp,hw⟩:=FY hS hR Bc;have OR:∀(d:Option Nat) (p:bt) (s:SV),Step st.nid st.vc (E.put st d p s).nid (E.put st d p s).vc V V:=fun d p s=>Step.same ly.2.1 ly.2.2 V
 have stepG:∀(d:Option Nat) (p:bt) (s:SV) (mv:Bool),Step st.nid st.vc (lD (E.put st d p s) i d p mv s).nid (lD (E.put st d p s) i d p mv s).vc V V:=fun d p s mv=>Step.same yk.1 yk.2 V
 have ZI:∀(d:Option Nat) (p:bt) (s:SV) (mv:Bool),Step st.nid st.vc (lE (E.put st d p s) i d p mv).nid (lE (E.put st d p s) i d p mv).vc V V:=fun d p s mv=>Step.same yl.1 yl.2 V
 rw[hw];simp only[one] at h;unfold Bp at h;split at h
 ·rename_i q dead he;simp only[A.mk.injEq,Prod.mk.injEq] at he;obtain⟨hq,hdead,hit⟩:=he;unfold xe at h;split at h
  ·rename_i ak p' q';cases q';have hc:=C9 hdead;rw[hc];simp only[Bool.false_eq_true,if_false];obtain⟨h1,h2⟩:=H4 hS hR oK im hd hit hp hc (n7 o.op);exact hn _ _ _ _ _ h h1 h2 (ZI _ _ _ _)
  ·rename_i ak p' q';cases q';obtain⟨s,⟨hs,hK⟩,dq⟩:=Ge hS hp (o:=o) rfl h;cases hc:bU st.rho p with
   |true=>
    simp only[if_true];obtain⟨h1,h2⟩:=Bf hS hR oK im hd hit hp hs (v:=den V s) (by rw[hc];rfl) (n7 o.op);exact .inl (vf (dq hc) (hn _ _ _ _ _ hK h1 h2 (stepG _ _ _ _)))
   |false=>
    simp only[Bool.false_eq_true,if_false];obtain⟨h1,h2⟩:=Bf hS hR oK im hd hit hp hs (v:=undef) (by rw[hc];rfl) (n7 o.op);exact hn _ _ _ _ _ hK h1 h2 (stepG _ _ _ _)
  ·rename_i F ak p' q';cases q';cases hc:bU st.rho p with
   |true=>
    simp only[if_true];refine .inl (Sv hS dQ hp hc hq h fun y D' w' hK ga=> ?_);obtain⟨h1,h2⟩:=zd (i:=i) ga hR hd hit hp (s:= .v y) trivial (v:=y) (fun _=>rfl);exact hn _ _ _ _ _ hK h1 h2 (OR _ _ _)
   |false=>
    simp only[Bool.false_eq_true,if_false];obtain⟨y,hy,hB,hK⟩:=aG h;obtain⟨h1,h2⟩:=zd (i:=i) hS hR hd hit hp (s:= .v y.2) trivial (v:=undef) (fun e=>by rw[hc] at e;cases e);exact hn _ _ _ _ _ hK h1 h2 (OR _ _ _)
  ·rename_i ak p' q';cases q';obtain⟨lk,s1,f1,l1,d1⟩:=J7 hS h;have Cb:=f1.wf _ hp;have Io:j2 lk.rho o.dst=false:=by rw[f1.hit];exact hit
   have dR:=f1.inv _ _ hR;cases hc:bU st.rho p with
   |true=>
    simp only[if_true];have Ji:bU lk.rho p=true:=by rw[f1.cond];exact hc
    refine .inl (TX s1 Cb Ji rfl (l1 hc) fun s ak V' D' w' ⟨hs,hK⟩ gi ga gv=> ?_);rw[<- gi] at Cb Io dR;obtain⟨h1,h2⟩:=zd (i:=i) ga dR hd Io Cb hs (v:=den V' s) (fun _=>rfl);exact hn _ _ _ _ _ hK h1 h2 (by rw[ly.2.1,ly.2.2];exact(f1.step V).trans gv)
   |false=>
    simp only[Bool.false_eq_true,if_false];obtain⟨h1,h2⟩:=zd (i:=i) s1 dR hd Io Cb (s:= .v undef) trivial (v:=undef) (fun _=>rfl);exact hn _ _ _ _ _ (d1 hc) h1 h2 (by rw[ly.2.1,ly.2.2];exact f1.step V)
 ·cases h
/-! The whole region. -/
theorem TR {y x:Nat} {l:List Nat} (h:ja (y::l) x=false):y≠x/\ja l x=false:=by
 simp only[ja] at h;split at h
 ·cases h
 ·rename_i e;exact⟨e,h⟩
theorem Dr:∀{env:List Ev} {dead:List Nat} {t:Nat} {s:SV},fS (mU dead env) t []=some s->ja dead t=false/\fS env t []=some s
 |[],dead,t,s,h=>by simp [mU,fS] at h
 |⟨t',[],s'⟩::r,dead,t,s,h=>by
  simp only[mU] at h;split at h
  ·rename_i hm;obtain⟨h1,h2⟩:=Dr h;refine⟨h1,?_⟩;simp only[fS];rw[ae (fun e=>by rw[e,h1] at hm;cases hm)];exact h2
  ·rename_i hm;simp only[fS] at h ⊢;split at h
   ·rename_i e;subst e;rw[aj rfl];exact⟨by simpa using hm,h⟩
   ·rename_i e;rw[ae e];exact Dr h
 |⟨t',x::q,s'⟩::r,dead,t,s,h=>by
  simp only[mU] at h;obtain⟨h1,h2⟩:=Dr h;obtain⟨h3,h4⟩:=TR h1;refine⟨h4,?_⟩;simp only[fS];rw[ae h3];exact h2
theorem Ap:∀{env:List Ev} {dead:List Nat} {e:Ev},e∈mU dead env->e∈env/\e.p=[]
 |[],dead,e,h=>by simp [mU] at h
 |⟨t',[],s'⟩::r,dead,e,h=>by
  simp only[mU] at h;split at h
  ·obtain⟨h1,h2⟩:=Ap h;exact⟨cS _ h1,h2⟩
  ·rcases List.mem_cons.1 h with rfl |h
   ·exact⟨dz ..,rfl⟩
   ·obtain⟨h1,h2⟩:=Ap h;exact⟨cS _ h1,h2⟩
 |⟨t',x::q,s'⟩::r,dead,e,h=>by
  simp only[mU] at h;obtain⟨h1,h2⟩:=Ap h;exact⟨cS _ h1,h2⟩
theorem FL (hS:Sat C n st a V D w):jO C n (clean st) a w:=by
 refine⟨rfl,V,D,⟨hS.f.defers,hS.f.size,fun e he=> ?_,fun t q s hq hl _=> ?_,fun g hg=>by cases hg⟩,fun e he=>hS.ids e (Ap he).1,hS.w⟩
 ·rw[(Ap he).2];exact qK
 ·have:q=[]:=by
   cases q with
   |nil=>rfl
   |cons x q=>obtain⟨g,hg⟩:=hq x (dz ..);cases hg
  subst this;exact hS.f.env t [] s qK (Dr hl).2 rfl
end
section
variable {C:Ctx} {n:Nat} {P:Program} {c:Cfg} {ops:Array Oper}
theorem Ki (dQ:cK c P) {K:LS->Prop} {Q:Exit->Act->World->Prop} (hQ:∀ak a' w',K ak->jO C n ak a' w' ->Q .normal a' w'):
  ∀(l:List Oper) (i:Nat) (st:LS) (a:Act) (V:Vl) (D:Nat->Nat) (w:World),Bn c P l i K st->Sat C n st a V D w->RInv ops (· <i) st.rho->(∀j,l[j]? =ops[i+j]?)->(∀o∈l,mq n o=true)->wpList P ops Q l a w
 |[],i,st,a,V,D,w,h,hS,hR,hl,hd=>hQ _ _ _ h (FL hS)
 |o::r,i,st,a,V,D,w,h,hS,hR,hl,hd=>by
  obtain⟨p,hp,h⟩:=aG h;have im:ops[i]? =some o:=by have:=hl 0;simpa using this.symm
  unfold wpList;refine La hS dQ hR (Nat.lt_irrefl _) im (hd o (dz ..)) hp h fun ak a' V' D' w' hK ga uH _=> ?_
  exact Ki dQ hQ r (i+1) ak a' V' D' w' hK ga (uH.mono fun k hk=>by omega) (fun j=>by have:=hl (j+1);simpa [Nat.add_assoc,Nat.add_comm 1 j] using this) (fun o ho=>hd o (cS _ ho))
end
def iW (n:Nat):Code->Bool
 | .region _ ops _=>ops.toList.all (mq n)
 | .seq a b=>iW n a&&iW n b
 | .cond _ a b=>iW n a&&iW n b
 | .block _ a=>iW n a
 | .loop a=>iW n a
 | .scope a=>iW n a
 | .rangeFunc .. =>false
 |_=>true
theorem R7 {V:Vl} {s:SV} {b:Bool} (h:sd s=some b):den V s= .bool b:=by
 cases s with
 |v x=>cases x<;>simp only[sd,dy,reduceCtorEq] at h;subst h;rfl
 |_=>simp [sd] at h
section
variable {P:Program} {n:Nat} {c:Cfg}
theorem Zu {a b:Code} {K:LS->Prop} {Q:Exit->LS->Prop} {st:LS} (ha:WP P n a (jI K Q) st) (hb:∀st,K st->WP P n b Q st):WP P n (.seq a b) Q st:=by
 intro C a' w hE;refine wp_seq (wp_mono (ha C a' w hE) ?_);rintro e a2 w2 ⟨bR,bQ,hq⟩;cases e with
 |normal=>exact hb bR hq C a2 w2 bQ
 |exit id=>exact⟨bR,bQ,hq⟩
 |goto l=>exact⟨bR,bQ,hq⟩
 |ret=>exact⟨bR,bQ,hq⟩
 |panic ch=>exact⟨bR,bQ,hq⟩
 |outgrown=>exact⟨bR,bQ,hq⟩
theorem X6 {x:Operand} {a b:Code} {Q:Exit->LS->Prop} {st:LS} {s:SV} {t:Bool} (hr:cD st [] x=some s) (hs:sd s=some t) (ha:t=true->WP P n a Q st) (hb:t=false->WP P n b Q st):WP P n (.cond x a b) Q st:=by
 intro C a' w hE;obtain⟨_,V,D,hS⟩:=id hE;have:=dw hS qK rfl hr;rw[R7 hs] at this;exact wp_cond_split this (fun h=>ha h C a' w hE) (fun h=>hb h C a' w hE)
theorem Wo {id:Nat} {a:Code} {Q:Exit->LS->Prop} {st:LS} (ha:WP P n a (pV id Q) st):WP P n (.block id a) Q st:=by
 intro C a' w hE;refine wp_block (wp_mono (ha C a' w hE) ?_);rintro e a2 w2 ⟨bR,bQ,hq⟩;cases e with
 |exit id' =>
  simp only[pV] at hq;simp only[Exit.inBlock];split at hq
  ·rename_i h;rw[aj h];exact⟨bR,bQ,hq⟩
  ·rename_i h;rw[ae h];exact⟨bR,bQ,hq⟩
 |normal=>exact⟨bR,bQ,hq⟩
 |goto l=>exact⟨bR,bQ,hq⟩
 |ret=>exact⟨bR,bQ,hq⟩
 |panic ch=>exact⟨bR,bQ,hq⟩
 |outgrown=>exact⟨bR,bQ,hq⟩
theorem Ul (dQ:cK c P) {id:Nat} {l:List Oper} {Q:Exit->LS->Prop} {st:LS} (hd:l.all (mq n)=true) (h:Bn c P l 0 (Q .normal) st):WP P n (.region id ⟨l⟩ false) Q st:=by
 rintro C a' w ⟨gi,V,D,hS⟩;refine wp_region_list ?_;refine Ki (ops:=⟨l⟩) dQ (fun ak a' w' hq hE=>⟨ak,hE,hq⟩) l 0 st a' V D w h hS ?_ (fun j=>by simp) (fun o ho=> ?_)
 ·rw[gi];intro g hg;cases hg
 ·exact List.all_eq_true.1 hd o ho
theorem R3 (dQ:cK c P):∀(x:Code) (Q:Exit->LS->Prop) (st:LS),iW n x=true->my c P n x Q st->WP P n x Q st:=by
 intro x;induction x with
 |skip=>exact fun Q st _ h C a w hE=>wp_skip ⟨st,hE,h⟩
 |region id ops draw=>
  intro Q st hd h;obtain⟨l⟩:=ops;cases draw with
  |false=>exact Ul dQ hd h
  |true=>exact h
 |seq a b iha ihb=>
  intro Q st hd h;simp only[iW,cY] at hd;have gen:my c P n a (jI (my c P n b Q) Q) st->WP P n (.seq a b) Q st:=fun h=>Zu (iha _ st hd.1 h) fun ak h' =>ihb Q ak hd.2 h'
  cases a with
  |cond x t e=>
   simp only[my] at h;split at h
   ·exact h
   ·exact gen h
  |_=>exact gen h
 |cond x a b iha ihb=>
  intro Q st hd h;simp only[iW,cY] at hd;obtain⟨t,ht,h1,h2⟩:=aG h;obtain⟨s,hs,ht⟩:=uM ht;exact X6 hs ht (fun e=>iha Q st hd.1 (h1 e)) (fun e=>ihb Q st hd.2 (h2 e))
 |block id a ih=>
  intro Q st hd h;exact Wo (ih _ st hd h)
 |exit id=>exact fun Q st _ h C a w hE=>wp_exit ⟨st,hE,h⟩
 |ret=>exact fun Q st _ h C a w hE=>wp_ret ⟨st,hE,h⟩
 |loop a ih=>exact fun Q st _ h=>h
 |scope a ih=>exact fun Q st _ h=>h
 |rangeFunc f ps a b _ _=>exact fun Q st _ h=>h
 |label l=>exact fun Q st _ h C a w hE=>wp_label ⟨st,hE,h⟩
 |refuse _=>exact fun Q st _ h=>h
 |goto l=>exact fun Q st _ h C a w hE=>wp_goto ⟨st,hE,h⟩
theorem qD (dQ:cK c P) {x:Code} {Q:Exit->LS->Prop} {st:LS} (hd:iW n x=true) (h:dK (.mk (k:=(c,P,n,x,Q)) st)):WP P n x Q st:=R3 dQ x Q st hd h
end
/-! A function. -/
section
variable {C:Ctx} {n:Nat} {st:LS} {a:Act} {V:Vl} {D:Nat->Nat} {w:World} {P:Program} {c:Cfg}
theorem S7 (ad:Addr):(asAddr (.pointer (some ad))).run P w= .ok ad w:=rfl
def DT (tmps:Array Value):ResultVar->Sem Value
 | .tmp t=>pure (tmps.getD t undef)
 | .cell b t=>do loadVar t (<- asAddr (tmps.getD b undef))
theorem GO (hS:Sat C n st a V D w):∀{res:List ResultVar} {l:List SV},pr P st res=some l->
  (res.mapM (DT a.tmps)).run P w= .ok (l.map (mE V)) w/\∀s∈l,den V s=mE V s
 |[],l,h=>by
  simp only[pr,dy] at h;subst h;exact⟨rfl,fun s hs=>by cases hs⟩
 | .tmp t::r,l,h=>by
  simp only[pr,Option.bind_eq_some_iff,Option.map_eq_some_iff] at h;obtain⟨s,⟨s0,nw,hs⟩,l',kv,rfl⟩:=h;obtain⟨h1,h2⟩:=GO hS kv;have Ce:=Gm (V:=V) hs;have oG:s=s0:=by cases s0<;>simp_all [mY]
  subst oG;have ht:=hS.env t [] s qK nw rfl;refine⟨?_,fun x hx=> ?_⟩
  ·simp only[List.mapM_cons,DT,Sem.run_bind,Sem.run_pure,Result.andThen_ok,h1,br];simp [Array.getD_eq_getD_getElem?,ht,Ce]
  ·rcases List.mem_cons.1 hx with rfl |hx
   ·exact Ce
   ·exact h2 x hx
 | .cell b t::r,l,h=>by
  simp only[pr,Option.bind_eq_some_iff,Option.map_eq_some_iff] at h;obtain⟨s,⟨s0,nw,hs⟩,l',kv,rfl⟩:=h;obtain⟨h1,h2⟩:=GO hS kv;have Ce:=Gm (V:=V) hs;have oG:s=s0:=by cases s0<;>simp_all [mY]
  subst oG;unfold Ep at nw;split at nw
  ·rename_i k o hk;have ht:=hS.env b [] _ qK hk rfl;simp only[Option.bind_eq_some_iff] at nw;obtain⟨bx,Cn,nw⟩:=nw;split at nw;case isFalse=>cases nw
   rename_i cZ;simp only[Option.bind_eq_some_iff] at nw;obtain⟨ag,ji,pB⟩:=nw;have aae:o6 (.mk (k:=(P,t,U true,fun s' =>s' =s)) (st,.box k o)):=by
    simp only[o6,Cn,aI,ji,pB,cZ,true_and]
   obtain⟨r',rfl,hy⟩:=J4 hS aae;have hy:=hy rfl;simp only[yK,Instr.loadAt,Instr.sureAddr,Sem.run_bind,Sem.run_pure,Result.andThen_ok] at hy;refine⟨?_,fun x hx=> ?_⟩
   ·simp only[List.mapM_cons,DT,Sem.run_bind,Sem.run_pure,Result.andThen_ok,br];have:a.tmps.getD b undef= .pointer (some ⟨V.β k,o,none⟩):=by simp [Array.getD_eq_getD_getElem?,ht,yK]
    rw[this,S7];simp only[Result.andThen_ok,hy,h1,Ce]
   ·rcases List.mem_cons.1 hx with rfl |hx
    ·exact Ce
    ·exact h2 x hx
  ·cases nw
theorem Re (hS:Sat C n st a V D w) {fn:Func} {res:List ResultVar} (hr:fn.results=⟨res⟩) {l:List SV} (h:pr P st res=some l):(results fn a.tmps).run P w= .ok (den V (xa l)) w:=by
 obtain⟨h1,h2⟩:=GO hS h
 have hf:results fn a.tmps=(do
   let vs <- fn.results.mapM (DT a.tmps)
   pure (if h:vs.size=1 then vs[0] else .tuple vs)):=by
  unfold results;congr 1
 rw[hf,hr];simp only[List.mapM_toArray,Sem.run_bind,Sem.run_map,h1,Result.andThen_ok,Sem.run_pure,List.size_toArray,List.length_map];cases l with
 |nil=>rfl
 |cons s r=>
  cases r with
  |nil=>
   simp only[cv,eM,Nat.zero_add,dite_true,br,List.map_nil,xa];simp [h2 s (dz ..)]
  |cons s' r=>
   have:¬((s::s' ::r).length=1):=by simp
   simp only[dif_neg this];rfl
end
theorem NK:∀{l:List SV} {i t:Nat} {q:bt} {s:SV},fS (uh i l) t q=some s->i<=t/\l[t - i]? =some s
 |[],i,t,q,s,h=>by simp [uh,fS] at h
 |x::r,i,t,q,s,h=>by
  simp only[uh,fS] at h;split at h
  ·rename_i e;subst e;split at h
   ·cases h;exact⟨aq _,by simp⟩
   ·cases h
  ·rename_i e;obtain⟨h1,h2⟩:=NK h;refine⟨by omega,?_⟩;have:t - i=(t - (i+1))+1:=by omega
   rw[this,List.getElem?_cons_succ];exact h2
theorem G4:∀{l:List SV} {i:Nat} {e:Ev},e∈uh i l->e.p=[]/\e.s∈l
 |[],i,e,h=>by simp [uh] at h
 |x::r,i,e,h=>by
  rcases List.mem_cons.1 h with rfl |h
  ·exact⟨rfl,dz ..⟩
  ·obtain⟨h1,h2⟩:=G4 h;exact⟨h1,cS _ h2⟩
theorem Mf {nid:Nat} {vc:List Vc}:∀{l:List SV},Bq nid vc l->∀s∈l,jg nid vc s
 |x::r,h,s,hs=>by
  rcases List.mem_cons.1 hs with rfl |hs
  ·exact h.1
  ·exact Mf h.2 s hs
theorem DD:∀{bx:List Bx} {b:Bx},b∈bx->b.id<ng bx
 |⟨k,t,cs⟩::r,b,h=>by
  simp only[ng];rcases List.mem_cons.1 h with rfl |h
  ·simp only;omega
  ·have:=DD h;omega
theorem DC:∀{vc:List Vc} {b:Vc},b∈vc->b.id<nf vc
 |⟨k,u,e,z,n,xs⟩::r,b,h=>by
  simp only[nf];rcases List.mem_cons.1 h with rfl |h
  ·simp only;omega
  ·have:=DC h;omega
section
variable {P:Program} {c:Cfg}
theorem Ds {V:Vl} {bx qB:List Bx} {vc eJ:List Vc} (hb:∀b∈qB,b∈bx) (hv:∀b∈eJ,b∈vc):∀g∈a7 V ⟨qB,eJ⟩,g∈a7 V ⟨bx,vc⟩:=fun g hg=>by
 simp only[a7,List.mem_append,List.mem_map,List.mem_filterMap] at hg ⊢;rcases hg with ⟨x,hx,e⟩ |⟨x,hx,e⟩
 ·exact .inl ⟨x,hb x hx,e⟩
 ·exact .inr ⟨x,hv x hx,e⟩
theorem SA {L:List Nat} {bx:List Bx} {b:Bx} (h:b∈gd L bx):b∈bx:=by
 rw[Ah,List.mem_filter] at h;exact h.1
theorem OF {f:FuncId} {fn:Func} {code:Code} {res:List ResultVar} {args:List SV} {H:Hp} {m:Mem} {R:SV->Hp->Mem->Prop}
  (hf:P.funcs[f]? =some fn) (hb:fn.body=some code) (hr:fn.results=⟨res⟩) (hl:args.length<=fn.ntmps) (ax:DV args H)
  (h:WP P fn.ntmps code (zu P res (zq H) R) (BJ args H m)):FnH P f args H m R:=by
 intro V w D j8 hm hH;refine calls_of_wp hf hb ?_;have j9:((⟨args.map (den V)⟩:Array Value)++Array.replicate (fn.ntmps - (⟨args.map (den V)⟩:Array Value).size) undef).size=fn.ntmps:=by
  simp only[Array.size_append,List.size_toArray,List.length_map,Array.size_replicate];omega
 have hS:Sat ⟨w,D,(· ∈a7 V H),H,V,m⟩ fn.ntmps (BJ args H m) {tmps:=(⟨args.map (den V)⟩:Array Value)++Array.replicate (fn.ntmps - (⟨args.map (den V)⟩:Array Value).size) undef,defers:=[]} V D w:=by
  refine⟨⟨rfl,j9,fun e he=> ?_,fun t q s hq kP _=> ?_,fun g hg=>by cases hg⟩,fun e he=>Mf ax.1 _ (G4 he).2,?_⟩
  ·rw[(G4 he).1];exact qK
  ·obtain⟨_,h2⟩:=NK kP;have ao:t<args.length:=(List.getElem?_eq_some_iff.1 h2).1;simp only[Nat.sub_zero] at h2;rw[Array.getElem?_append_left (by simpa using ao)];simp [h2]
  ·refine⟨hH,j8,Frm.refl _ _ _,fun b hb=> .inl hb,fun b hb=>⟨rfl,?_⟩,fun b hb=>⟨fun _ _=>rfl,?_,uN hH.uniq hb⟩,⟨fun b hb=>⟨?_,Gk ax.2 b hb⟩,fun b hb=> ?_⟩,Mem.le_refl _ j8,
    fun b=>⟨aq _,fun h0=>⟨((hm b).2 h0).1,tc rfl⟩⟩,hm⟩
   ·exact ej (DD hb) (Nat.le_max_left _ _)
   ·exact ej (DC hb) (Nat.le_max_right _ _)
   ·exact ej (DD hb) (Nat.le_max_left _ _)
   ·exact ej (DC hb) (Nat.le_max_right _ _)
 refine wp_mono (h _ _ _ ⟨rfl,V,D,hS⟩) ?_;rintro e a2 w2 ⟨bR,⟨gi,V2,D2,hS2⟩,hq⟩;have fin:∀l:List SV,pr P bR res=some l->R (xa l) ⟨gd (tv bR.bx (oA (zq H) l)) bR.bx,fL (tv bR.bx (oA (zq H) l)) bR.vc⟩ bR.m->
   a2.defers=[]/\∃v,(results fn a2.tmps).run P w2= .ok v w2/\∃(r:SV) (V' :Vl) (D' :Nat->Nat) (H' :Hp) (m' :Mem),
   Ending.returned v= .returned (den V' r)/\Wf w2 D' /\HSat V' D' w2 H' /\(∀b∈H.bx,V'.β b.id=V.β b.id)/\(∀b∈H.vc,∀u,u<=b.ver->V'.γ b.id u=V.γ b.id u)/\
   Frm (· ∈a7 V H) w D w2 D' /\(∀b∈a7 V' H',b∈a7 V H\/w.heap.size<=b)/\
   Mem.le ⟨w,D⟩ ⟨w2,D'⟩/\m.le m' /\m'.le ⟨w2,D'⟩/\R r H' m' :=by
  intro l hl hR;have hW:=hS2.w;refine⟨hS2.f.defers,_,Re hS2 hr hl,xa l,V2,D2,_,bR.m,rfl,hW.wf,(CO _ hW.heap).app.1,fun b hb=>(hW.baseB b hb).1,fun b hb=>(hW.baseV b hb).1,hW.frm,fun b hb=> ?_,hW.le0,hW.m0,hW.mle,hR⟩;exact hW.own b (Ds (fun x hx=>SA hx) (fun x hx=>(uQ hx).1) b hb)
 cases e with
 |normal=>obtain⟨l,hl,hR⟩:=aG hq;exact fin l hl hR
 |ret=>obtain⟨l,hl,hR⟩:=aG hq;exact fin l hl hR
 |exit id=>exact hq.elim
 |goto l=>exact hq.elim
 |panic ch=>exact hq.elim
 |outgrown=>exact hq.elim
theorem enter (cf:Cfg) (dQ:cK cf P) {f:FuncId} {fn:Func} {code:Code} {res:List ResultVar} {args:List SV} {H:Hp} {m:Mem} {R:SV->Hp->Mem->Prop}
  (hf:P.funcs[f]? =some fn) (hb:fn.body=some code) (hr:fn.results=⟨res⟩) (hd:iW fn.ntmps code=true) (hl:Nat.ble args.length fn.ntmps=true) (ax:DV args H)
  (h:dK (.mk (k:=(cf,P,fn.ntmps,code,zu P res (zq H) R)) (BJ args H m))):FnH P f args H m R:=
 OF hf hb hr (dL hl) ax (qD dQ hd h)
theorem FnH.mono {f:FuncId} {args:List SV} {H:Hp} {m:Mem} {R R' :SV->Hp->Mem->Prop} (h:FnH P f args H m R) (hR:∀r H' m',m.le m' ->R r H' m' ->R' r H' m'):FnH P f args H m R' :=
 fun V w D h1 h2 h3=>(h V w D h1 h2 h3).mono fun e w2 ⟨r,V',D',H',m',e1,e2,e3,e4,e5,e6,e7,e8,e9,gQ,ke⟩=>⟨r,V',D',H',m',e1,e2,e3,e4,e5,e6,e7,e8,e9,gQ,hR r H' m' e9 ke⟩
theorem tfi (p:Prop):(true=false->p)=True:=eq_true fun h=>by cases h
theorem fti (p:Prop):(false=true->p)=True:=eq_true fun h=>by cases h
theorem dh {f:FuncId} {args:List SV} {H:Hp} {m:Mem} {R:SV->Hp->Mem->Prop} (h:FnH P f args H m R):Fq (.mk (k:=(P,f,R)) (args,H,m)):=h
theorem WP.mono {n:Nat} {x:Code} {Q Q' :Exit->LS->Prop} {st:LS} (h:WP P n x Q st) (hQ:∀e ak,Q e ak->Q' e ak):WP P n x Q' st:=
 fun C a w hE=>wp_mono (h C a w hE) fun e _ _ ⟨ak,h1,h2⟩=>⟨ak,h1,hQ e ak h2⟩
end
theorem ab {P:Program} {f:FuncId} {args:List SV} {H:Hp} {m:Mem} {R:SV->Hp->Mem->Prop} (h:FnH P f args H m R) (hk:iJ P f=true:=by kernel_rfl):iJ P f=true/\Fq (.mk (k:=(P,f,R)) (args,H,m)):=⟨hk,dh h⟩
attribute [go_sem ↓] tfi fti reduceIte
theorem aL {P:Program} {cf:Cfg} (dQ:cK cf P) {f:FuncId} {fn:Func} {code:Code} {res:List ResultVar} {args:List SV} {H:Hp} {m:Mem} {R:SV->Hp->Mem->Prop} (hf:P.funcs[f]? =some fn) (h:dK (.mk (k:=(cf,P,fn.ntmps,code,zu P res (zq H) R)) (BJ args H m))) (hb:fn.body=some code:=by rfl) (hr:fn.results=⟨res⟩:=by rfl) (hd:iW fn.ntmps code=true:=by kernel_rfl) (hl:Nat.ble args.length fn.ntmps=true:=by rfl) (ax:DV args H:=by simp only[go_sem]):FnH P f args H m R:=enter cf dQ hf hb hr hd hl ax h
/-! The head of a loop. -/
theorem Mt {st:LS}:∀{l:List Ev},zk st l->∀e∈l,fS st.env e.t []=some e.s/\e.p=[]
 |⟨t,p,s⟩::r,h,e,he=>by
  rcases List.mem_cons.1 he with rfl |he
  ·exact⟨h.1,h.2.1⟩
  ·exact Mt h.2.2 e he
theorem Nn {st:LS}:∀{l:List Ev},zk st l->∀{t:Nat} {s:SV},fS l t []=some s->fS st.env t []=some s
 |⟨t',p',s'⟩::r,h,t,s,hl=>by
  simp only[fS] at hl;split at hl
  ·rename_i e;subst e;split at hl
   ·cases hl;exact h.1
   ·cases hl
  ·exact Nn h.2.2 hl
theorem VA {l:List Bx} {k:Nat} (h:ie l k=none):∀b∈l,b.id≠k:=by
 induction l with
 |nil=>intro b hb;cases hb
 |cons x r ih=>
  obtain⟨i',t',p'⟩:=x;simp only[ie] at h;split at h
  ·cases h
  ·rename_i e;intro b hb;rcases List.mem_cons.1 hb with rfl |hb
   ·exact e
   ·exact ih h b hb
theorem Hm {st:LS}:∀{l:List Bx},rK st l->(∀b∈l,b∈st.bx)/\(l.map (·.id)).Nodup
 |[],_=>⟨fun b hb=>(by cases hb),List.nodup_nil⟩
 |⟨k,t,cs⟩::r,h=>by
  obtain⟨h1,h2,h3⟩:=h;obtain⟨i1,i2⟩:=Hm h3;refine⟨fun b hb=> ?_,?_⟩
  ·rcases List.mem_cons.1 hb with rfl |hb
   ·exact(tE h1).2
   ·exact i1 b hb
  ·simp only[br,List.nodup_cons];refine⟨fun hm=> ?_,i2⟩;obtain⟨b,hb,e⟩:=List.mem_map.1 hm;exact VA h2 b hb e
theorem Vy {l:List Vc} {k:Nat} {b:Vc} (h:mC l k=some b):b.id=k/\b∈l:=by
 induction l with
 |nil=>cases h
 |cons x r ih=>
  obtain⟨i',u',e',z',n',x'⟩:=x;simp only[mC] at h;split at h
  ·rename_i e;cases h;exact⟨e,dz ..⟩
  ·exact⟨(ih h).1,cS _ (ih h).2⟩
theorem TU {l:List Vc} {k:Nat} (h:mC l k=none):∀b∈l,b.id≠k:=by
 induction l with
 |nil=>intro b hb;cases hb
 |cons x r ih=>
  obtain⟨i',u',e',z',n',x'⟩:=x;simp only[mC] at h;split at h
  ·cases h
  ·rename_i e;intro b hb;rcases List.mem_cons.1 hb with rfl |hb
   ·exact e
   ·exact ih h b hb
theorem Hl {st:LS}:∀{l:List Vc},rJ st l->(∀b∈l,b∈st.vc)/\(l.map (·.id)).Nodup
 |[],_=>⟨fun b hb=>(by cases hb),List.nodup_nil⟩
 |⟨k,u,e,z,n,xs⟩::r,h=>by
  obtain⟨h1,h2,h3⟩:=h;obtain⟨i1,i2⟩:=Hl h3;refine⟨fun b hb=> ?_,?_⟩
  ·rcases List.mem_cons.1 hb with rfl |hb
   ·exact(Vy h1).2
   ·exact i1 b hb
  ·simp only[br,List.nodup_cons];refine⟨fun hm=> ?_,i2⟩;obtain⟨b,hb,e⟩:=List.mem_map.1 hm;exact TU h2 b hb e
theorem yr {vc:List Vc} (hu:(vc.map (·.id)).Nodup) {k u:Nat}:bS vc k u↔∀b∈vc,b.id=k->u<=b.ver:=by
 induction vc with
 |nil=>simp [bS]
 |cons x r ih=>
  obtain⟨i',u',e',z',n',x'⟩:=x;simp only[br,List.nodup_cons] at hu;simp only[bS];split
  ·rename_i e;subst e;constructor
   ·intro h b hb e;rcases List.mem_cons.1 hb with rfl |hb
    ·exact h
    ·exact absurd (List.mem_map.2 ⟨b,hb,e⟩) hu.1
   ·exact fun h=>h _ (dz ..) rfl
  ·rename_i e;rw[ih hu.2];constructor
   ·intro h b hb e';rcases List.mem_cons.1 hb with rfl |hb
    ·exact absurd e' e
    ·exact h b hb e'
   ·exact fun h b hb=>h b (cS _ hb)
theorem Gl {α β:Type} {f:α->β}:∀{l:List α},(l.map f).Nodup->∀x∈l,∀y∈l,f x=f y->x=y
 |a::r,h,x,hx,y,hy,e=>by
  simp only[br,List.nodup_cons] at h;rcases List.mem_cons.1 hx with rfl |cB
  ·rcases List.mem_cons.1 hy with rfl |bb
   ·rfl
   ·exact absurd (List.mem_map.2 ⟨y,bb,e.symm⟩) h.1
  ·rcases List.mem_cons.1 hy with rfl |bb
   ·exact absurd (List.mem_map.2 ⟨x,cB,e⟩) h.1
   ·exact Gl h.2 x cB y bb e
theorem Gp {α β γ:Type} {f:α->β} {g:α->γ}:∀{l:List α},(l.map g).Nodup->(∀x∈l,∀y∈l,f x=f y->x=y)->(l.map f).Nodup
 |[],_,_=>List.nodup_nil
 |a::r,h,hi=>by
  simp only[br,List.nodup_cons] at h ⊢;refine⟨fun hm=> ?_,Gp h.2 fun x hx y hy=>hi x (cS _ hx) y (cS _ hy)⟩;obtain⟨b,hb,e⟩:=List.mem_map.1 hm;have:=hi b (cS _ hb) a (dz ..) e;subst this;exact h.1 (List.mem_map.2 ⟨b,hb,rfl⟩)
theorem Fs {α β γ:Type} {f:α->Option β} {g:α->γ}:∀{l:List α},(l.map g).Nodup->(∀x∈l,∀y∈l,∀b,f x=some b->f y=some b->x=y)->(l.filterMap f).Nodup
 |[],_,_=>List.nodup_nil
 |a::r,h,hi=>by
  simp only[br,List.nodup_cons] at h;have ih:=Fs (f:=f) h.2 fun x hx y hy=>hi x (cS _ hx) y (cS _ hy)
  rw[List.filterMap_cons];split
  ·exact ih
  ·rename_i b hb;refine List.nodup_cons.2 ⟨fun hm=> ?_,ih⟩;obtain⟨x,hx,e⟩:=List.mem_filterMap.1 hm;have:=hi x (cS _ hx) a (dz ..) b e hb;subst this;exact h.1 (List.mem_map.2 ⟨x,hx,rfl⟩)
theorem Mm {nid:Nat} {vc:List Vc}:∀{l:List Ev},Br nid vc l->∀e∈l,jg nid vc e.s
 |⟨t,p,s⟩::r,h,e,he=>by
  rcases List.mem_cons.1 he with rfl |he
  ·exact h.1
  ·exact Mm h.2 e he
theorem Ml {nid:Nat} {vc:List Vc}:∀{l:List Bx},zi nid vc l->∀b∈l,b.id<nid/\fy nid vc b.cs
 |⟨k,t,cs⟩::r,h,b,hb=>by
  rcases List.mem_cons.1 hb with rfl |hb
  ·exact⟨h.1,h.2.1⟩
  ·exact Ml h.2.2 b hb
theorem Mk {nid:Nat}:∀{l:List Vc},zh nid l->∀b∈l,b.id<nid
 |⟨k,_,_,_,_,_⟩::r,h,b,hb=>by
  rcases List.mem_cons.1 hb with rfl |hb
  ·exact h.1
  ·exact Mk h.2 b hb
section
variable {C:Ctx} {n:Nat} {st ak:LS} {a:Act} {V:Vl} {D:Nat->Nat} {w:World} {P:Program} {c:Cfg}
theorem Of {m m' jo:Mem} (h:an m m') (h' :m'.le jo):m.le jo:=by
 rcases h with rfl |h
 ·exact h'
 ·exact Mem.le_trans h h'
theorem Sat.weaken (hS:Sat C n st a V D w) (hM:Match st ak) (ax:pv ak) (hB:∀b∈C.H0.bx,b.id<ak.nid) (hV:∀b∈C.H0.vc,b.id<ak.nid) (hm:C.m0.le ak.m):Sat C n ak a V D w:=by
 obtain⟨h1,h2,h3,h4,h5⟩:=hM;obtain⟨rV,hbu⟩:=Hm h3;obtain⟨lq,hvu⟩:=Hl h4;have hW:=hS.w;have qx:=hW.heap.apart;have xj:=List.nodup_append.1 qx;refine⟨⟨hS.f.defers,hS.f.size,fun e he=> ?_,fun t q s hq hl _=> ?_,fun g hg=>by rw[h2] at hg;cases hg⟩,Mm ax.1,?_⟩
 ·rw[(Mt h1 e he).2];exact qK
 ·have:q=[]:=by
   cases q with
   |nil=>rfl
   |cons x q=>obtain⟨g,hg⟩:=hq x (dz ..);rw[h2] at hg;cases hg
  subst this;exact hS.env t [] s qK (Nn h1 hl) rfl
 ·refine⟨⟨fun b hb=>hW.heap.bx b (rV b hb),fun b hb=>hW.heap.vc b (lq b hb),?_,hvu⟩,hW.wf,hW.frm,fun g hg=>hW.own g (Ds rV lq g hg),fun b hb=>⟨(hW.baseB b hb).1,hB b hb⟩,
   fun b hb=>⟨(hW.baseV b hb).1,hV b hb,?_⟩,⟨Ml ax.2.1,Mk ax.2.2⟩,hW.le0,hm,Of h5 hW.mle⟩
  ·refine List.nodup_append.2 ⟨?_,?_,fun x hx y hy=> ?_⟩
   ·exact Gp hbu fun x hx y hy e=>Gl xj.1 x (rV x hx) y (rV y hy) e
   ·exact Fs hvu fun x hx y hy b e1 e2=>Dv (lq x hx) (lq y hy) e1 e2 xj.2.1
   ·refine xj.2.2 x ?_ y ?_
    ·obtain⟨z,hz,e⟩:=List.mem_map.1 hx;exact List.mem_map.2 ⟨z,rV z hz,e⟩
    ·obtain⟨z,hz,e⟩:=List.mem_filterMap.1 hy;exact List.mem_filterMap.2 ⟨z,lq z hz,e⟩
  ·refine(yr hvu).2 fun x hx e=> ?_
   exact(yr hW.heap.uniq).1 (hW.baseV b hb).2.2 x (lq x hx) e
theorem fg (dQ:cK c P) {body:Code} {Q:Exit->LS->Prop} {X:Type} (S:X->LS) (I:X->Prop) (μ:X->Nat) (x0:X)
  (hd:iW n body=true) (hn:∀x,I x->st.nid<=(S x).nid) (hm:∀x,I x->an st.m (S x).m) (ax:∀x,pv (S x)) (h0:Match st (S x0)) (hI:I x0)
  (round:∀x,I x->dK (.mk (k:=(c,P,n,body,jI (fun ak=>∃x',Match ak (S x')/\I x' /\μ x' <μ x) Q)) (S x))):jR (.mk (k:=(P,n,.loop body,Q)) st):=by
 rintro C a w ⟨gi,V,D,hS⟩;have hB:∀b∈C.H0.bx,b.id<st.nid:=fun b hb=>(hS.w.baseB b hb).2
 have hV:∀b∈C.H0.vc,b.id<st.nid:=fun b hb=>(hS.w.baseV b hb).2.1
 have Cg:∀x,I x->C.m0.le (S x).m:=fun x hx=>by
  rcases hm x hx with e |h
  ·rw[<- e];exact hS.w.m0
  ·exact Mem.le_trans hS.w.m0 h
 have vv:∀(lk:LS) (a1:Act) (w1:World) (x:X),jO C n lk a1 w1->Match lk (S x)->I x->jO C n (S x) a1 w1:=by
  rintro lk a1 w1 x ⟨_,V1,D1,hS1⟩ hM hx;exact⟨hM.2.1,V1,D1,hS1.weaken hM (ax x) (fun b hb=>ej (hB b hb) (hn x hx)) (fun b hb=>ej (hV b hb) (hn x hx)) (Cg x hx)⟩
 refine wp_loop_ghost (fun k a w=>∃x,I x/\μ x=k/\jO C n (S x) a w) (μ x0) ⟨x0,hI,rfl,vv _ _ _ _ ⟨gi,V,D,hS⟩ h0 hI⟩ ?_;rintro k a1 w1 ⟨x,hx,rfl,hE⟩;refine wp_mono (qD dQ hd (round x hx) C a1 w1 hE) ?_;rintro e a2 w2 ⟨bR,bQ,hq⟩;cases e with
 |normal=>
  obtain⟨x',hM,cB,ao⟩:=hq;exact⟨μ x',ao,x',cB,rfl,vv _ _ _ _ bQ hM cB⟩
 |exit id=>exact⟨bR,bQ,hq⟩
 |goto l=>exact⟨bR,bQ,hq⟩
 |ret=>exact⟨bR,bQ,hq⟩
 |panic ch=>exact⟨bR,bQ,hq⟩
 |outgrown=>exact⟨bR,bQ,hq⟩
end
theorem cO {P:Program} {c:Cfg} {n:Nat} {st:LS} (dQ:cK c P) {body:Code} {Q:Exit->LS->Prop} {X:Type} (S:X->LS) (I:X->Prop) (μ:X->Nat) (x0:X) (hn:∀x,I x->st.nid<=(S x).nid) (hm:∀x,I x->an st.m (S x).m) (h0:Match st (S x0)) (hI:I x0) (round:∀x,I x->dK (.mk (k:=(c,P,n,body,jI (fun ak=>∃x',Match ak (S x')/\I x' /\μ x' <μ x) Q)) (S x))) (hd:iW n body=true:=by kernel_rfl) (ax:∀x,pv (S x):=by intro _;simp only[go_sem]):jR (.mk (k:=(P,n,.loop body,Q)) st):=fg dQ S I μ x0 hd hn hm ax h0 hI round
def A.re {γ δ α:Type} {k:γ} (k' :δ):A k α->A k' α
 | .mk a=> .mk a
section
variable {P:Program} {op:BinOp} {t:TypeId} {k:IntKind} {u:Prop->Prop} {K:SV->Prop}
theorem wv {o:Option SV} (h:aI (.mk (k:=K) o)):∃s,K s/\aI (.mk (k:=(· =s)) o):=by
 obtain⟨s,rfl,h⟩:=aG h;exact Exists.intro s (And.intro h rfl)
theorem Aq:∀(x:A (k,u,K) Int),arith x->∃s,K s/\arith (x.re (k,u,(· =s))):=by
 rintro⟨n⟩ h;cases k<;>first
  |exact Exists.intro _ (And.intro h.2 (And.intro h.1 rfl))
  |exact Exists.intro _ (And.intro h rfl)
theorem Wh:∀(x:A (op,k,u,K) (Int×Int)),jm x->∃s,K s/\jm (x.re (op,k,u,(· =s))):=by
 rintro⟨a,b⟩ h;cases op;case add=>obtain⟨s,h1,h2⟩:=Aq _ h;exact Exists.intro s (And.intro h1 h2)
 case sub=>obtain⟨s,h1,h2⟩:=Aq _ h;exact Exists.intro s (And.intro h1 h2)
 case mul=>obtain⟨s,h1,h2⟩:=Aq _ h;exact Exists.intro s (And.intro h1 h2)
 case quo=>obtain⟨s,h1,h2⟩:=Aq _ h.2;exact Exists.intro s (And.intro h1 (And.intro h.1 h2))
 all_goals first
  |exact Exists.intro _ (And.intro h rfl)
  |exact Exists.intro _ (And.intro h.2 (And.intro h.1 rfl))
theorem We:∀(x:A (op,u,K) (List UInt8×List UInt8)),rq x->∃s,K s/\rq (x.re (op,u,(· =s))):=by
 rintro⟨a,b⟩ h;cases op;all_goals first
  |exact h.elim
  |exact Exists.intro _ (And.intro h rfl)
  |exact Exists.intro _ (And.intro h.2 (And.intro h.1 rfl))
theorem Dy:∀(x:A (op,K) Bool),ql x->∃s,K s/\ql (x.re (op,(fun s0:SV=>s0=s))):=by
 rintro⟨a⟩ h;cases op;all_goals first
  |exact h.elim
  |exact Exists.intro _ (And.intro h rfl)
theorem Wg:∀(x:A (P,op,t,u,K) (SV×SV)),qk x->∃s,K s/\qk (x.re (P,op,t,u,(· =s))):=by
 intro x h;unfold qk at h;split at h
 ·obtain⟨s,h1,h2⟩:=Wh _ h.2;exact Exists.intro s (And.intro h1 (And.intro h.1 h2))
 ·obtain⟨s,h1,h2⟩:=We _ h;exact Exists.intro s (And.intro h1 h2)
 ·obtain⟨s,h1,h2⟩:=Dy _ h.2;exact Exists.intro s (And.intro h1 (And.intro h.1 h2))
 ·obtain⟨h1,h2,h3⟩:=h;obtain⟨b,hb,h3⟩:=aG h3;obtain⟨s,h4,h5⟩:=Dy _ h3;exact Exists.intro s (And.intro h4 (And.intro h1 (And.intro h2 (by rw[hb];exact h5))))
 ·obtain⟨h1,h2,h3⟩:=h;obtain⟨b,hb,h3⟩:=aG h3;obtain⟨s,h4,h5⟩:=Dy _ h3;exact Exists.intro s (And.intro h4 (And.intro h1 (And.intro h2 (by rw[hb];exact h5))))
 ·exact h.elim
theorem TC:∀(x:A (P,op,t,u,K) SV),vj x->∃s,K s/\vj (x.re (P,op,t,u,(· =s))):=by
 intro x h;unfold vj at h;split at h
 ·obtain⟨s,h1,h2⟩:=Dy _ h.2.2;exact Exists.intro s (And.intro h1 (And.intro h.1 (And.intro h.2.1 h2)))
 ·exact h.elim
theorem TL {md:PM}:∀(x:A (md,K) (Bool×SV×SV)),tL x->∃s,K s/\tL (x.re (md,(fun s0:SV=>s0=s))):=by
 intro x h;unfold tL at h;split at h;all_goals first
  |exact h.elim
  |exact Exists.intro _ (And.intro h rfl)
theorem U5:∀(x:A (u,K) SV),tU x->∃s,K s/\tU (x.re (u,(fun s0:SV=>s0=s))):=by
 intro x h;unfold tU at h;split at h;all_goals first
  |exact h.elim
  |exact Exists.intro _ (And.intro h rfl)
  |exact Exists.intro _ (And.intro h.2 (And.intro h.1 rfl))
theorem WR {op:UnOp}:∀(x:A (op,u,K) SV),uu x->∃s,K s/\uu (x.re (op,u,(fun s0:SV=>s0=s))):=by
 intro x h;unfold uu at h;split at h
 ·exact Exists.intro _ (And.intro h rfl)
 ·obtain⟨s,h1,h2⟩:=Aq _ h;exact Exists.intro s (And.intro h1 h2)
 ·exact h.elim
theorem TG:∀(x:A (u,K) (LS×CvK×SV)),qU x->∃s,K s/\qU (x.re (u,(fun s0:SV=>s0=s))):=by
 intro x h;unfold qU at h;split at h
 ·exact Exists.intro _ (And.intro h rfl)
 ·exact Exists.intro _ (And.intro h rfl)
 ·obtain⟨b,hb,l,h1,h2⟩:=aG h;refine Exists.intro _ (And.intro h2 ?_);show aI _;rw[hb];exact⟨l,h1,rfl⟩
 ·obtain⟨l,h1,h2⟩:=h;exact Exists.intro _ (And.intro h2 (Exists.intro l (And.intro h1 rfl)))
 ·exact h.elim
theorem Vd:∀(x:A (u,K) (LS×SV×Nat)),sE x->∃s,K s/\sE (x.re (u,(fun s0:SV=>s0=s))):=by
 intro x h;unfold sE at h;split at h
 ·exact Exists.intro _ (And.intro h rfl)
 ·obtain⟨b,hb,h1,h2⟩:=aG h;refine Exists.intro _ (And.intro h2 ?_);show aI _;rw[hb];exact⟨h1,rfl⟩
 ·exact Exists.intro _ (And.intro h.2 (And.intro h.1 rfl))
 ·exact h.elim
theorem Vb:∀(x:A (P,u,K) (LS×TypeId×SV×SV)),tX x->∃s,K s/\tX (x.re (P,u,(fun s0:SV=>s0=s))):=by
 intro x h;unfold tX at h;split at h
 ·exact Exists.intro _ (And.intro h.2.2 (And.intro h.1 (And.intro h.2.1 rfl)))
 ·obtain⟨b,hb,h0,h1,h2⟩:=aG h;refine Exists.intro _ (And.intro h2 ?_);show aI _;rw[hb];exact⟨h0,h1,rfl⟩
 ·exact h.elim
theorem WU:∀(x:A (P,t,u,K) (SV×SV)),vN x->∃s,K s/\vN (x.re (P,t,u,(fun s0:SV=>s0=s))):=by
 intro x h;unfold vN at h;split at h
 ·exact Exists.intro _ (And.intro h.2.2 (And.intro h.1 (And.intro h.2.1 rfl)))
 ·exact h.elim
theorem WS:∀(x:A (P,t,u,K) (SV×Option SV×Option SV)),uv x->∃s,K s/\uv (x.re (P,t,u,(fun s0:SV=>s0=s))):=by
 intro x h;unfold uv at h;split at h
 ·obtain⟨h0,h⟩:=h;obtain⟨l,hl,h⟩:=aG h;obtain⟨m,hm,h⟩:=aG h;refine Exists.intro _ (And.intro h.2 ?_);refine And.intro h0 ?_;show aI _;rw[hl];show aI _;rw[hm];exact And.intro h.1 rfl
 ·obtain⟨l,hl,h⟩:=aG h;obtain⟨m,hm,h⟩:=aG h;obtain⟨e,he,h0,h1,h2⟩:=aG h;refine Exists.intro _ (And.intro h2 ?_);show aI _;rw[hl];show aI _;rw[hm];show aI _;rw[he];exact And.intro h0 (And.intro h1 rfl)
 ·exact h.elim
theorem WT {m:Mem} {y:Value}:∀(x:A (m,y,u,K) (Option Nat)),xz x->∃s,K s/\xz (x.re (m,y,u,(fun s0:SV=>s0=s))):=by
 rintro⟨x⟩ h;cases x with
 |none=>obtain⟨c,h1,h2⟩:=h;exact Exists.intro _ (And.intro h2 (Exists.intro c (And.intro h1 rfl)))
 |some n=>obtain⟨c,h1,h2⟩:=h;exact Exists.intro _ (And.intro h2 (Exists.intro c (And.intro h1 rfl)))
theorem U4 {b:Vc} {o:Nat}:∀(x:A (b,o,u,K) (Option Nat)),xb x->∃s,K s/\xb (x.re (b,o,u,(fun s0:SV=>s0=s))):=by
 rintro⟨x⟩ h;cases x with
 |none=>exact Exists.intro _ (And.intro h.2 (And.intro h.1 rfl))
 |some n=>exact Exists.intro _ (And.intro h.2.2 (And.intro h.1 (And.intro h.2.1 rfl)))
theorem U9 {l:List Value} {key:Value}:∀(x:A (l,key,K) (Bool×Option Value)),tW x->∃s,K s/\tW (x.re (l,key,(fun s0:SV=>s0=s))):=by
 intro x h;unfold tW at h;split at h
 ·exact Exists.intro _ (And.intro h rfl)
 ·rename_i z;cases hf:lG l key with
  |none=>exact Exists.intro _ (And.intro (h.2 hf) (And.intro (fun v hv=>by rw[hf] at hv;cases hv) (fun _=>rfl)))
  |some v=>exact Exists.intro _ (And.intro (h.1 v hf) (And.intro (fun v' hv=>by rw[hf] at hv;cases hv;rfl) (fun hv=>by rw[hf] at hv;cases hv)))
 ·rename_i z;cases hf:lG l key with
  |none=>exact Exists.intro _ (And.intro (h.2 hf) (And.intro (fun v hv=>by rw[hf] at hv;cases hv) (fun _=>rfl)))
  |some v=>exact Exists.intro _ (And.intro (h.1 v hf) (And.intro (fun v' hv=>by rw[hf] at hv;cases hv;rfl) (fun hv=>by rw[hf] at hv;cases hv)))
 ·cases h
theorem U8 {c:Bool}:∀(x:A (P,t,c,K) (LS×SV×Option Value)),tV x->∃s,K s/\tV (x.re (P,t,c,(fun s0:SV=>s0=s))):=by
 intro x h;unfold tV at h;split at h
 ·obtain⟨b,hb,cZ,ht,hk,h⟩:=aG h;obtain⟨l,hl,h⟩:=aG h;obtain⟨s,h1,h2⟩:=U9 _ h;refine Exists.intro s (And.intro h1 ?_);simp only[A.re,tV,aI,hb,hl,cZ,true_and];exact⟨ht,hk,h2⟩
 ·cases h
theorem TE:∀(x:A (P,t,u,K) (LS×SV)),o6 x->∃s,K s/\o6 (x.re (P,t,u,(fun s0:SV=>s0=s))):=by
 intro x h;unfold o6 at h;split at h
 ·obtain⟨b,hb,cZ,h⟩:=aG h;obtain⟨ag,ji,h⟩:=aG h;obtain⟨r,hr,h⟩:=aG h;refine Exists.intro _ (And.intro h ?_);simp only[A.re,o6,aI,hb,ji,hr,cZ,and_self]
 ·obtain⟨b,hb,h⟩:=aG h;obtain⟨ag,ji,h⟩:=aG h;obtain⟨s,h1,h2⟩:=U4 _ h;refine Exists.intro _ (And.intro h1 ?_);show aI _;rw[hb];show aI _;rw[ji];exact h2
 ·obtain⟨ag,ji,h⟩:=aG h;obtain⟨s,h1,h2⟩:=WT _ h;refine Exists.intro _ (And.intro h1 ?_);show aI _;rw[ji];exact h2
 ·exact h.elim
theorem Ve:∀(x:A K (SV×Nat)),tY x->∃s,K s/\tY (x.re (fun s0:SV=>s0=s)):=by
 intro x h;unfold tY at h;split at h
 ·exact wv h
 ·exact wv h
 ·exact h.elim
theorem Va:∀(x:A (P,t,K) (LS×SV)),sD x->∃s,K s/\sD (x.re (P,t,(fun s0:SV=>s0=s))):=by
 intro x h;unfold sD at h;split at h
 ·exact Exists.intro _ (And.intro h.2 (And.intro h.1 rfl))
 ·obtain⟨e,he,h⟩:=aG h;refine Exists.intro _ (And.intro h ?_);show aI _;rw[he];rfl
 ·obtain⟨e,he,h⟩:=aG h;obtain⟨b,hb,h⟩:=aG h;refine Exists.intro _ (And.intro h ?_);show aI _;rw[he];show aI _;rw[hb];rfl
 ·exact h.elim
theorem U6:∀(x:A K (SV×SV)),vx x->∃s,K s/\vx (x.re (fun s0:SV=>s0=s)):=by
 intro x h;unfold vx at h;split at h
 ·exact Exists.intro _ (And.intro h rfl)
 ·exact h.elim
theorem U7:∀(x:A K (SV×SV)),vy x->∃s,K s/\vy (x.re (fun s0:SV=>s0=s)):=by
 intro x h;unfold vy at h;split at h
 ·exact Exists.intro _ (And.intro h rfl)
 ·exact h.elim
theorem TD:∀(x:A K (SV×SV×SV×SV)),vk x->∃s,K s/\vk (x.re (fun s0:SV=>s0=s)):=by
 intro x h;unfold vk at h;split at h
 ·exact Exists.intro _ (And.intro h rfl)
 ·exact h.elim
theorem TB {p:bt} {a b:Operand} {st:LS} {g:Gd}:∀(x:A (p,a,b,st,g,K) PM),tK x->∃s,K s/\tK (x.re (p,a,b,st,g,(fun s0:SV=>s0=s))):=by
 rintro⟨md⟩ h;unfold tK at h;split at h
 ·obtain⟨s,h1,h2⟩:=wv h.2;exact Exists.intro s (And.intro h1 (And.intro h.1 h2))
 ·obtain⟨s,h1,h2⟩:=wv h.2;exact Exists.intro s (And.intro h1 (And.intro h.1 h2))
 ·rename_i q;cases q;obtain⟨h0,h⟩:=h;obtain⟨x,hx,h⟩:=aG h;obtain⟨y,hy,h⟩:=aG h;obtain⟨s,h1,h2⟩:=TL _ h;refine Exists.intro s (And.intro h1 (And.intro h0 ?_));rw[hx];show aI _;rw[hy];exact h2
theorem M8 {op:Op}:∀(x:A (P,op,K) (LS×bt)),qOp x->∃s,K s/\qOp (x.re (P,op,(fun s0:SV=>s0=s))):=by
 intro x h;unfold qOp at h;split at h
 ·exact wv h
 ·exact wv h
 ·obtain⟨g,hg,h⟩:=aG h;obtain⟨s,h1,h2⟩:=TB _ h;exact Exists.intro s (And.intro h1 (by simp only[A.re,qOp,aI,hg];exact h2))
 ·obtain⟨x,hx,h⟩:=aG h;obtain⟨s,h1,h2⟩:=U5 _ h;exact Exists.intro s (And.intro h1 (by simp only[A.re,qOp,aI,hx];exact h2))
 ·obtain⟨x,hx,h⟩:=aG h;obtain⟨s,h1,h2⟩:=TC _ h;exact Exists.intro s (And.intro h1 (by simp only[A.re,qOp,aI,hx];exact h2))
 ·rename_i QW t x' y' ty ak p' cP;obtain⟨x,hx,h⟩:=aG h;obtain⟨y,hy,h⟩:=aG h;obtain⟨s,h1,h2⟩:=Wg _ h;have bb:¬y' = .const .nilIface:=fun e=>by subst e;exact cP _ _ rfl HEq.rfl
  exact Exists.intro s (And.intro h1 (by simp only[A.re,qOp,aI,hx,hy,bb,false_implies,implies_true];exact h2))
 ·obtain⟨x,hx,h⟩:=aG h;obtain⟨s,h1,h2⟩:=WR _ h;exact Exists.intro s (And.intro h1 (by simp only[A.re,qOp,aI,hx];exact h2))
 ·obtain⟨x,hx,h⟩:=aG h;obtain⟨s,h1,h2⟩:=TG _ h;exact Exists.intro s (And.intro h1 (by simp only[A.re,qOp,aI,hx];exact h2))
 ·obtain⟨x,hx,h⟩:=aG h;obtain⟨y,hy,h⟩:=aG h;obtain⟨s,h1,h2⟩:=Vd _ h;exact Exists.intro s (And.intro h1 (by simp only[A.re,qOp,aI,hx,hy];exact h2))
 ·obtain⟨x,hx,h⟩:=aG h;obtain⟨y,hy,h⟩:=aG h;obtain⟨s,h1,h2⟩:=wv h;exact Exists.intro s (And.intro h1 (by simp only[A.re,qOp,aI,hx,hy];exact h2))
 ·obtain⟨x,hx,h⟩:=aG h;obtain⟨y,hy,h⟩:=aG h;obtain⟨z,hz,h⟩:=aG h;obtain⟨s,h1,h2⟩:=Vb _ h;exact Exists.intro s (And.intro h1 (by simp only[A.re,qOp,aI,hx,hy,hz];exact h2))
 ·obtain⟨x,hx,h⟩:=aG h;obtain⟨y,hy,h⟩:=aG h;obtain⟨s,h1,h2⟩:=WU _ h;exact Exists.intro s (And.intro h1 (by simp only[A.re,qOp,aI,hx,hy];exact h2))
 ·obtain⟨x,hx,h⟩:=aG h;obtain⟨y,hy,h⟩:=aG h;obtain⟨z,hz,h⟩:=aG h;obtain⟨s,h1,h2⟩:=WS _ h;exact Exists.intro s (And.intro h1 (by simp only[A.re,qOp,aI,hx,hy,hz];exact h2))
 ·obtain⟨x,hx,h⟩:=aG h;obtain⟨s,h1,h2⟩:=TE _ h;exact Exists.intro s (And.intro h1 (by simp only[A.re,qOp,aI,hx];exact h2))
 ·obtain⟨x,hx,h⟩:=aG h;obtain⟨s,h1,h2⟩:=Ve _ h;exact Exists.intro s (And.intro h1 (by simp only[A.re,qOp,aI,hx];exact h2))
 ·obtain⟨h0,h⟩:=h;obtain⟨z,hz,h⟩:=aG h;obtain⟨cs,fp,h⟩:=aG h;exact Exists.intro _ (And.intro h (by simp only[A.re,qOp,aI,hz,fp];exact And.intro h0 trivial))
 ·obtain⟨x,hx,h⟩:=aG h;obtain⟨s,h1,h2⟩:=Va _ h;exact Exists.intro s (And.intro h1 (by simp only[A.re,qOp,aI,hx];exact h2))
 ·obtain⟨x,hx,h⟩:=aG h;obtain⟨y,hy,h⟩:=aG h;obtain⟨s,h1,h2⟩:=U6 _ h;exact Exists.intro s (And.intro h1 (by simp only[A.re,qOp,aI,hx,hy];exact h2))
 ·obtain⟨x,hx,h⟩:=aG h;obtain⟨y,hy,h⟩:=aG h;obtain⟨s,h1,h2⟩:=U8 _ h;exact Exists.intro s (And.intro h1 (by simp only[A.re,qOp,aI,hx,hy];exact h2))
 ·obtain⟨x,hx,h⟩:=aG h;obtain⟨y,hy,h⟩:=aG h;obtain⟨s,h1,h2⟩:=U7 _ h;exact Exists.intro s (And.intro h1 (by simp only[A.re,qOp,aI,hx,hy];exact h2))
 ·obtain⟨x,hx,h⟩:=aG h;obtain⟨y,hy,h⟩:=aG h;obtain⟨z,hz,h⟩:=aG h;obtain⟨u,hu,h⟩:=aG h;obtain⟨s,h1,h2⟩:=TD _ h;exact Exists.intro s (And.intro h1 (by simp only[A.re,qOp,aI,hx,hy,hz,hu];exact h2))
 ·exact h.elim
end
section
variable {n:Nat} {st:LS} {P:Program} {c:Cfg}
end
/-! Regions that draw their order, of quiet operations and pure calls. -/
def HL:OpK->Bool
 | .ac=>false
 |_=>true
section
variable {C:Ctx} {n:Nat} {st:LS} {a:Act} {V:Vl} {D:Nat->Nat} {w:World} {P:Program} {p:bt} {c:Cfg} {ops:Array Oper} {L:Nat->Prop} {i:Nat} {o:Oper}
def Cl (C:Ctx) (bx:List Bx) (vc:List Vc) (nid:Nat) (m:Mem) (V:Vl) (w:World):Prop:=∃V' D',Agree nid vc V V' /\SatW C bx vc nid m V' D' w
theorem SatW.drew {bx:List Bx} {vc:List Vc} {nid:Nat} {m:Mem} (h:SatW C bx vc nid m V D w) (k:Nat):SatW C bx vc nid m V D {w with drawn:=k}:=
 ⟨⟨h.heap.bx,h.heap.vc,h.heap.apart,h.heap.uniq⟩,h.wf,⟨h.frm.os,h.frm.tape,h.frm.output,h.frm.size,h.frm.same⟩,h.own,h.baseB,h.baseV,h.ids,h.le0,h.m0,h.mle⟩
theorem TN (hF:SatF n st.env st.rho a V) (rn:∀e∈st.env,jg st.nid st.vc e.s) {w0:World} (EL:Cl C st.bx st.vc st.nid st.m V w0)
  (dQ:cK c P) (hR:RInv ops L st.rho) (oK:¬L i) (im:ops[i]? =some o) (hd:mq n o=true) (zM:HL (gL c o.op)=true) (Bc:pathOf st o.guard=some p) {K:LS->Prop} (h:one (.mk (k:=(c,P,i,o,K)) (st,p)))
  {next:Act->Prop} (hn:∀ak a',K ak->SatF n ak.env ak.rho a' V->(∀e∈ak.env,jg st.nid st.vc e.s)->ak.bx=st.bx/\ak.vc=st.vc/\ak.nid=st.nid/\ak.m=st.m->RInv ops (fun k=>L k\/k=i) ak.rho->next a'):
  if Region.wanted o (yielded ops a.tmps) then o.quiet P a (Cl C st.bx st.vc st.nid st.m V) next else next (a.put o.dst undef):=by
 obtain⟨V0,D0,ha0,hW0⟩:=EL;have A1:∀{V' :Vl} {D' :Nat->Nat} {w' :World},Agree st.nid st.vc V V' ->SatW C st.bx st.vc st.nid st.m V' D' w' ->Sat C n st a V' D' w' :=fun ha hW=>⟨hF.agree rn ha,rn,hW⟩
 have zQ:=A1 ha0 hW0;obtain⟨hp,hw⟩:=FY zQ hR Bc;rw[hw];have back:∀{ak:LS} {a' :Act},Sat C n ak a' V0 D0 w0->ak.bx=st.bx/\ak.vc=st.vc/\ak.nid=st.nid/\ak.m=st.m->SatF n ak.env ak.rho a' V/\∀e∈ak.env,jg st.nid st.vc e.s:=by
  intro ak a' ga he;have hid:∀e∈ak.env,jg st.nid st.vc e.s:=by rw[<- he.2.1,<- he.2.2.1];exact ga.ids
  exact⟨ga.f.agree hid (fun k hk=>⟨((ha0 k hk).1).symm,fun u hu=>((ha0 k hk).2 u hu).symm⟩),hid⟩
 simp only[one] at h;unfold Bp at h;split at h
 ·rename_i q dead he;simp only[A.mk.injEq,Prod.mk.injEq] at he;obtain⟨hq,hdead,hit⟩:=he;have vD:∀(d:Option Nat) (p:bt) (s:SV),(E.put st d p s).bx=st.bx/\(E.put st d p s).vc=st.vc/\(E.put st d p s).nid=st.nid/\(E.put st d p s).m=st.m:=fun d p s=>by cases d<;>exact⟨rfl,rfl,rfl,rfl⟩
  have EI:∀(d:Option Nat) (p:bt) (s:SV) (mv:Bool),(lD (E.put st d p s) i d p mv s).bx=st.bx/\(lD (E.put st d p s) i d p mv s).vc=st.vc/\(lD (E.put st d p s) i d p mv s).nid=st.nid/\(lD (E.put st d p s) i d p mv s).m=st.m:=fun d p s mv=>by
   rcases FI (E.put st d p s) i d p mv s with e |⟨_,_,_,_,e⟩
   ·rw[e];exact vD d p s
   ·rw[e];exact vD d p s
  have PH:∀(d:Option Nat) (p:bt) (s:SV) (mv:Bool),(lE (E.put st d p s) i d p mv).bx=st.bx/\(lE (E.put st d p s) i d p mv).vc=st.vc/\(lE (E.put st d p s) i d p mv).nid=st.nid/\(lE (E.put st d p s) i d p mv).m=st.m:=fun d p s mv=>by
   rcases FJ (E.put st d p s) i d p mv with e |⟨_,_,e⟩
   ·rw[e];exact vD d p s
   ·rw[e];exact vD d p s
  unfold xe at h;split at h
  ·rename_i ak p' q';cases q';have hc:=C9 hdead;rw[hc];simp only[Bool.false_eq_true,if_false];obtain⟨h1,h2⟩:=H4 zQ hR oK im hd hit hp hc (n7 o.op);obtain⟨h3,h4⟩:=back h1 (PH _ _ _ _);exact hn _ _ h h3 h4 (PH _ _ _ _) h2
  ·rename_i ak p' q';cases q';obtain⟨s,⟨hs,hK⟩,hdet⟩:=M8 _ h;have dq:∀w',Cl C st.bx st.vc st.nid st.m V w' ->bU st.rho p=true->(execOp a.eval o).run P w' = .ok (.value (den V s)) w' :=by
    rintro w' ⟨V',D',ha,hW⟩ hc;obtain⟨s',e,hr⟩:=Ge (A1 ha hW) hp (o:=o) rfl hdet;subst e;rw[hr hc,C7 ha hs]
   cases hc:bU st.rho p with
   |true=>
    simp only[if_true];refine⟨den V s,fun w' B7=> ?_,?_⟩
    ·unfold Oper.quietAt;rw[dq w' B7 hc];exact⟨rfl,rfl⟩
    ·have e0:den V s=den V0 s:=(C7 ha0 hs).symm;obtain⟨h1,h2⟩:=Bf zQ hR oK im hd hit hp hs (v:=den V s) (by rw[hc,e0];rfl) (n7 o.op);obtain⟨h3,h4⟩:=back h1 (EI _ _ _ _);exact hn _ _ hK h3 h4 (EI _ _ _ _) h2
   |false=>
    simp only[Bool.false_eq_true,if_false];obtain⟨h1,h2⟩:=Bf zQ hR oK im hd hit hp hs (v:=undef) (by rw[hc];rfl) (n7 o.op);obtain⟨h3,h4⟩:=back h1 (EI _ _ _ _);exact hn _ _ hK h3 h4 (EI _ _ _ _) h2
  ·rename_i F ak p' q';cases q';obtain⟨y,hy,hB,hK⟩:=aG h;cases hc:bU st.rho p with
   |true=>
    simp only[if_true];obtain⟨f,args,ts,ho,hf⟩:=Mb hq;obtain⟨ax,hFF⟩:=dQ f F hf;rw[ho] at hy;simp only[yG,Option.bind_eq_some_iff] at hy;obtain⟨cL,⟨ss,oG,hvals⟩,hy⟩:=hy;refine⟨y.2,?_,?_⟩
    ·rintro w' ⟨V',D',ha,hW⟩;have ga:=A1 ha hW;have dq:=GN (w:=w') (a:=a) ho rfl ax;unfold Oper.quietAt;rw[dq];refine⟨rfl,?_⟩;have rf:args.map a.eval=⟨(cL.map SV.v).map (den V')⟩:=by
      apply Array.ext'
      rw[Array.toList_map,z8 ga hp hc oG,FG hvals];simp only[List.map_map];exact(List.map_id'' (fun x=>rfl) cL).symm
     rw[rf];refine(hFF st.m cL y hy (hB hc) V' w' D' hW.wf hW.mle ⟨fun b hb=>(by cases hb),fun b hb=>(by cases hb),by simp [a7],by simp⟩).mono fun e w2 ⟨r,V2,D2,H',m',he,h1,h2,h3,h4,h5,h6,h7,h8,h9,hr,hH⟩=> ?_
     subst he;subst hr;exact⟨rfl,V',D2,ha,hW.quiet h1 h5 h7⟩
    ·obtain⟨h1,h2⟩:=zd (i:=i) zQ hR hd hit hp (s:= .v y.2) trivial (v:=y.2) (fun _=>rfl);obtain⟨h3,h4⟩:=back h1 (vD _ _ _);exact hn _ _ hK h3 h4 (vD _ _ _) h2
   |false=>
    simp only[Bool.false_eq_true,if_false];obtain⟨h1,h2⟩:=zd (i:=i) zQ hR hd hit hp (s:= .v y.2) trivial (v:=undef) (fun e=>by rw[hc] at e;cases e);obtain⟨h3,h4⟩:=back h1 (vD _ _ _);exact hn _ _ hK h3 h4 (vD _ _ _) h2
  ·rw[hq] at zM;cases zM
 ·cases h
theorem KN (dQ:cK c P) {C:Ctx} {V:Vl} {w0:World} {bx:List Bx} {vc:List Vc} {nid:Nat} {m:Mem} (EL:Cl C bx vc nid m V w0) {K:LS->Prop} {Q:Act->Prop}
  (hQ:∀ak a',K (clean ak)->SatF n ak.env ak.rho a' V->(∀e∈ak.env,jg nid vc e.s)->ak.bx=bx/\ak.vc=vc/\ak.nid=nid/\ak.m=m->Q a'):
  ∀(l:List Oper) (i:Nat) (st:LS) (a:Act),Bn c P l i K st->SatF n st.env st.rho a V->(∀e∈st.env,jg nid vc e.s)->st.bx=bx/\st.vc=vc/\st.nid=nid/\st.m=m->RInv ops (· <i) st.rho->
   (∀j,l[j]? =ops[i+j]?)->(∀o∈l,mq n o=true/\HL (gL c o.op)=true)->wpQuiet P ops (Cl C bx vc nid m V) Q l a
 |[],i,st,a,h,hF,rn,he,hR,hl,hd=>hQ _ _ h hF rn he
 |o::r,i,st,a,h,hF,rn,he,hR,hl,hd=>by
  obtain⟨p,hp,h⟩:=aG h;have im:ops[i]? =some o:=by have:=hl 0;simpa using this.symm
  obtain⟨rfl,rfl,rfl,rfl⟩:=he;unfold wpQuiet;refine TN hF rn EL dQ hR (Nat.lt_irrefl _) im (hd o (dz ..)).1 (hd o (dz ..)).2 hp h fun ak a' hK Jo El rS uH=> ?_
  exact KN dQ EL hQ r (i+1) ak a' hK Jo El rS (uH.mono fun k hk=>by omega) (fun j=>by have:=hl (j+1);simpa [Nat.add_assoc,Nat.add_comm 1 j] using this) (fun o ho=>hd o (cS _ ho))
theorem kC (dQ:cK c P) {id:Nat} {l:List Oper} {Q:Exit->LS->Prop} {st:LS} (hm:P.follows .mixedOrders=true) (hB:Region.lexB .any ⟨l⟩=true) (hd:l.all (fun o=>mq n o&&HL (gL c o.op))=true)
  (h:zC (.mk (k:=(c,P,0,l,Q .normal)) st)):jR (.mk (k:=(P,n,.region id ⟨l⟩ true,Q)) st):=by
 rintro C a w ⟨gi,V,D,hS⟩;have bW:Cl C st.bx st.vc st.nid st.m V {w with drawn:=w.drawn+1}:=⟨V,D,Agree.refl _ _ _,hS.w.drew _⟩;refine wp_region_quiet (C:=Cl C st.bx st.vc st.nid st.m V) hm hB bW ?_;refine KN (ops:=⟨l⟩) dQ bW (K:=Q .normal) ?_ l 0 st a h hS.f hS.ids ⟨rfl,rfl,rfl,rfl⟩ ?_ (fun j=>by simp) (fun o ho=> ?_)
 ·rintro ak a' hK Jo El ⟨e1,e2,e3,e4⟩ w' ⟨V',D',ha,hW⟩;refine⟨clean ak,?_,hK⟩;have ga:Sat C n ak a' V' D' w' :=⟨Jo.agree El ha,by rw[e2,e3];exact El,by rw[e1,e2,e3,e4];exact hW⟩;exact FL ga
 ·rw[gi];intro g hg;cases hg
 ·have:=List.all_eq_true.1 hd o ho;simpa using this
end
/-! Functions of values, listed. -/
def zI:List (FuncId×(List Value->Option (Prop×Value)))->FuncId->Option (List Value->Option (Prop×Value))
 |[],_=>none
 |(g,F)::r,f=>if g=f then some F else zI r f
def fP (own:FuncId->Bool) (L:List (FuncId×(List Value->Option (Prop×Value)))):Cfg:=⟨own,fun f=>(zI L f).map fun F _=>F⟩
attribute [go_sem] zI.eq_1 zI.eq_2 fP.eq_1
theorem pure_nil {P:Program} {own:FuncId->Bool}:cK (fP own []) P:=fun f F h=>by cases h
theorem pure_cons {P:Program} {own:FuncId->Bool} {L:List (FuncId×(List Value->Option (Prop×Value)))} {g:FuncId} {F:List Value->Option (Prop×Value)} (ax:iJ P g=true)
  (h:∀cL y,F cL=some y->y.1->∀m,FnH P g (cL.map SV.v) ⟨[],[]⟩ m (fun r H' _=>r= .v y.2/\H' =⟨[],[]⟩)) (hL:cK (fP own L) P):cK (fP own ((g,F)::L)) P:=by
 intro f G hf;by_cases e:g=f
 ·subst e;simp only[fP,zI,if_true,Option.map_some,dy] at hf;subst hf;exact⟨ax,fun m cL y hy hB=>h cL y hy hB m⟩
 ·simp only[fP,zI,ae e] at hf;exact hL f G hf
/-! .. and functions of values and of what lies in memory. -/
def zH:List (FuncId×(Mem->List Value->Option (Prop×Value)))->FuncId->Option (Mem->List Value->Option (Prop×Value))
 |[],_=>none
 |(g,F)::r,f=>if g=f then some F else zH r f
def qY (own:FuncId->Bool) (L:List (FuncId×(Mem->List Value->Option (Prop×Value)))):Cfg:=⟨own,zH L⟩
attribute [go_sem] zH.eq_1 zH.eq_2 qY.eq_1
theorem CY {P:Program} {own:FuncId->Bool}:cK (qY own []) P:=fun f F h=>by cases h
theorem nG {P:Program} {own:FuncId->Bool} {L:List (FuncId×(Mem->List Value->Option (Prop×Value)))} {g:FuncId} {F:Mem->List Value->Option (Prop×Value)} (ax:iJ P g=true)
  (h:∀m cL y,F m cL=some y->y.1->FnH P g (cL.map SV.v) ⟨[],[]⟩ m (fun r H' _=>r= .v y.2/\H' =⟨[],[]⟩)) (hL:cK (qY own L) P):cK (qY own ((g,F)::L)) P:=by
 intro f G hf;by_cases e:g=f
 ·subst e;simp only[qY,zH,if_true,dy] at hf;subst hf;exact⟨ax,h⟩
 ·simp only[qY,zH,ae e] at hf;exact hL f G hf
def vH (ops:Array Oper):Nat->Nat->Nat->Bool
 |0,_,_=>false
 |f+1,j,i=>match ops[j]? with
  |some o=>o.after.toList.any fun e=>Region.binds .any e&&(e.on==i||vH ops f e.on i)
  |none=>false
def pL (ops:Array Oper) (j i:Nat):Prop:=∃f,vH ops f j i=true
def Closed (ops:Array Oper) (listed:Array Bool) (i:Nat):Prop:=∀k,listed.getD k false=true->pL ops k i->listed.getD i false=true
section
variable {P:Program} {ops:Array Oper} {Q:Exit->Act->World->Prop} {Cw:World->Prop}
theorem GH {listed:Array Bool} {i:Nat} (h:listed.getD i true=false):listed.getD i false=false:=by
 rcases Nat.lt_or_ge i listed.size with h' |h'
 ·simp only[Array.getD,h',dite_true] at h ⊢;exact h
 ·simp [Array.getElem?_eq_none h'] at h
theorem RD {listed:Array Bool} {i j:Nat} (hc:Closed ops listed i) (hi:listed.getD i false=false) (hj:j∈Region.ready .any ops listed):¬pL ops j i:=by
 rintro⟨f,hf⟩;obtain⟨_,o,ho,kp⟩:=mem_ready.1 hj;cases f with
 |zero=>cases hf
 |succ f=>
  simp only[vH,ho] at hf;obtain⟨e,he,h⟩:=List.any_eq_true.1 hf;simp only[cY,Bool.or_eq_true,beq_iff_eq] at h;have hl:=kp e (by simpa using he) h.1;rcases h.2 with h2 |h2
  ·rw[h2,hi] at hl;cases hl
  ·have:=hc _ hl ⟨f,h2⟩;rw[hi] at this;cases this
theorem Closed.set {listed:Array Bool} {i j:Nat} (hc:Closed ops listed i) (hj:¬pL ops j i):Closed ops (listed.setIfInBounds j true) i:=fun k hk hd=>by
 by_cases e:j=k
 ·subst e;exact absurd hd hj
 ·rw[getD_set_ne false e] at hk;exact getD_set_true (hc k hk hd)
theorem Closed.done {listed:Array Bool} {i:Nat} (h:listed.getD i false=true):Closed ops listed i:=fun _ _ _=>h
def YW (P:Program) (ops:Array Oper) (Cw:World->Prop) (o:Oper) (v:Value) (a:Act):Prop:=
 (Region.wanted o (yielded ops a.tmps)=true/\∀w,Cw w->(execOp a.eval o).run P w= .ok (.value v) w)\/(Region.wanted o (yielded ops a.tmps)=false/\v=undef)
theorem YW.same {o:Oper} {v:Value} {a a' :Act} (hy:YW P ops Cw o v a) (he:execOp a'.eval o=execOp a.eval o) (hw:Region.wanted o (yielded ops a'.tmps)=Region.wanted o (yielded ops a.tmps)):YW P ops Cw o v a' :=by
 unfold YW at *;rw[he,hw];exact hy
theorem YW.wpOp {i:Nat} {o:Oper} {v:Value} {a:Act} (hi:ops[i]? =some o) (hy:YW P ops Cw o v a) {K:Act->World->Prop} {w:World} (hw:Cw w) (h:K (a.put o.dst v) w):wpOp P ops Q i K a w:=by
 unfold Go.wpOp;simp only[hi];rcases hy with ⟨IU,hv⟩ |⟨IU,rfl⟩
 ·simp only[IU,if_true,Oper.wp,hv w hw,Oper.upon];exact .inl h
 ·simp only[IU,Bool.false_eq_true,if_false];exact h
theorem S8 {j:Nat} {oi oj:Oper} {v:Value} (hj:ops[j]? =some oj) (qx:oi.apart ops oj=true) (hsi:∀cs b,oi.op≠ .select cs b) (Qm:∀cs b,oj.op≠ .select cs b)
  (hQ:∀c a w,¬Q (.panic c) a w) {K:Act->World->Prop} {a:Act} {w:World} (hy:YW P ops Cw oi v a) (h:wpOp P ops Q j K (a.put oi.dst v) w):
  wpOp P ops Q j (fun a' w' =>YW P ops Cw oi v a' /\K (a'.put oi.dst v) w') a w:=by
 obtain⟨h1,h2,h3⟩:=Oper.apart_spec qx;have uc:∀(a:Act),YW P ops Cw oi v a->∀u,YW P ops Cw oi v (a.put oj.dst u):=fun a hy u=>
  hy.same (execOp_put oi hsi a oj.dst u h3) (wanted_put oi a oj.dst u h3)
 have ZZ:∀d,YW P ops Cw oi v {a with defers:=d::a.defers}:=fun d=>hy.same rfl rfl
 unfold wpOp at *;simp only[hj] at *;rw[wanted_put oj a oi.dst v h1] at h;split
 ·rename_i hw;simp only[hw,if_true] at h;rcases h with h |⟨Pe,hlets⟩
  case inr=>exact .inr ⟨by unfold Oper.asks at *;rw[execOp_put oj Qm a oi.dst v h1] at Pe;exact Pe,hlets⟩
  refine .inl ?_;unfold Oper.wp at *;rw[execOp_put oj Qm a oi.dst v h1] at h;generalize (execOp a.eval oj).run P w=r at *
  cases r with
  |ok n w' =>
   cases n<;>simp only[Oper.upon] at h ⊢;case value u=>exact⟨uc a hy u,by rw[<- Act.put_comm a v u h2];exact h⟩
   case skip=>exact⟨uc a hy _,by rw[<- Act.put_comm a v undef h2];exact h⟩
   case defer d=>
    refine⟨uc _ (ZZ d) _,?_⟩;rw[<- Act.put_comm _ v undef h2,<- Act.put_defers];exact h
   case enter f args=>
    refine Calls.mono h fun e qm he=> ?_
    cases e with
    |returned u=>exact⟨uc a hy u,by rw[<- Act.put_comm a v u h2];exact he⟩
    |panicked c=>exact absurd he (hQ _ _ _)
    |outgrown=>exact he
   case row row args=>exact Rows.mono h fun u qm he=>⟨uc a hy u,by rw[<- Act.put_comm a v u h2];exact he⟩
  |halt x w' =>
   cases x<;>simp only[Oper.upon] at h ⊢;case panic u=>exact absurd h (hQ _ _ _)
 ·rename_i hw;simp only[hw] at h;exact⟨uc a hy _,by rw[<- Act.put_comm a v undef h2];exact h⟩
def qO (P:Program) (ops:Array Oper) (Q:Exit->Act->World->Prop):Nat->(Nat×(World->Prop)->Prop)->Array Bool->Act->World->Prop
 |0,_,listed,a,w=>Region.ready .any ops listed=[]/\Q .normal a w
 |fuel+1,I,listed,a,w=>
  (Region.ready .any ops listed=[]->Q .normal a w)/\
  ∀j∈Region.ready .any ops listed,wpOp P ops Q j (fun a' w' =>(∀x,I x->¬pL ops j x.1->x.2 w')/\qO P ops Q fuel (fun x=>I x/\¬pL ops j x.1) (listed.setIfInBounds j true) a' w') a w
theorem Kf:∀(fuel:Nat) (I:Nat×(World->Prop)->Prop) (listed:Array Bool) (a:Act) (w:World),qO P ops Q fuel I listed a w->wpAny P .any ops Q fuel listed a w
 |0,_,_,_,_,h=>h
 |fuel+1,_,_,_,_,h=>⟨h.1,fun j hj=>wpOp_mono (fun a' w' h' =>Kf fuel _ _ a' w' h'.2) (h.2 j hj)⟩
theorem zY:∀(fuel:Nat) (I J:Nat×(World->Prop)->Prop) (_:∀i,J i->I i) (listed:Array Bool) (a:Act) (w:World),qO P ops Q fuel I listed a w->qO P ops Q fuel J listed a w
 |0,_,_,_,_,_,_,h=>h
 |fuel+1,I,J,hI,_,_,_,h=>⟨h.1,fun j hj=>wpOp_mono (fun a' w' h' =>⟨fun x h1 h2=>h'.1 x (hI x h1) h2,zY fuel _ _ (fun x hx=>⟨hI x hx.1,hx.2⟩) _ a' w' h'.2⟩) (h.2 j hj)⟩
theorem hoist {i:Nat} {oi:Oper} {v:Value} (hi:ops[i]? =some oi) (EE:∀(j:Nat) (o:Oper) cs b,ops[j]? =some o->o.op≠ .select cs b) (hQ:∀c a w,¬Q (.panic c) a w):
  ∀(fuel:Nat) (I:Nat×(World->Prop)->Prop) (listed:Array Bool) (a:Act) (w:World),
   (∀j oj,ops[j]? =some oj->j≠i->listed.getD j true=false->(∀e∈oj.after,Region.binds .any e=true->e.on≠i)->oi.apart ops oj=true)->
   Closed ops listed i->i∈Region.ready .any ops listed->YW P ops Cw oi v a->Cw w->(∀x,I x->x.2 w)->
   qO P ops Q fuel (fun x=>x=(i,Cw)\/I x) (listed.setIfInBounds i true) (a.put oi.dst v) w->qO P ops Q (fuel+1) I listed a w:=by
 intro fuel;induction fuel with
 |zero=>
  intro I listed a w _ _ hr hy hC hI H;refine⟨fun h=>(by rw[h] at hr;cases hr),fun j hj=> ?_⟩;by_cases hji:j=i
  ·subst hji;exact hy.wpOp hi hC ⟨fun x h1 _=>hI x h1,H⟩
  ·have:=ready_mono hj hji;rw[H.1] at this;cases this
 |succ fuel ih=>
  intro I listed a w Em bW hr hy hC hI H;refine⟨fun h=>(by rw[h] at hr;cases hr),fun j hj=> ?_⟩;by_cases hji:j=i
  ·subst hji;exact hy.wpOp hi hC ⟨fun x h1 _=>hI x h1,zY _ _ _ (fun x hx=> .inr hx.1) _ _ _ H⟩
  ·have h1:=H.2 j (ready_mono hj hji);obtain⟨PE,oj,hoj,kp⟩:=mem_ready.1 hj;have PF:=GH (mem_ready.1 hr).1;have iq:=RD bW PF hj;have zt:∀e∈oj.after,Region.binds .any e=true->e.on≠i:=fun e he hb heq=>by
    have h1:=kp e he hb;rw[heq,PF] at h1;cases h1
   have h2:=S8 hoj (Em j oj hoj hji PE zt) (fun cs b=>EE i oi cs b hi) (fun cs b=>EE j oj cs b hoj) hQ hy h1;have YX:∀k ok,ops[k]? =some ok->k≠i->(listed.setIfInBounds j true).getD k true=false->
     (∀e∈ok.after,Region.binds .any e=true->e.on≠i)->oi.apart ops ok=true:=fun k ok hk hki zL rQ=>by
    refine Em k ok hk hki ?_ rQ;by_cases qu:j=k
    ·subst qu;exact PE
    ·rw[getD_set_ne true qu] at zL;exact zL
   refine wpOp_mono (fun a' w' h3=> ?_) h2;obtain⟨bb,hC',h3⟩:=h3;have adh:=hC' (i,Cw) (.inl rfl) iq;have fq:∀x,I x/\¬pL ops j x.1->x.2 w' :=fun x hx=>hC' x (.inr hx.1) hx.2
   refine⟨fun x h1 h2=>fq x ⟨h1,h2⟩,ih _ (listed.setIfInBounds j true) a' w' YX (bW.set iq) (ready_mono hr (Ne.symm hji)) bb adh fq ?_⟩;rw[Array.setIfInBounds_comm _ _ hji];refine zY _ _ _ (fun x hx=> ?_) _ _ _ h3;rcases hx with rfl |hx
   ·exact⟨.inl rfl,iq⟩
   ·exact⟨.inr hx.1,hx.2⟩
end
inductive Plan where
 |done
 |stop
 |hoist (i:Nat) (r:Plan)
 |alt (j:Nat) (ow:List Nat) (r next:Plan)
structure HX where
 i:Nat
 bx:List Bx
 vc:List Vc
 m:Mem
def rL:List Oper->Nat->Option Oper
 |[],_=>none
 |o::_,0=>some o
 |_::r,n+1=>rL r n
def wU (st:LS) (p:bt):List Operand->List Nat->List Nat
 |[],acc=>acc
 |x::r,acc=>rdIds1 st p r acc (cD st p x)
where rdIds1 (st:LS) (p:bt) (r:List Operand) (acc:List Nat):Option SV->List Nat
 |some s=>wU st p r (oA acc [s])
 |none=>wU st p r acc
def lC:Op->List Operand
 | .load _ a=>[a]
 | .convert _ _ a=>[a]
 | .fieldAddr _ a _=>[a]
 | .indexAddr _ a _=>[a]
 | .call {args:=⟨[x]⟩,..}=>[x]
 | .move _=>[]
 | .assign _=>[]
 | .pick _ _ _=>[]
 | .nilCheck _=>[]
 | .binOp _ _ _ _ _=>[]
 | .unOp _ _ _=>[]
 | .field _ _ _=>[]
 | .index _ _ _=>[]
 | .slice _ _ _ _ _=>[]
 | .extract _ _=>[]
 | .build _ _=>[]
 |_=>[]
def qa (ow:List Nat):List HX->List HX
 |[]=>[]
 |⟨i,bx,vc,m⟩::r=>if ja ow i=true then⟨i,bx,vc,m⟩::qa ow r else qa ow r
def xA (st:LS):List HX->Prop
 |[]=>True
 |⟨_,bx,vc,m⟩::r=>rK st bx/\rJ st vc/\an m st.m/\xA st r
def ED {P:Program} {o:Oper} {p:bt} {st:LS} {i:Nat} {K:LS->HX->Prop} (x:A (P,o,p,st,i,K) (OpK×Bool×Bool×List Nat)):Prop:=
 match x with
 | .mk (_,true,false,_)=>K (lE (put st o.dst p (.v undef)) i o.dst p (n7 o.op)) ⟨i,[],[],st.m⟩
 | .mk (.qt,false,false,ks)=>qOp (.mk (k:=(P,o.op,fun s=>jg st.nid st.vc s/\K (lD (put st o.dst p s) i o.dst p (n7 o.op) s) ⟨i,gd ks st.bx,fL ks st.vc,st.m⟩)) (⟨st.env,st.rho,gd ks st.bx,fL ks st.vc,st.nid,st.m⟩,p))
 |_=>False
def gv {c:Cfg} {P:Program} {o:Oper} {i:Nat} {K:LS->HX->Prop} (x:A (c,P,o,i,K) (LS×bt)):Prop:=
 match x with
 | .mk (st,p)=>ED (.mk (k:=(P,o,p,st,i,K)) (gL c o.op,vr st.rho p,j2 st.rho o.dst,wU st p (lC o.op) []))
def wZ (c:Cfg) (P:Program) (l:List Oper) (K:LS->Prop):Plan->List HX->LS->Prop
 | .done,_,st=>K (clean st)
 | .stop,_,_=>True
 | .hoist i r,I,st=>aI (.mk (k:=fun o:Oper=>aI (.mk (k:=fun p:bt=>gv (.mk (k:=(c,P,o,i,fun ak X=>wZ c P l K r (X::I) ak)) (st,p))) (pathOf st o.guard))) (rL l i))
 | .alt j ow r nx,I,st=>aI (.mk (k:=fun o:Oper=>aI (.mk (k:=fun p:bt=>one (.mk (k:=(c,P,j,o,fun ak=>xA ak (qa ow I)/\wZ c P l K r (qa ow I) ak)) (st,p))) (pathOf st o.guard))) (rL l j))/\wZ c P l K nx I st
def vM {c:Cfg} {P:Program} {l:List Oper} {K:LS->Prop} {pl:Plan} {I:List HX} (x:A (c,P,l,K,pl,I) LS):Prop:=match x with | .mk st=>wZ c P l K pl I st
/-! Does the plan fit the region? -/
def lv (ops:Array Oper):Plan->Nat->List Nat->Array Bool->Option (List Nat)->Bool
 | .done,_,_,listed,none=>(Region.ready .any ops listed).isEmpty
 | .hoist i r,f+1,H,listed,none=>Region.free .any ops listed i&&(Region.ready .any ops listed).contains i&&lv ops r f (i::H) (listed.setIfInBounds i true) none
 | .alt j ow r nx,f+1,H,listed,none=>(Region.ready .any ops listed).contains j&&H.all (fun i=>ja ow i||vH ops ops.size j i)&&
   lv ops r f (H.filter (ja ow)) (listed.setIfInBounds j true) none&&lv ops nx (f+1) H listed (some ((Region.ready .any ops listed).filter (· != j)))
 | .alt j ow r nx,f+1,H,listed,some R=>R.contains j&&(Region.ready .any ops listed).contains j&&H.all (fun i=>ja ow i||vH ops ops.size j i)&&
   lv ops r f (H.filter (ja ow)) (listed.setIfInBounds j true) none&&lv ops nx (f+1) H listed (some (R.filter (· != j)))
 | .stop,_,_,_,some R=>R.isEmpty
 |_,_,_,_,_=>false
section
variable {ops:Array Oper}
def AllClosed (ops:Array Oper) (listed:Array Bool):Prop:=∀i,Closed ops listed i
theorem LW {listed:Array Bool} {j:Nat} (hj:j∈Region.ready .any ops listed):j<listed.size:=by
 have h:=(mem_ready.1 hj).1;rcases Nat.lt_or_ge j listed.size with h' |h'
 ·exact h'
 ·simp [Array.getElem?_eq_none h'] at h
theorem MY {listed:Array Bool} {j:Nat} (hj:j<listed.size):(listed.setIfInBounds j true).getD j false=true:=by simp [hj]
theorem Ti {listed:Array Bool} {j k:Nat} (h:(listed.setIfInBounds j true).getD k false=true):k=j\/listed.getD k false=true:=by
 by_cases e:j=k
 ·exact .inl e.symm
 ·rw[getD_set_ne false e] at h;exact .inr h
theorem AllClosed.set {listed:Array Bool} {j:Nat} (hc:AllClosed ops listed) (hj:j∈Region.ready .any ops listed):AllClosed ops (listed.setIfInBounds j true):=by
 intro i k hk hd;refine getD_set_true ?_;rcases Ti hk with rfl |hk
 ·obtain⟨_,o,ho,kp⟩:=mem_ready.1 hj;obtain⟨f,hf⟩:=hd;cases f with
  |zero=>cases hf
  |succ f=>
   simp only[vH,ho] at hf;obtain⟨e,he,h⟩:=List.any_eq_true.1 hf;simp only[cY,Bool.or_eq_true,beq_iff_eq] at h;have hl:=kp e (by simpa using he) h.1;rcases h.2 with h2 |h2
   ·rw[<- h2];exact hl
   ·exact hc i _ hl ⟨f,h2⟩
 ·exact hc i k hk hd
theorem Hn:∀{l:List Oper} {i:Nat} {o:Oper},rL l i=some o->l[i]? =some o
 |[],_,_,h=>by cases h
 |o::r,0,o',h=>h
 |o::r,n+1,o',h=>by
  simp only[rL] at h;simpa using Hn h
end
section
variable {C:Ctx} {n:Nat} {st:LS} {a:Act} {V:Vl} {D:Nat->Nat} {w:World} {P:Program} {p:bt} {c:Cfg} {ops:Array Oper} {L:Nat->Prop} {i:Nat} {o:Oper}
structure SX where
 h:HX
 nid:Nat
 vc:List Vc
 V:Vl
def SX.cl (C:Ctx) (x:SX) (w:World):Prop:=∃V' D',Agree x.nid x.vc x.V V' /\SatW C x.h.bx x.h.vc x.nid x.h.m V' D' w
structure SX.ok (C:Ctx) (st:LS) (V:Vl) (x:SX):Prop where
 step:Step x.nid x.vc st.nid st.vc x.V V
 hd:pv ⟨[],[],x.h.bx,x.h.vc,x.nid,x.h.m⟩
 b:∀b∈C.H0.bx,b.id<x.nid
 v:∀b∈C.H0.vc,b.id<x.nid
 m:C.m0.le x.h.m
theorem FX {L:List Nat}:∀{bx:List Bx},∀b∈gd L bx,b∈bx
 |[],_,h=>h
 |⟨k,t,cs⟩::r,b,h=>by
  simp only[gd] at h;split at h
  ·rcases List.mem_cons.1 h with rfl |h
   ·exact dz ..
   ·exact cS _ (FX b h)
  ·exact cS _ (FX b h)
theorem SatW.pickW (h:SatW C st.bx st.vc st.nid st.m V D w) (ks:List Nat):SatW C (gd ks st.bx) (fL ks st.vc) st.nid st.m V D w:=by
 have pC:=(CO ks h.heap).app.1;have hv:∀b∈fL ks st.vc,b∈st.vc:=fun b hb=>(uQ hb).1
 have hb:∀b∈gd ks st.bx,b∈st.bx:=fun b hb=>FX b hb
 have E8:∀{k u:Nat},bS st.vc k u->bS (fL ks st.vc) k u:=fun{k u} hh=>(yr pC.uniq).2 fun x hx e=>(yr h.heap.uniq).1 hh x (hv x hx) e
 have acY:∀s:SV,ll st.nid st.vc s->ll st.nid (fL ks st.vc) s:=fun s hs=>by
  cases s<;>first |exact hs |exact⟨hs.1,E8 hs.2⟩
 have acW:∀l:List SV,fy st.nid st.vc l->fy st.nid (fL ks st.vc) l:=fun l=>by
  induction l with
  |nil=>exact id
  |cons s r ih=>exact fun hs=>⟨acY s hs.1,ih hs.2⟩
 exact⟨pC,h.wf,h.frm,fun g hg=>h.own g (Ds hb hv g hg),h.baseB,fun b eC=>⟨(h.baseV b eC).1,(h.baseV b eC).2.1,E8 (h.baseV b eC).2.2⟩,
  ⟨fun b eC=>⟨(h.ids.1 b (hb b eC)).1,acW _ (h.ids.1 b (hb b eC)).2⟩,fun b eC=>h.ids.2 b (hv b eC)⟩,h.le0,h.m0,h.mle⟩
theorem Nh {nid:Nat} {vc:List Vc}:∀{bx:List Bx},(∀b∈bx,b.id<nid/\fy nid vc b.cs)->zi nid vc bx
 |[],_=>trivial
 |⟨k,t,cs⟩::r,h=>⟨(h ⟨k,t,cs⟩ (dz ..)).1,(h ⟨k,t,cs⟩ (dz ..)).2,Nh fun b hb=>h b (cS _ hb)⟩
theorem Ng {nid:Nat}:∀{vc:List Vc},(∀b∈vc,b.id<nid)->zh nid vc
 |[],_=>trivial
 |⟨k,_,_,_,_,_⟩::r,h=>⟨h _ (dz ..),Ng fun b hb=>h b (cS _ hb)⟩
theorem TY (hS:Sat C n st a V D w) (hR:RInv ops L st.rho) (oK:¬L i) (im:ops[i]? =some o) (hd:mq n o=true) (Bc:pathOf st o.guard=some p) {K:LS->HX->Prop} (h:gv (.mk (k:=(c,P,o,i,K)) (st,p))):
  ∃(v:Value) (x:SX) (ak:LS),x.h.i=i/\YW P ops (x.cl C) o v a/\x.cl C w/\x.ok C ak V/\ak.nid=st.nid/\ak.vc=st.vc/\K ak x.h/\Sat C n ak (a.put o.dst v) V D w/\RInv ops (fun k=>L k\/k=i) ak.rho:=by
 obtain⟨hp,hw⟩:=FY hS hR Bc;have Pz:∀ks,pv ⟨[],[],gd ks st.bx,fL ks st.vc,st.nid,st.m⟩:=fun ks=>by
  have:=(hS.w.pickW ks).ids;exact⟨trivial,Nh this.1,Ng this.2⟩
 have hB:∀b∈C.H0.bx,b.id<st.nid:=fun b hb=>(hS.w.baseB b hb).2
 have hV:∀b∈C.H0.vc,b.id<st.nid:=fun b hb=>(hS.w.baseV b hb).2.1
 simp only[gv] at h;unfold ED at h;split at h
 ·rename_i ks q;simp only[A.mk.injEq,Prod.mk.injEq] at q;obtain⟨hq,hdead,hit,_⟩:=q;have hc:=C9 hdead;obtain⟨h1,h2⟩:=H4 hS hR oK im hd hit hp hc (n7 o.op);have bW:=hS.w.pickW [];have e1:gd [] st.bx=[]:=by
   generalize st.bx=l
   induction l with
   |nil=>rfl
   |cons x r ih=>obtain⟨_,_,_⟩:=x;simp only[gd,List.contains_nil,Bool.false_eq_true,if_false];exact ih
  have e2:fL [] st.vc=[]:=by
   generalize st.vc=l
   induction l with
   |nil=>rfl
   |cons x r ih=>obtain⟨_,_,_,_,_,_⟩:=x;simp only[fL,List.contains_nil,Bool.false_eq_true,if_false];exact ih
  rw[e1,e2] at bW;have hh:=Pz [];rw[e1,e2] at hh;refine⟨undef,⟨⟨i,[],[],st.m⟩,st.nid,st.vc,V⟩,_,rfl,.inr ⟨by rw[hw];exact hc,rfl⟩,⟨V,D,Agree.refl _ _ _,bW⟩,⟨Step.same yl.1 yl.2 V,hh,hB,hV,hS.w.m0⟩,yl.1,yl.2,h,h1,h2⟩
 ·rename_i ks q;simp only[A.mk.injEq,Prod.mk.injEq] at q;obtain⟨hq,hdead,hit,hks⟩:=q;obtain⟨s,⟨hs,hK⟩,hdet⟩:=M8 _ h;have rn:∀e∈st.env,jg st.nid st.vc e.s:=hS.ids;have E8:∀{k u:Nat},bS st.vc k u->bS (fL ks st.vc) k u:=fun{k u} hh=>
   (yr (hS.w.pickW ks).heap.uniq).2 fun x hx e=>(yr hS.w.heap.uniq).1 hh x (uQ hx).1 e
  have A1:∀{V' :Vl} {D' :Nat->Nat} {w' :World},Agree st.nid st.vc V V' ->SatW C (gd ks st.bx) (fL ks st.vc) st.nid st.m V' D' w' ->
    Sat C n ⟨st.env,st.rho,gd ks st.bx,fL ks st.vc,st.nid,st.m⟩ a V' D' w' :=fun ha hW=>
   ⟨hS.f.agree rn ha,fun e he=>Mg (aq _) (fun k u _ hh=>E8 hh) (rn e he),hW⟩
  have dq:∀w',(SX.cl C ⟨⟨i,gd ks st.bx,fL ks st.vc,st.m⟩,st.nid,st.vc,V⟩ w')->bU st.rho p=true->(execOp a.eval o).run P w' = .ok (.value (den V s)) w' :=by
   rintro w' ⟨V',D',ha,hW⟩ hc;obtain⟨s',e,hr⟩:=Ge (A1 ha hW) hp (o:=o) rfl hdet;subst e;rw[hr hc,C7 ha hs]
  refine⟨if bU st.rho p=true then den V s else undef,⟨⟨i,gd ks st.bx,fL ks st.vc,st.m⟩,st.nid,st.vc,V⟩,_,rfl,?_,⟨V,D,Agree.refl _ _ _,hS.w.pickW ks⟩,⟨Step.same yk.1 yk.2 V,Pz ks,hB,hV,hS.w.m0⟩,yk.1,yk.2,hK,Bf hS hR oK im hd hit hp hs rfl (n7 o.op)⟩;cases hc:bU st.rho p with
  |true=>exact .inl ⟨by rw[hw];exact hc,fun w' B7=>by simpa using dq w' B7 hc⟩
  |false=>exact .inr ⟨by rw[hw];exact hc,by simp⟩
 ·cases h
theorem Nb {st:LS}:∀{I:List HX},xA st I->∀x∈I,rK st x.bx/\rJ st x.vc/\an x.m st.m
 |[],_,_,h=>by cases h
 |⟨_,_,_,_⟩::r,h,x,hx=>by
  rcases List.mem_cons.1 hx with rfl |hx
  ·exact⟨h.1,h.2.1,h.2.2.1⟩
  ·exact Nb h.2.2.2 x hx
theorem Gr {ow:List Nat}:∀{S:List SX},qa ow (S.map (·.h))=(S.filter fun x=>ja ow x.h.i).map (·.h)
 |[]=>rfl
 |x::r=>by
  obtain⟨⟨i,bx,vc,m⟩,nid,eJ,V⟩:=x;simp only[br,qa,List.filter_cons];split
  ·rw[Gr];rfl
  ·exact Gr
theorem VO {ow:List Nat} {S:List SX}:(S.filter fun x=>ja ow x.h.i).map (·.h.i)=(S.map (·.h.i)).filter (ja ow):=by
 rw[List.filter_map];rfl
theorem Ob {st ak:LS} (e:ak.bx=st.bx):∀{l:List Bx},rK st l->rK ak l
 |[],_=>trivial
 |⟨_,_,_⟩::_,h=>⟨by rw[e];exact h.1,h.2.1,Ob e h.2.2⟩
theorem Oa {st ak:LS} (e:ak.vc=st.vc):∀{l:List Vc},rJ st l->rJ ak l
 |[],_=>trivial
 |⟨_,_,_,_,_,_⟩::_,h=>⟨by rw[e];exact h.1,h.2.1,Oa e h.2.2⟩
theorem SX.still {x:SX} (hx:x.ok C st V) (hS:Sat C n st a V D w) (h1:rK st x.h.bx) (h2:rJ st x.h.vc) (h3:an x.h.m st.m):x.cl C w:=by
 have hF:Sat C n ⟨[],[],st.bx,st.vc,st.nid,st.m⟩ a V D w:=
  ⟨⟨hS.f.defers,hS.f.size,fun e he=>(by cases he),fun t q s _ hl _=>(by cases hl),fun g hg=>(by cases hg)⟩,fun e he=>(by cases he),hS.w⟩
 have hM:Match ⟨[],[],st.bx,st.vc,st.nid,st.m⟩ ⟨[],[],x.h.bx,x.h.vc,x.nid,x.h.m⟩:=by
  refine⟨trivial,rfl,?_,?_,h3⟩
  ·exact Ob (st:=st) (ak:=⟨[],[],st.bx,st.vc,st.nid,st.m⟩) rfl h1
  ·exact Oa (st:=st) (ak:=⟨[],[],st.bx,st.vc,st.nid,st.m⟩) rfl h2
 exact⟨V,D,hx.step.agr,(hF.weaken hM hx.hd hx.b hx.v hx.m).w⟩
theorem X5 (dQ:cK c P) {l:List Oper} {K:LS->Prop} {Q:Exit->Act->World->Prop} {listed:Array Bool} {S:List SX} {j f:Nat} {ow:List Nat} {r:Plan} (EJ:∀o∈l,mq n o=true)
  (hj:j∈Region.ready .any ⟨l⟩ listed) (hH:(S.map (·.h.i)).all (fun i=>ja ow i||vH ⟨l⟩ l.length j i)=true)
  (h:aI (.mk (k:=fun o:Oper=>aI (.mk (k:=fun p:bt=>one (.mk (k:=(c,P,j,o,fun ak=>xA ak (qa ow (S.map (·.h)))/\wZ c P l K r (qa ow (S.map (·.h))) ak)) (st,p))) (pathOf st o.guard))) (rL l j)))
  (hS:Sat C n st a V D w) (hR:RInv ⟨l⟩ (fun k=>listed.getD k false=true) st.rho) (hX:∀x∈S,x.ok C st V/\x.cl C w)
  (ih:∀ak a' V' D' w',wZ c P l K r ((S.filter fun x=>ja ow x.h.i).map (·.h)) ak->Sat C n ak a' V' D' w' ->RInv ⟨l⟩ (fun k=>(listed.setIfInBounds j true).getD k false=true) ak.rho->
   (∀x∈S.filter (fun x=>ja ow x.h.i),x.ok C ak V' /\x.cl C w')->qO P ⟨l⟩ Q f (fun y=>∃x∈S.filter (fun x=>ja ow x.h.i),y=(x.h.i,x.cl C)) (listed.setIfInBounds j true) a' w'):
  wpOp P ⟨l⟩ Q j (fun a' w' =>(∀y,(∃x∈S,y=(x.h.i,x.cl C))->¬pL ⟨l⟩ j y.1->y.2 w')/\qO P ⟨l⟩ Q f (fun y=>(∃x∈S,y=(x.h.i,x.cl C))/\¬pL ⟨l⟩ j y.1) (listed.setIfInBounds j true) a' w') a w:=by
 obtain⟨o,ho,h⟩:=aG h;obtain⟨p,hp,h⟩:=aG h;have vY:l[j]? =some o:=Hn ho;have im:(⟨l⟩:Array Oper)[j]? =some o:=by simpa using vY
 have zL:=GH (mem_ready.1 hj).1;have zt:∀x∈S,¬pL ⟨l⟩ j x.h.i->ja ow x.h.i=true:=fun x hx iq=>by
  have:=List.all_eq_true.1 hH x.h.i (List.mem_map.2 ⟨x,hx,rfl⟩);rcases Bool.or_eq_true_iff.1 this with h |h
  ·exact h
  ·exact absurd ⟨_,h⟩ iq
 unfold wpOp;simp only[im];refine La hS dQ hR (by rw[zL];exact Bool.false_ne_true) im (EJ o (List.mem_of_getElem? vY)) hp h fun ak a' V' D' w' ⟨Qr,hK⟩ ga uH gv=> ?_
 rw[Gr] at Qr hK;have Ff:∀x∈S.filter (fun x=>ja ow x.h.i),x.ok C ak V' /\x.cl C w' :=fun x hx=>by
  have B3:=(hX x (List.mem_filter.1 hx).1).1;have ax:x.ok C ak V' :=⟨B3.step.trans gv,B3.hd,B3.b,B3.v,B3.m⟩;obtain⟨h1,h2,h3⟩:=Nb Qr x.h (List.mem_map.2 ⟨x,hx,rfl⟩);exact⟨ax,SX.still ax ga h1 h2 h3⟩
 refine⟨?_,zY _ _ _ ?_ _ _ _ (ih ak a' V' D' w' hK ga (uH.mono fun k hk=> ?_) Ff)⟩
 ·rintro y ⟨x,hx,rfl⟩ iq;exact(Ff x (List.mem_filter.2 ⟨hx,zt x hx iq⟩)).2
 ·rintro y ⟨⟨x,hx,rfl⟩,iq⟩;exact⟨x,List.mem_filter.2 ⟨hx,zt x hx iq⟩,rfl⟩
 ·rcases hk with hk |rfl
  ·exact getD_set_true hk
  ·exact MY (LW hj)
theorem Sy (dQ:cK c P) {l:List Oper} {K:LS->Prop} {Q:Exit->Act->World->Prop} (hQ0:∀c a w,¬Q (.panic c) a w) (hQ:∀ak a' w',K ak->jO C n ak a' w' ->Q .normal a' w')
  (EE:Region.noSelect ⟨l⟩=true) (EJ:∀o∈l,mq n o=true):
  ∀(pl:Plan) (fuel:Nat) (listed:Array Bool) (rem:Option (List Nat)) (st:LS) (a:Act) (V:Vl) (D:Nat->Nat) (w:World) (S:List SX),
   lv ⟨l⟩ pl fuel (S.map (·.h.i)) listed rem=true->AllClosed ⟨l⟩ listed->wZ c P l K pl (S.map (·.h)) st->Sat C n st a V D w->RInv ⟨l⟩ (fun k=>listed.getD k false=true) st.rho->(∀x∈S,x.ok C st V/\x.cl C w)->
   match rem with
   |none=>qO P ⟨l⟩ Q fuel (fun y=>∃x∈S,y=(x.h.i,x.cl C)) listed a w
   |some R=>∀f,fuel=f+1->∀j∈R,wpOp P ⟨l⟩ Q j (fun a' w' =>(∀y,(∃x∈S,y=(x.h.i,x.cl C))->¬pL ⟨l⟩ j y.1->y.2 w')/\qO P ⟨l⟩ Q f (fun y=>(∃x∈S,y=(x.h.i,x.cl C))/\¬pL ⟨l⟩ j y.1) (listed.setIfInBounds j true) a' w') a w:=by
 intro pl;induction pl with
 |done=>
  intro fuel listed rem st a V D w S hc bW h hS hR hX;cases rem with
  |some R=>simp [lv] at hc
  |none=>
   simp only[lv,List.isEmpty_iff] at hc;have hq:=hQ _ _ _ h (FL hS);cases fuel with
   |zero=>exact⟨hc,hq⟩
   |succ f=>exact⟨fun _=>hq,by rw[hc];intro j hj;cases hj⟩
 |stop=>
  intro fuel listed rem st a V D w S hc bW h hS hR hX;cases rem with
  |none=>simp [lv] at hc
  |some R=>
   simp only[lv,List.isEmpty_iff] at hc;subst hc;intro f _ j hj;cases hj
 |hoist i r ih=>
  intro fuel listed rem st a V D w S hc bW h hS hR hX;cases rem with
  |some R=>cases fuel<;>simp [lv] at hc
  |none=>
   cases fuel with
   |zero=>simp [lv] at hc
   |succ f=>
    simp only[lv,cY] at hc;obtain⟨⟨Em,cu⟩,hc⟩:=hc;have cu:i∈Region.ready .any ⟨l⟩ listed:=by simpa using cu
    obtain⟨o,ho,h⟩:=aG h;obtain⟨p,hp,h⟩:=aG h;have vY:l[i]? =some o:=Hn ho;have im:(⟨l⟩:Array Oper)[i]? =some o:=by simpa using vY
    have zL:=GH (mem_ready.1 cu).1;obtain⟨v,x,ak,hxi,hy,hclw,ax,hn,hv,hK,ga,uH⟩:=TY hS hR (by rw[zL];exact Bool.false_ne_true) im (EJ o (List.mem_of_getElem? vY)) hp h;refine hoist im (Region.noSelect_spec EE) hQ0 f _ listed a w (Region.free_spec im Em) (bW i) cu hy hclw ?_ ?_
    ·rintro y ⟨z,hz,rfl⟩;exact(hX z hz).2
    ·have:=ih f (listed.setIfInBounds i true) none ak (a.put o.dst v) V D w (x::S) (by simp only[br,hxi];exact hc) (bW.set cu) hK ga (uH.mono fun k hk=>by
      rcases hk with hk |rfl
      ·exact getD_set_true hk
      ·exact MY (LW cu)) (fun z hz=>by
      rcases List.mem_cons.1 hz with rfl |hz
      ·exact⟨ax,hclw⟩
      ·obtain⟨h1,h2⟩:=hX z hz
       exact⟨⟨by rw[hn,hv];exact h1.step,h1.hd,h1.b,h1.v,h1.m⟩,h2⟩)
     refine zY _ _ _ ?_ _ _ _ this;rintro y (rfl |⟨z,hz,rfl⟩)
     ·exact⟨x,dz ..,by rw[hxi]⟩
     ·exact⟨z,cS _ hz,rfl⟩
 |alt j ow r nx ihr ihn=>
  intro fuel listed rem st a V D w S hc bW h hS hR hX;cases fuel with
  |zero=>cases rem<;>simp [lv] at hc
  |succ f=>
   obtain⟨h,rP⟩:=h;have key:∀(hj:j∈Region.ready .any ⟨l⟩ listed) (hH:(S.map (·.h.i)).all (fun i=>ja ow i||vH ⟨l⟩ l.length j i)=true) (Jg:lv ⟨l⟩ r f ((S.map (·.h.i)).filter (ja ow)) (listed.setIfInBounds j true) none=true),
     wpOp P ⟨l⟩ Q j (fun a' w' =>(∀y,(∃x∈S,y=(x.h.i,x.cl C))->¬pL ⟨l⟩ j y.1->y.2 w')/\qO P ⟨l⟩ Q f (fun y=>(∃x∈S,y=(x.h.i,x.cl C))/\¬pL ⟨l⟩ j y.1) (listed.setIfInBounds j true) a' w') a w:=by
    intro hj hH Jg;refine X5 dQ EJ hj hH h hS hR hX fun ak a' V' D' w' hK ga uH Ff=> ?_
    exact ihr f (listed.setIfInBounds j true) none ak a' V' D' w' (S.filter fun x=>ja ow x.h.i) (by rw[VO];exact Jg) (bW.set hj) hK ga uH Ff
   cases rem with
   |none=>
    simp only[lv,cY] at hc;obtain⟨⟨⟨h1,h2⟩,h3⟩,h4⟩:=hc;have hj:j∈Region.ready .any ⟨l⟩ listed:=by simpa using h1
    have za:=ihn (f+1) listed (some _) st a V D w S h4 bW rP hS hR hX f rfl;refine⟨fun h0=>(by rw[h0] at hj;cases hj),fun k hk=> ?_⟩;by_cases e:k=j
    ·subst e;exact key hj h2 h3
    ·exact za k (List.mem_filter.2 ⟨hk,by simpa using e⟩)
   |some R=>
    simp only[lv,cY] at hc;obtain⟨⟨⟨⟨h0,h1⟩,h2⟩,h3⟩,h4⟩:=hc;have hj:j∈Region.ready .any ⟨l⟩ listed:=by simpa using h1
    have za:=ihn (f+1) listed (some _) st a V D w S h4 bW rP hS hR hX f rfl;rintro f' e k hk;obtain rfl:f=f' :=Nat.succ.inj e;by_cases e:k=j
    ·subst e;exact key hj h2 h3
    ·exact za k (List.mem_filter.2 ⟨hk,by simpa using e⟩)
theorem cg (pl:Plan) (dQ:cK c P) {id:Nat} {l:List Oper} {Q:Exit->LS->Prop} {st:LS} (hm:P.follows .mixedOrders=true)
  (hc:(lv ⟨l⟩ pl l.length [] (Array.replicate l.length false) none&&Region.noSelect ⟨l⟩&&l.all (mq n))=true)
  (h:vM (.mk (k:=(c,P,l,Q .normal,pl,[])) st)):jR (.mk (k:=(P,n,.region id ⟨l⟩ true,Q)) st):=by
 simp only[cY] at hc;obtain⟨⟨hc,I2⟩,hd⟩:=hc;rintro C a w ⟨gi,V,D,hS⟩;refine wp_mono (Q:=fun e a' w' =>match e with | .normal=>∃ak,jO C n ak a' w' /\Q .normal ak |_=>False) (wp_region_any hm (Kf _ (fun y=>∃x∈([]:List SX),y=(x.h.i,x.cl C)) _ _ _ ?_)) ?_
 ·refine Sy dQ (K:=Q .normal) (fun _ _ _ h=>h) (fun ak a' w' hq hE=>⟨ak,hE,hq⟩) I2 (fun o ho=>List.all_eq_true.1 hd o ho) pl l.length (Array.replicate l.length false) none st a V D _ [] hc ?_ h
   ⟨hS.f,hS.ids,hS.w.drew _⟩ ?_ (fun x hx=>by cases hx)
  ·intro i k hk;exfalso;rcases Nat.lt_or_ge k l.length with h' |h'
   ·simp [h'] at hk
   ·simp [Nat.not_lt.2 h'] at hk
  ·rw[gi];intro g hg;cases hg
 ·intro e a' w' hq;cases e with
  |normal=>exact hq
  |_=>exact False.elim hq
end
section
variable {c:Cfg} {P:Program} {l:List Oper} {K:LS->Prop} {I:List HX} {st:LS}
theorem Ur:vM (.mk (k:=(c,P,l,K,Plan.done,I)) st)=K (clean st):=rfl
theorem Uq:vM (.mk (k:=(c,P,l,K,Plan.stop,I)) st)=True:=rfl
theorem Ta {i:Nat} {r:Plan}:vM (.mk (k:=(c,P,l,K,Plan.hoist i r,I)) st)=
  aI (.mk (k:=fun o:Oper=>aI (.mk (k:=fun p:bt=>gv (.mk (k:=(c,P,o,i,fun ak X=>vM (.mk (k:=(c,P,l,K,r,X::I)) ak))) (st,p))) (pathOf st o.guard))) (rL l i)):=rfl
theorem Wv {j:Nat} {ow:List Nat} {r nx:Plan}:vM (.mk (k:=(c,P,l,K,Plan.alt j ow r nx,I)) st)=
  (aI (.mk (k:=fun o:Oper=>aI (.mk (k:=fun p:bt=>one (.mk (k:=(c,P,j,o,fun ak=>xA ak (qa ow I)/\vM (.mk (k:=(c,P,l,K,r,qa ow I)) ak))) (st,p))) (pathOf st o.guard))) (rL l j))/\
   vM (.mk (k:=(c,P,l,K,nx,I)) st)):=rfl
end
theorem YF {x:ByteArray}:(Value.string x).oneCell' =true:=rfl
theorem YH {k:IntKind} {x:Int}:(Value.int k x).oneCell' =true:=rfl
theorem W4 {x:Bool}:(Value.bool x).oneCell' =true:=rfl
theorem YG {x:Option Addr}:(Value.pointer x).oneCell' =true:=rfl
theorem ZS {x:Option Addr} {n c:Nat}:(Value.slice x n c).oneCell' =true:=rfl
attribute [go_sem] YF YH W4 YG ZS
attribute [go_sem] gv.eq_1 ED.eq_1 ED.eq_2 wU.eq_1 wU.eq_2 wU.rdIds1.eq_1 wU.rdIds1.eq_2 lC.eq_1 lC.eq_2 lC.eq_3 lC.eq_4 lC.eq_5 lC.eq_6 lC.eq_7 lC.eq_8 lC.eq_9 lC.eq_10 lC.eq_11 lC.eq_12 lC.eq_13 lC.eq_14 lC.eq_15 lC.eq_16 Ur Uq Ta Wv rL.eq_1 rL.eq_2 rL.eq_3 qa.eq_1 qa.eq_2 xA.eq_1 xA.eq_2
theorem least {J:Nat->Prop}:∀n,J n->∃k,J k/\∀j,j<k->¬J j:=by
 intro n;induction n using Nat.strongRecOn with
 |_ n ih=>
  intro h;by_cases hj:∃j,j<n/\J j
  ·obtain⟨j,ao,hJ⟩:=hj;exact ih j ao hJ
  ·exact⟨n,h,fun j ao hJ=>hj ⟨j,ao,hJ⟩⟩
section
variable {P:Program} {a:Act} {w:World} {Q:Exit->Act->World->Prop}
theorem Q5 {c rest:Code} (l:Nat) (J:Nat->Act->World->Prop) (hf:findLabel c l=some rest) (first:c.wp P (Exit.jump l (fun a' w' =>∃k,J k a' w') Q) a w)
  (pass:∀k a w,J k a w->rest.wp P (Exit.jump l (fun a' w' =>∃k',k' <k/\J k' a' w') Q) a w):(Code.scope c).wp P Q a w:=by
 classical
 refine wp_scope_jumps l (fun a w=>∃k,J k a w) (fun a w=>if h:∃k,J k a w/\∀j,j<k->¬J j a w then Classical.choose h else 0) hf first ?_
 rintro a w ⟨k0,h0⟩;have hex:∃k,J k a w/\∀j,j<k->¬J j a w:=least k0 h0;obtain⟨h1,h2⟩:=Classical.choose_spec hex;refine wp_mono (pass _ a w h1) ?_;intro e a' w' hq;cases e with
 |goto l' =>
  obtain⟨rfl,k',ao,hk⟩:=hq;refine⟨rfl,⟨k',hk⟩,?_⟩;have xi:∃k,J k a' w' /\∀j,j<k->¬J j a' w' :=least k' hk;simp only[dif_pos hex,dif_pos xi];rcases Nat.lt_or_ge (Classical.choose xi) (Classical.choose hex) with h |h
  ·exact h
  ·exact absurd hk ((Classical.choose_spec xi).2 k' (ej ao h))
 |_=>exact hq
end
section
variable {P:Program} {n:Nat} {c:Cfg} {st:LS}
theorem Wl (dQ:cK c P) {body rest:Code} {l:Nat} {Q:Exit->LS->Prop} {X:Type} (S:X->LS) (I:X->Prop) (μ:X->Nat) (hf:findLabel body l=some rest)
  (rT:iW n rest=true) (hn:∀x,I x->st.nid<=(S x).nid) (hm:∀x,I x->an st.m (S x).m) (ax:∀x,pv (S x))
  (first:WP P n body (A8 l (fun ak=>∃x',Match ak (S x')/\I x') Q) st)
  (pass:∀x,I x->dK (.mk (k:=(c,P,n,rest,A8 l (fun ak=>∃x',Match ak (S x')/\I x' /\μ x' <μ x) Q)) (S x))):jR (.mk (k:=(P,n,.scope body,Q)) st):=by
 rintro C a w ⟨gi,V,D,hS⟩;have hB:∀b∈C.H0.bx,b.id<st.nid:=fun b hb=>(hS.w.baseB b hb).2
 have hV:∀b∈C.H0.vc,b.id<st.nid:=fun b hb=>(hS.w.baseV b hb).2.1
 have Cg:∀x,I x->C.m0.le (S x).m:=fun x hx=>by
  rcases hm x hx with e |h
  ·rw[<- e];exact hS.w.m0
  ·exact Mem.le_trans hS.w.m0 h
 have vv:∀(lk:LS) (a1:Act) (w1:World) (x:X),jO C n lk a1 w1->Match lk (S x)->I x->jO C n (S x) a1 w1:=by
  rintro lk a1 w1 x ⟨_,V1,D1,hS1⟩ hM hx;exact⟨hM.2.1,V1,D1,hS1.weaken hM (ax x) (fun b hb=>ej (hB b hb) (hn x hx)) (fun b hb=>ej (hV b hb) (hn x hx)) (Cg x hx)⟩
 refine Q5 l (fun k a w=>∃x,I x/\μ x=k/\jO C n (S x) a w) hf ?_ ?_
 ·refine wp_mono (first C a w ⟨gi,V,D,hS⟩) ?_;rintro e a2 w2 ⟨bR,bQ,hq⟩;cases e with
  |goto l' =>
   obtain⟨rfl,x',hM,cB⟩:=hq;exact⟨rfl,μ x',x',cB,rfl,vv _ _ _ _ bQ hM cB⟩
  |normal=>exact⟨bR,bQ,hq⟩
  |exit id=>exact⟨bR,bQ,hq⟩
  |ret=>exact⟨bR,bQ,hq⟩
  |panic ch=>exact⟨bR,bQ,hq⟩
  |outgrown=>exact⟨bR,bQ,hq⟩
 ·rintro k a1 w1 ⟨x,hx,rfl,hE⟩;refine wp_mono (qD dQ rT (pass x hx) C a1 w1 hE) ?_;rintro e a2 w2 ⟨bR,bQ,hq⟩;cases e with
  |goto l' =>
   obtain⟨rfl,x',hM,cB,ao⟩:=hq;exact⟨rfl,μ x',ao,x',cB,rfl,vv _ _ _ _ bQ hM cB⟩
  |normal=>exact⟨bR,bQ,hq⟩
  |exit id=>exact⟨bR,bQ,hq⟩
  |ret=>exact⟨bR,bQ,hq⟩
  |panic ch=>exact⟨bR,bQ,hq⟩
  |outgrown=>exact⟨bR,bQ,hq⟩
def IM (Q:Exit->LS->Prop):Exit->LS->Prop
 | .goto _,_=>False
 |e,st=>Q e st
theorem Uk (dQ:cK c P) {body:Code} {Q:Exit->LS->Prop} (hd:iW n body=true) (h:dK (.mk (k:=(c,P,n,body,IM Q)) st)):jR (.mk (k:=(P,n,.scope body,Q)) st):=by
 intro C a w hE;refine wp_scope_straight (wp_mono (qD dQ hd h C a w hE) ?_);rintro e a2 w2 ⟨bR,bQ,hq⟩;cases e with
 |goto l=>exact hq.elim
 |normal=>exact⟨bR,bQ,hq⟩
 |exit id=>exact⟨bR,bQ,hq⟩
 |ret=>exact⟨bR,bQ,hq⟩
 |panic ch=>exact⟨bR,bQ,hq⟩
 |outgrown=>exact⟨bR,bQ,hq⟩
theorem Uj (dQ:cK c P) {rest:Code} {l:Nat} {Q:Exit->LS->Prop} {X:Type} (S:X->LS) (I:X->Prop) (μ:X->Nat) (x0:X)
  (hd:iW n rest=true) (hn:∀x,I x->st.nid<=(S x).nid) (hm:∀x,I x->an st.m (S x).m) (ax:∀x,pv (S x)) (h0:Match st (S x0)) (hI:I x0)
  (pass:∀x,I x->dK (.mk (k:=(c,P,n,rest,A8 l (fun ak=>∃x',Match ak (S x')/\I x' /\μ x' <μ x) Q)) (S x))):jR (.mk (k:=(P,n,.scope (.seq (.label l) rest),Q)) st):=by
 have Cm:iW n (.seq .skip rest)=true:=by simp only[iW,Bool.true_and];exact hd
 have v8:iW n (.seq (.label l) rest)=true:=by simp only[iW,Bool.true_and];exact hd
 refine Wl dQ S I μ (rest:= .seq .skip rest) (by simp [findLabel]) Cm hn hm ax ?_ pass;rintro C a w ⟨gi,V,D,hS⟩
 have hE:jO C n (S x0) a w:=⟨h0.2.1,V,D,hS.weaken h0 (ax x0) (fun b hb=>ej (hS.w.baseB b hb).2 (hn x0 hI)) (fun b hb=>ej (hS.w.baseV b hb).2.1 (hn x0 hI)) (by
  rcases hm x0 hI with e |h
  ·rw[<- e];exact hS.w.m0
  ·exact Mem.le_trans hS.w.m0 h)⟩
 have hw:WP P n (.seq (.label l) rest) _ (S x0):=qD dQ v8 (pass x0 hI);refine(WP.mono hw ?_) C a w hE;intro e ak hq;cases e with
 |goto l' =>
  obtain⟨rfl,x',hM,cB,_⟩:=hq;exact⟨rfl,x',hM,cB⟩
 |_=>exact hq
theorem Wm (dQ:cK c P) {id:Nat} {body:Code} {K:LS->Prop} {Q:Exit->LS->Prop} {X Y:Type} (S:X->LS) (I:X->Prop) (μ:X->Nat) (x0:X) (E:Y->LS) (J:Y->Prop)
  (hd:iW n body=true) (hn:∀x,I x->st.nid<=(S x).nid) (hm:∀x,I x->an st.m (S x).m) (ax:∀x,pv (S x)) (h0:Match st (S x0)) (hI:I x0)
  (Qs:∀y,J y->st.nid<=(E y).nid) (hmE:∀y,J y->an st.m (E y).m) (acX:∀y,pv (E y)) (out:∀y,J y->K (E y))
  (round:∀x,I x->dK (.mk (k:=(c,P,n,body,jI (fun ak=>∃x',Match ak (S x')/\I x' /\μ x' <μ x) (pV id (jI (fun ak=>∃y,Match ak (E y)/\J y) Q)))) (S x))):
  jR (.mk (k:=(P,n,.loop body,pV id (jI K Q))) st):=by
 have hW:WP P n (.loop body) (pV id (jI (fun ak=>∃y,Match ak (E y)/\J y) Q)) st:=fg dQ S I μ x0 hd hn hm ax h0 hI round;rintro C a w ⟨gi,V,D,hS⟩;have hK:∀bR a2 w2,jO C n bR a2 w2->(∃y,Match bR (E y)/\J y)->∃ak,jO C n ak a2 w2/\K ak:=by
  rintro bR a2 w2 ⟨_,V2,D2,hS2⟩ ⟨y,hM,hy⟩;refine⟨E y,⟨hM.2.1,V2,D2,hS2.weaken hM (acX y) (fun b hb=>ej (hS.w.baseB b hb).2 (Qs y hy)) (fun b hb=>ej (hS.w.baseV b hb).2.1 (Qs y hy)) ?_⟩,out y hy⟩;rcases hmE y hy with e |h
  ·rw[<- e];exact hS.w.m0
  ·exact Mem.le_trans hS.w.m0 h
 refine wp_mono (hW C a w ⟨gi,V,D,hS⟩) ?_;rintro e a2 w2 ⟨bR,bQ,hq⟩;cases e with
 |normal=>
  obtain⟨ES,h1,h2⟩:=hK bR a2 w2 bQ hq;exact⟨ES,h1,h2⟩
 |exit id' =>
  simp only[pV] at hq;split at hq
  ·rename_i e;obtain⟨ES,h1,h2⟩:=hK bR a2 w2 bQ hq;exact⟨ES,h1,by simp only[pV];rw[aj e];exact h2⟩
  ·rename_i e;exact⟨bR,bQ,by simp only[pV];rw[ae e];exact hq⟩
 |goto l=>exact⟨bR,bQ,hq⟩
 |ret=>exact⟨bR,bQ,hq⟩
 |panic ch=>exact⟨bR,bQ,hq⟩
 |outgrown=>exact⟨bR,bQ,hq⟩
theorem pO {x:Code} {Q:Exit->LS->Prop} (t:Nat) (e:TypeId) (sz:Nat) (h0:0<sz) (hl:fS st.env t []=some (.v (.slice none 0 0)))
  (h:jR (.mk (k:=(P,n,x,Q)) ⟨⟨t,[],.vec st.nid 0⟩::st.env,st.rho,st.bx,⟨st.nid,0,e,sz,0,[]⟩::st.vc,st.nid+1,st.m⟩)):jR (.mk (k:=(P,n,x,Q)) st):=by
 rintro C a w ⟨gi,V,D,hS⟩;obtain⟨V',ha,hγ,hW⟩:=hS.w.addVc (w' :=w) (hd:=⟨none,0,0⟩) (e:=e) (sz:=sz) (n:=0) (xs:=[]) rfl rfl rfl (aq _) (fun _ _=>rfl) (World.ownsRow_nil w 0 e sz) (fun g hg=>by cases hg) h0 (fun u hu=>by cases hu);have ga:Sat C n _ a V' D w:=hS.to ha (Nat.le_succ _) (fun k u hk hv=>tf rfl k u hk hv) hW;refine h C a w ⟨gi,V',D,⟨ga.f.defers,ga.f.size,fun e' rS=> ?_,fun t' q s' hq kv hc=> ?_,ga.f.rho⟩,fun e' rS=> ?_,hW⟩
 ·rcases List.mem_cons.1 rS with rfl |rS
  ·exact qK
  ·exact ga.f.pth e' rS
 ·simp only[fS] at kv;split at kv
  ·rename_i ht;subst ht;split at kv
   ·cases kv;have:=hS.f.env t [] _ qK hl rfl;rw[this];show some (Value.slice none 0 0)=some (Hd.val (V'.γ st.nid 0));rw[hγ];rfl
   ·cases kv
  ·exact ga.f.env t' q s' hq kv hc
 ·rcases List.mem_cons.1 rS with rfl |rS
  ·exact⟨Nat.lt_succ_self _,by simp [bS]⟩
  ·exact ga.ids e' rS
end
attribute [go_sem] IM.eq_1 IM.eq_2
end Go.Proofs.YtimddhkipjedcaaGreatDoor.E
namespace Go.Proofs
open Go.Shelf
def Tryz.lays137_ren:Go.Shelf.Ren:=⟨fun |137=>183 |217=>222 |266=>244 |n=>n,fun |9=>9 |5=>5 |3=>3 |n=>n,fun |n=>n⟩
theorem Tryz.lays137:Go.Proofs.Lays.n137 Tryz.prog Tryz.lays137_ren:={
 mixed:=by kernel_rfl
 f137:=Tryz.func183.trans (congrArg some (by kernel_rfl))
 f217:=Tryz.func222.trans (congrArg some (by kernel_rfl))
 f266:=Tryz.func244.trans (congrArg some (by kernel_rfl))
 t3:=Tryz.underlying3
 a3:=Tryz.isAgg3
 z3:=Tryz.sizeOf3
 v3:=Tryz.zeroValue3
 t5:=Tryz.underlying5
 a5:=Tryz.isAgg5
 z5:=Tryz.sizeOf5
 v5:=Tryz.zeroValue5
 t9:=Tryz.underlying9
 a9:=Tryz.isAgg9
 z9:=Tryz.sizeOf9
 v9:=Tryz.zeroValue9}
open Go.RowKit in
theorem Tryz.strings_IndexByte (s:ByteArray) (c:Int) (w:World):
  Calls Tryz.prog 183 #[.string s,.int .u8 c] w fun e w' =>e= .returned (.int .i64 (Lib.indexByte s.data.toList c.toNat.toUInt8))/\w' =w:=Any.strings_IndexByte Tryz.lays137 s c w
def Tryz.lays155_ren:Go.Shelf.Ren:=⟨fun |155=>224 |154=>245 |138=>254 |165=>255 |143=>248 |166=>256 |197=>257 |169=>258 |195=>267 |218=>268 |240=>269 |241=>270 |219=>264 |260=>271 |276=>280 |277=>281 |217=>222 |225=>277 |224=>278 |267=>279 |266=>244 |314=>283 |n=>n,fun |9=>9 |3=>3 |4=>4 |72=>210 |0=>0 |76=>212 |105=>214 |21=>21 |5=>5 |70=>208 |20=>20 |37=>83 |75=>195 |127=>225 |164=>230 |46=>220 |119=>233 |139=>236 |138=>235 |146=>241 |51=>240 |80=>85 |n=>n,fun |1=>1 |3=>4 |4=>5 |n=>n⟩
theorem Tryz.lays155:Go.Proofs.Lays.n155 Tryz.prog Tryz.lays155_ren:={
 mixed:=by kernel_rfl
 f138:=Tryz.func254.trans (congrArg some (by kernel_rfl))
 f143:=Tryz.func248.trans (congrArg some (by kernel_rfl))
 f154:=Tryz.func245.trans (congrArg some (by kernel_rfl))
 f155:=Tryz.func224.trans (congrArg some (by kernel_rfl))
 f165:=Tryz.func255.trans (congrArg some (by kernel_rfl))
 f166:=Tryz.func256.trans (congrArg some (by kernel_rfl))
 f169:=Tryz.func258.trans (congrArg some (by kernel_rfl))
 f195:=Tryz.func267.trans (congrArg some (by kernel_rfl))
 f197:=Tryz.func257.trans (congrArg some (by kernel_rfl))
 f217:=Tryz.func222.trans (congrArg some (by kernel_rfl))
 f218:=Tryz.func268.trans (congrArg some (by kernel_rfl))
 f219:=Tryz.func264.trans (congrArg some (by kernel_rfl))
 f224:=Tryz.func278.trans (congrArg some (by kernel_rfl))
 f225:=Tryz.func277.trans (congrArg some (by kernel_rfl))
 f240:=Tryz.func269.trans (congrArg some (by kernel_rfl))
 f241:=Tryz.func270.trans (congrArg some (by kernel_rfl))
 f260:=Tryz.func271.trans (congrArg some (by kernel_rfl))
 f266:=Tryz.func244.trans (congrArg some (by kernel_rfl))
 f267:=Tryz.func279.trans (congrArg some (by kernel_rfl))
 f276:=Tryz.func280.trans (congrArg some (by kernel_rfl))
 f277:=Tryz.func281.trans (congrArg some (by kernel_rfl))
 f314:=Tryz.func283.trans (congrArg some (by kernel_rfl))
 t0:=Tryz.underlying0
 a0:=Tryz.isAgg0
 z0:=Tryz.sizeOf0
 v0:=Tryz.zeroValue0
 t3:=Tryz.underlying3
 a3:=Tryz.isAgg3
 z3:=Tryz.sizeOf3
 v3:=Tryz.zeroValue3
 t4:=Tryz.underlying4
 a4:=Tryz.isAgg4
 z4:=Tryz.sizeOf4
 v4:=Tryz.zeroValue4
 t5:=Tryz.underlying5
 a5:=Tryz.isAgg5
 z5:=Tryz.sizeOf5
 v5:=Tryz.zeroValue5
 t9:=Tryz.underlying9
 a9:=Tryz.isAgg9
 z9:=Tryz.sizeOf9
 v9:=Tryz.zeroValue9
 t20:=Tryz.underlying20
 a20:=Tryz.isAgg20
 z20:=Tryz.sizeOf20
 v20:=Tryz.zeroValue20
 t21:=Tryz.underlying21
 a21:=Tryz.isAgg21
 z21:=Tryz.sizeOf21
 v21:=Tryz.zeroValue21
 t37:=Tryz.underlying83
 a37:=Tryz.isAgg83
 z37:=Tryz.sizeOf83
 v37:=Tryz.zeroValue83
 t46:=Tryz.underlying220
 a46:=Tryz.isAgg220
 z46:=Tryz.sizeOf220
 v46:=Tryz.zeroValue220
 t51:=Tryz.underlying240
 a51:=Tryz.isAgg240
 z51:=Tryz.sizeOf240
 v51:=Tryz.zeroValue240
 t70:=Tryz.underlying208
 a70:=Tryz.isAgg208
 z70:=Tryz.sizeOf208
 v70:=Tryz.zeroValue208
 t72:=Tryz.underlying210
 a72:=Tryz.isAgg210
 z72:=Tryz.sizeOf210
 v72:=Tryz.zeroValue210
 t75:=Tryz.underlying195
 a75:=Tryz.isAgg195
 z75:=Tryz.sizeOf195
 v75:=Tryz.zeroValue195
 t76:=Tryz.underlying212
 a76:=Tryz.isAgg212
 z76:=Tryz.sizeOf212
 v76:=Tryz.zeroValue212
 t105:=Tryz.underlying214
 a105:=Tryz.isAgg214
 z105:=Tryz.sizeOf214
 v105:=Tryz.zeroValue214
 t119:=Tryz.underlying233
 a119:=Tryz.isAgg233
 z119:=Tryz.sizeOf233
 t127:=Tryz.underlying225
 a127:=Tryz.isAgg225
 z127:=Tryz.sizeOf225
 v127:=Tryz.zeroValue225
 t138:=Tryz.underlying235
 a138:=Tryz.isAgg235
 z138:=Tryz.sizeOf235
 v138:=Tryz.zeroValue235
 t139:=Tryz.underlying236
 a139:=Tryz.isAgg236
 z139:=Tryz.sizeOf236
 v139:=Tryz.zeroValue236
 t146:=Tryz.underlying241
 a146:=Tryz.isAgg241
 z146:=Tryz.sizeOf241
 v146:=Tryz.zeroValue241
 t164:=Tryz.underlying230
 a164:=Tryz.isAgg230
 z164:=Tryz.sizeOf230
 v164:=Tryz.zeroValue230
 g1:=by kernel_rfl
 g3:=by kernel_rfl
 g4:=by kernel_rfl}
theorem Tryz.Builder_Extra_155:Builder.Extra Tryz.prog Tryz.lays155_ren:={
 sizeBuilder:=by kernel_rfl
 liesBuilder:=by kernel_rfl
 t5:=Tryz.underlying5
 a5:=Tryz.isAgg5
 z5:=Tryz.sizeOf5
 v5:=Tryz.zeroValue5
 infoByte:=by kernel_rfl
 cellsByte:=by kernel_rfl
 sizeByte:=by kernel_rfl
 neB5:=by decide}
open Go.RowKit Go.Lib in
theorem Tryz.strings_ReplaceAll (s eB new:ByteArray) (m:Int) (w:World) (hs:s.size<4294967281) (hm:w.cell? ⟨1,0,none⟩=some (.int .i64 m)) (h1:1<=eB.size) (hlen:s.size+Lib.countB s eB * new.size<=140737488355328):
  Calls Tryz.prog 224 #[.string s,.string eB,.string new] w fun e w' =>
   e= .returned (.string ⟨(Lib.replaceAll s.data.toList eB.data.toList new.data.toList).toArray⟩)/\Below w.heap.size w w' :=Any.strings_ReplaceAll Tryz.lays155 Tryz.Builder_Extra_155 s eB new m w hs hm h1 hlen
def Tryz.lays144_ren:Go.Shelf.Ren:=⟨fun |144=>228 |143=>248 |219=>264 |217=>222 |225=>277 |224=>278 |267=>279 |266=>244 |314=>283 |n=>n,fun |9=>9 |4=>4 |3=>3 |5=>5 |46=>220 |146=>241 |51=>240 |n=>n,fun |1=>1 |n=>n⟩
theorem Tryz.lays144:Go.Proofs.Lays.n144 Tryz.prog Tryz.lays144_ren:={
 mixed:=by kernel_rfl
 f143:=Tryz.func248.trans (congrArg some (by kernel_rfl))
 f144:=Tryz.func228.trans (congrArg some (by kernel_rfl))
 f217:=Tryz.func222.trans (congrArg some (by kernel_rfl))
 f219:=Tryz.func264.trans (congrArg some (by kernel_rfl))
 f224:=Tryz.func278.trans (congrArg some (by kernel_rfl))
 f225:=Tryz.func277.trans (congrArg some (by kernel_rfl))
 f266:=Tryz.func244.trans (congrArg some (by kernel_rfl))
 f267:=Tryz.func279.trans (congrArg some (by kernel_rfl))
 f314:=Tryz.func283.trans (congrArg some (by kernel_rfl))
 t3:=Tryz.underlying3
 a3:=Tryz.isAgg3
 z3:=Tryz.sizeOf3
 v3:=Tryz.zeroValue3
 t4:=Tryz.underlying4
 a4:=Tryz.isAgg4
 z4:=Tryz.sizeOf4
 v4:=Tryz.zeroValue4
 t5:=Tryz.underlying5
 a5:=Tryz.isAgg5
 z5:=Tryz.sizeOf5
 v5:=Tryz.zeroValue5
 t9:=Tryz.underlying9
 a9:=Tryz.isAgg9
 z9:=Tryz.sizeOf9
 v9:=Tryz.zeroValue9
 t46:=Tryz.underlying220
 a46:=Tryz.isAgg220
 z46:=Tryz.sizeOf220
 v46:=Tryz.zeroValue220
 t51:=Tryz.underlying240
 a51:=Tryz.isAgg240
 z51:=Tryz.sizeOf240
 v51:=Tryz.zeroValue240
 t146:=Tryz.underlying241
 a146:=Tryz.isAgg241
 z146:=Tryz.sizeOf241
 v146:=Tryz.zeroValue241
 g1:=by kernel_rfl}
theorem Tryz.strings_Contains_one (s:ByteArray) (c:UInt8) (w:World):
  Calls Tryz.prog 228 #[.string s,.string ⟨#[c]⟩] w fun e w' =>e= .returned (.bool (decide (0<=Lib.indexByte s.data.toList c)))/\w' =w:=Any.strings_Contains_one Tryz.lays144 s c w
end Go.Proofs
namespace Go.Proofs.YtimddhkipjedcaaGreatDoor.E
open Go Go.RowKit
attribute [go_sem] or_true or_false true_or false_or dy exists_eq_left exists_eq_left' true_implies true_and and_true Bool.and_true Bool.true_and Bool.or_false Bool.false_or Bool.not_true Bool.not_false Bool.and_false Bool.false_and jD List.nil_append List.append_nil Mo yS List.getElem?_cons_zero List.getElem?_cons_succ eq_self implies_true false_implies gz decide_eq_false_iff_not cY Bool.or_eq_true Bool.not_eq_true' Bool.and_eq_false_iff Bool.or_eq_false_iff Bool.not_eq_false' SV.v.injEq Value.int.injEq Value.bool.injEq Value.string.injEq List.contains_cons List.contains_nil beq_self_eq_true Nat.max_def Int.toNat_natCast Nat.mul_one Int.toNat_zero List.drop_zero Bx.mk.injEq Vc.mk.injEq List.cons.injEq List.take_length List.getElem?_nil List.getD_cons_zero List.getD_cons_succ not_false_eq_true aq Nat.reduceBEq Nat.reduceAdd Nat.reduceMul Nat.reduceSub Nat.reduceEqDiff Nat.reduceLT Nat.reduceLeDiff Option.map Option.bind List.map List.length reduceCtorEq Option.toList Option.getD List.set List.drop List.take Int.reduceToNat
def cf0:Cfg:=⟨fun _=>false,fun _=>none⟩
theorem nu {P:Program}:cK cf0 P:=fun f F h=>by cases h
def dm (c:Int):Bool:=decide (97<=c)&&decide (c<=122)||decide (65<=c)&&decide (c<=90)||decide (c=95)||decide (c=36)
def dF (c:Int):Bool:=decide (48<=c)&&decide (c<=57)
def lU (F:Int->Bool):List Value->Option (Prop×Value)
 |[.int .u8 c]=>some (True,.bool (F c))
 |_=>none
theorem GR {F:Int->Bool} {l:List Value} {y:Prop×Value} (h:lU F l=some y):∃c,l=[.int .u8 c]/\y=(True,.bool (F c)):=by
 unfold lU at h;split at h
 ·cases h;exact⟨_,rfl,rfl⟩
 ·cases h
theorem adI:eo Tryz.prog 9=some none:=by kernel_rfl
theorem adL:eo Tryz.prog 3=some none:=by kernel_rfl
theorem abk:Tryz.prog.underlying 9=some .string:=by kernel_rfl
attribute [go_sem] adI adL abk lU.eq_1
theorem aat:iQ Tryz.prog 55=some 9:=by kernel_rfl
theorem sz9:bC Tryz.prog 9=1:=by kernel_rfl
theorem by9:nE Tryz.prog 9=16:=by kernel_rfl
theorem Zz:ft Tryz.prog 9=some [.v (.string (bs []))]:=by kernel_rfl
theorem sz3:bC Tryz.prog 3=1:=by kernel_rfl
attribute [go_sem] aat sz9 by9 Zz sz3
abbrev gA:Cfg:=fP (fun _=>false) []
theorem ay:cK gA Tryz.prog:=pure_nil
def strs (l:List (List UInt8)):List Value:=l.map fun b=> .string (bs b)
theorem DP {m:Mem} {a:Option Addr} {n:Nat} {xs:List Value} (h:aK m a n 1 xs) {i:Nat} (hi:i<n):∃hx:i<xs.length,Rd m (ct a i) [xs[i]]/\a≠none:=by
 have hl:xs.length=n:=by rw[h.1,Nat.mul_one]
 refine⟨by omega,?_,?_⟩
 ·obtain⟨ad,rfl,hs,hc⟩:=h.2 (by omega);obtain⟨e1,e2,e3⟩:=oO ad i hs;refine⟨ad.add i,rfl,e3,fun j hj=> ?_⟩;obtain rfl:j=0:=by simp at hj;omega
  obtain⟨h1,h2⟩:=hc i (by omega);refine⟨?_,by rw[e1,e2];exact h2⟩;rw[show(ad.add i).add 0=ad.add i from rfl,h1];simp [hl,hi]
 ·obtain⟨ad,rfl,_⟩:=h.2 (by omega);simp
theorem LK {l:List (List UInt8)} {s:List UInt8} {k:Nat} (h:k<l.length):(l.take (k+1)).contains s=((l.take k).contains s||decide (s=l[k])):=by
 rw[List.take_succ_eq_append_getElem h,Bool.eq_iff_iff];simp only[List.contains_iff_mem,List.mem_append,List.mem_singleton,Bool.or_eq_true,gz]
theorem index_spec (l:List (List UInt8)) (s:List UInt8) (a:Option Addr) (n c:Nat) (m:Mem) (h:aK m a n 1 (strs l)) (hn:n<=4611686018427387904):
  FnH Tryz.prog 202 [.v (.slice a n c),.v (.string (bs s))] ⟨[],[]⟩ m fun r H' _=>(∃i:Int,r= .v (.int .i64 i)/\(decide (0<=i)=l.contains s))/\H' =⟨[],[]⟩:=by
 have hl:l.length=n:=by have:=h.1;simpa [strs] using this
 refine aL nu Tryz.func202 ?_
 ·simp only[go_sem];refine cO nu (fun k:Nat=>⟨[⟨0,[],.v (.slice a n c)⟩,⟨1,[],.v (.string (bs s))⟩,⟨7,[],.v (.int .i64 n)⟩,⟨8,[],.v (.int .i64 k)⟩],[],[],[],0,m⟩)
   (fun k=>k<=n/\(l.take k).contains s=false) (fun k=>n - k) 0 (fun _ _=>aq _) (fun _ _=> .inl rfl) ?_ ?_ ?_
  ·simp only[go_sem];rfl
  ·simp
  ·rintro k ⟨hk,hp⟩;simp only[go_sem];refine⟨fun ao=> ?_,fun cQ=> ?_⟩
   ·have I8:k<n:=by omega
    obtain⟨hx,hr,cP⟩:=DP h I8;refine⟨⟨by omega,ao,cP⟩,_,by simpa using hr,?_⟩;have cE:k<l.length:=by omega
    have e:(strs l)[k]= .string (bs l[k]):=by simp [strs]
    have ec:=LK (s:=s) cE;simp only[e];simp only[go_sem];refine⟨fun he=> ?_,fun he=>⟨by unfold az;omega,k+1,by omega,⟨by omega,?_⟩,by omega⟩⟩
    ·have:s∈l:=by rw[he];exact List.getElem_mem cE
     simp [this]
    ·rw[ec,hp];simp [he]
   ·have:l.take k=l:=gm (by omega);rw[this] at hp;rw[hp];rfl
theorem yf (l:List (List UInt8)) (s:List UInt8) (a:Option Addr) (n c:Nat) (m:Mem) (h:aK m a n 1 (strs l)) (hn:n<=4611686018427387904):
  FnH Tryz.prog 144 [.v (.slice a n c),.v (.string (bs s))] ⟨[],[]⟩ m fun r H' _=>r= .v (.bool (l.contains s))/\H' =⟨[],[]⟩:=by
 refine aL ay Tryz.func144 ?_
 ·simp only[go_sem];refine ab ((index_spec l s a n c m h hn).mono ?_);rintro r H' m' hm ⟨⟨i,rfl,hi⟩,rfl⟩;simp only[go_sem];exact hi
def fz:List (List UInt8):=[[97,98,115,116,114,97,99,116],[97,115],[99,97,116,99,104],[99,108,97,115,115],[101,108,115,101],[101,120,116,101,110,100,115],[102,105,110,97,108],[105,102],[105,109,112,108,101,109,101,110,116,115],[105,110,116],[105,110,116,101,114,102,97,99,101],[105,115],[108,101,110],[108,111,110,103],[110,101,119],[110,117,108,108],[112,114,105,118,97,116,101],[112,114,111,116,101,99,116,101,100],[112,117,98,108,105,99],[114,101,116,117,114,110],[115,116,97,116,105,99],[115,117,112,101,114],[115,121,110,99],[116,104,105,115],[116,104,114,111,119],[116,114,121],[118,111,105,100],[119,104,105,108,101]]
def fB:List (List UInt8):=[[62,62,62],[60,60],[62,62],[61,61],[33,61],[60,61],[62,61],[38,38],[124,124],[123],[125],[40],[41],[91],[93],[59],[44],[46],[61],[43],[45],[42],[47],[37],[38],[124],[94],[33],[60],[62]]
theorem Fv (m:Mem):FnH Tryz.prog 209 [] ⟨[],[]⟩ m fun r H' m' =>r= .vec 0 0/\H' =⟨[],[⟨0,0,9,1,28,strs fz⟩]⟩/\m' =m:=by
 refine aL ay Tryz.func209 ?_
 ·simp only[go_sem];rfl
theorem Q8 (m:Mem):FnH Tryz.prog 227 [] ⟨[],[]⟩ m fun r H' m' =>r= .vec 0 0/\H' =⟨[],[⟨0,0,9,1,30,strs fB⟩]⟩/\m' =m:=by
 refine aL ay Tryz.func227 ?_
 ·simp only[go_sem];rfl
def eZ (B:List UInt8->Prop) (F:List UInt8->Value):List Value->Option (Prop×Value)
 |[.string a]=>some (B (tl a),F (tl a))
 |_=>none
attribute [go_sem] eZ.eq_1
def ou (P:Program) (f:FuncId) (G:List Value->Option (Prop×Value)):Prop:=∀cL y,G cL=some y->y.1->∀m,FnH P f (cL.map SV.v) ⟨[],[]⟩ m (fun r H' _=>r= .v y.2/\H' =⟨[],[]⟩)
theorem qV {P:Program} {f:FuncId} {F:Int->Bool} (h:∀c m,FnH P f [.v (.int .u8 c)] ⟨[],[]⟩ m fun r H' _=>r= .v (.bool (F c))/\H' =⟨[],[]⟩):ou P f (lU F):=fun cL y hy _ m=>by
 obtain⟨c,rfl,rfl⟩:=GR hy;exact h c m
theorem fM {P:Program} {f:FuncId} {B:List UInt8->Prop} {F:List UInt8->Value} (h:∀a m,B a->FnH P f [.v (.string (bs a))] ⟨[],[]⟩ m fun r H' _=>r= .v (F a)/\H' =⟨[],[]⟩):ou P f (eZ B F):=fun cL y hy hB m=>by
 unfold eZ at hy;split at hy
 ·rename_i a;cases hy;have:=h (tl a) m hB;rwa [lH] at this
 ·cases hy
def u5 (c:Int):Int:=if dm c then 1 else if dF c then 2 else 0
theorem T6 (c:Int):u5 c=if 97<=c/\c<=122\/65<=c/\c<=90\/c=95\/c=36 then 1 else if 48<=c/\c<=57 then 2 else 0:=by
 simp [u5,dm,dF,or_assoc]
theorem S0 (c:Int) (m:Mem):FnH Tryz.prog 229 [.v (.int .u8 c)] ⟨[],[]⟩ m fun r H' _=>r= .v (.int .i64 (u5 c))/\H' =⟨[],[]⟩:=by
 refine aL ay Tryz.func229 ?_
 ·simp only[go_sem];rw[T6];split
  ·omega
  ·split<;>omega
def EV (F:Int->Value):List Value->Option (Prop×Value)
 |[.int .u8 c]=>some (True,F c)
 |_=>none
attribute [go_sem] EV.eq_1
theorem YB {P:Program} {f:FuncId} {F:Int->Value} (h:∀c m,FnH P f [.v (.int .u8 c)] ⟨[],[]⟩ m fun r H' _=>r= .v (F c)/\H' =⟨[],[]⟩):ou P f (EV F):=fun cL y hy _ m=>by
 unfold EV at hy;split at hy
 ·cases hy;exact h _ m
 ·cases hy
theorem Gz (c:Int):u5 c=1↔dm c=true:=by
 unfold u5;split
 ·simp_all
 ·split<;>simp_all
theorem Ly (c:Int):u5 c=2↔¬dm c=true/\dF c=true:=by
 unfold u5;split
 ·simp_all
 ·split<;>simp_all
def gD:Bool->List UInt8->Bool
 |start,[]=> !start
 |start,c::r=>if c.toNat=47/\start=false then gD true r else if dm c.toNat=true\/(dF c.toNat=true/\start=false) then gD false r else false
def eF (s:List UInt8):Bool:=decide (s.length<=64)&&gD true s
abbrev QV:Cfg:=fP (fun _=>false) [(229,EV fun c=> .int .i64 (u5 c))]
theorem P6:cK QV Tryz.prog:=pure_cons (by kernel_rfl) (YB S0) pure_nil
theorem drop_at {s:List UInt8} {k:Nat} (h:k<s.length):s.drop k=s.getD k 0::s.drop (k+1):=by
 rw[List.drop_eq_getElem_cons h,List.getD_eq_getElem?_getD,List.getElem?_eq_getElem h];rfl
theorem FK (s:List UInt8) (m:Mem) (hs:s.length<=4611686018427387904):FnH Tryz.prog 192 [.v (.string (bs s))] ⟨[],[]⟩ m fun r H' _=>r= .v (.bool (eF s))/\H' =⟨[],[]⟩:=by
  refine enter QV P6 Tryz.func192 rfl rfl (by kernel_rfl) rfl ?_ ?_
  · simp only[go_sem]
  · simp only[go_sem]
    refine⟨fun h=> ?_,fun h=> ?_⟩
    · rcases h with rfl |h
      · rfl
      · have:¬s.length<=64:=by omega
        simp [eF,this]
    · refine fg P6 (fun x:Nat×Bool=>⟨[⟨0,[],.v (.string (bs s))⟩,⟨3,[],.v (.bool x.2)⟩,⟨14,[],.v (.int .i64 s.length)⟩,⟨15,[],.v (.int .i64 x.1)⟩],[],[],[],0,m⟩)
        (fun x=>x.1<=s.length/\gD true s=gD x.2 (s.drop x.1)) (fun x=>s.length - x.1) (0,true) (by kernel_rfl) (fun _ _=>aq _) (fun _ _=> .inl rfl) (fun _=> ?_) ?_ ?_ ?_
      · simp only[go_sem]
      · simp only[go_sem]
        rfl
      · simp
      · rintro⟨k,st⟩ ⟨hk,hp⟩
        simp only at hk hp;simp only[go_sem];have hN:eF s=gD true s:=by
          have:s.length<=64:=by omega
          simp [eF,this]
        rw[hN];refine⟨fun ao=> ?_,fun cQ=> ?_⟩
        · have cE:k<s.length:=by omega
          rw[drop_at cE] at hp;simp only[gD] at hp;have hI:az (k+1):=by unfold az;omega
          refine⟨⟨by omega,ao⟩,⟨by omega,ao⟩,fun h1=>⟨hI,(k+1,true),⟨rfl,rfl⟩,⟨cE,?_⟩,by simp only;omega⟩,fun h1=>⟨fun h2=>⟨fun _=>⟨hI,(k+1,false),⟨rfl,rfl⟩,⟨cE,?_⟩,by simp only;omega⟩,fun h3=>absurd h2 h3⟩,
            fun h2=>⟨fun h3=>⟨hI,(k+1,false),⟨rfl,rfl⟩,⟨cE,?_⟩,by simp only;omega⟩,fun h3=> ?_⟩⟩⟩
          · rw[hp,aj ⟨by omega,h1.2⟩]
          · rw[hp,ae (by rintro⟨e,e'⟩;rcases h1 with h1 |h1;· omega
                         · rw[e'] at h1;cases h1),aj (.inl ((Gz _).1 h2))]
          · rw[hp,ae (by rintro⟨e,e'⟩;rcases h1 with h1 |h1;· omega
                         · rw[e'] at h1;cases h1),aj (.inr ⟨((Ly _).1 h3.1).2,h3.2⟩)]
          · rw[hp,ae (by rintro⟨e,e'⟩;rcases h1 with h1 |h1;· omega
                         · rw[e'] at h1;cases h1),ae]
            rintro(e |⟨e,e'⟩)
            · exact h2 ((Gz _).2 e)
            · rcases h3 with h3 |h3
              · exact h3 ((Ly _).2 ⟨fun x=>h2 ((Gz _).2 x),e⟩)
              · rw[e'] at h3;cases h3
        · rw[hp,List.drop_of_length_le (by omega)]
          rfl
theorem Rq (c:Int) (m:Mem):FnH Tryz.prog 242 [.v (.int .u8 c)] ⟨[],[]⟩ m fun r H' _=>r= .v (.bool (dm c))/\H' =⟨[],[]⟩:=by
 refine aL ay Tryz.func242 ?_
 ·simp only[go_sem];rfl
def rb (c:UInt8):Bool:=dm c.toNat||dF c.toNat
def nZ:List UInt8->Bool
 |[]=>false
 |c::r=>dm c.toNat&&r.all rb
theorem HD:∀(p r:List UInt8),(∀c∈p,c.toNat≠47)->gD false (p++r)=(p.all rb&&gD false r)
 |[],r,_=>by simp
 |c::p,r,h=>by
  have h1:=h c (dz ..);have ih:=HD p r fun x hx=>h x (cS _ hx)
  simp only[jD,gD,List.all_cons,rb];rw[ae (fun e=>h1 e.1)];cases e1:dm c.toNat<;>cases e2:dF c.toNat<;>simp [ih]
theorem W6 (p r:List UInt8) (h:∀c∈p,c.toNat≠47):gD true (p++47::r)=(nZ p&&gD true r):=by
 cases p with
 |nil=>simp [gD,nZ,dm,dF]
 |cons c p=>
  have h1:=h c (dz ..);have ih:=HD p (47::r) fun x hx=>h x (cS _ hx)
  simp only[jD,gD,nZ];rw[ae (fun e=>h1 e.1),ih];cases e1:dm c.toNat<;>simp [gD]
theorem Nk (p:List UInt8) (h:∀c∈p,c.toNat≠47):gD true p=nZ p:=by
 cases p with
 |nil=>rfl
 |cons c p=>
  have h1:=h c (dz ..);have ih:=HD p [] fun x hx=>h x (cS _ hx)
  rw[List.append_nil] at ih;simp only[gD,nZ];rw[ae (fun e=>h1 e.1),ih];cases e1:dm c.toNat<;>simp [gD]
abbrev cf4:Cfg:=fP (fun _=>false) [(242,lU dm)]
theorem P5:cK cf4 Tryz.prog:=pure_cons (by kernel_rfl) (qV Rq) pure_nil
theorem SB (s:List UInt8) (m:Mem) (hs:s.length<=4611686018427387904):FnH Tryz.prog 216 [.v (.string (bs s))] ⟨[],[]⟩ m fun r H' _=>r= .v (.bool (nZ s))/\H' =⟨[],[]⟩:=by
 refine aL P5 Tryz.func216 ?_
 ·simp only[go_sem];refine cO P5 (fun k:Nat=>⟨[⟨0,[],.v (.string (bs s))⟩,⟨3,[],.v (.int .i64 k)⟩],[],[],[],0,m⟩)
    (fun k=>k<=s.length/\(k=0\/nZ s=(s.drop k).all rb)) (fun k=>s.length - k) 0 (fun _ _=>aq _) (fun _ _=> .inl rfl) ?_ ?_ ?_
  ·simp only[go_sem];rfl
  ·simp
  ·rintro k ⟨hk,hp⟩;simp only[go_sem];have ax:∀x:UInt8,rb x=true↔dm x.toNat=true\/¬(x.toNat:Int)<48/\¬57<(x.toNat:Int):=fun x=>by
    simp [rb,dF]
   have nw:k=0->k<s.length->nZ s=(dm (s.getD k 0).toNat&&(s.drop (k+1)).all rb):=by
    rintro rfl ao;have:=drop_at ao;rw[List.drop_zero] at this;rw[this];rfl
   refine⟨fun ao=>⟨⟨by omega,ao⟩,fun _=>⟨by omega,ao⟩,fun _=>⟨by omega,ao⟩,fun h=> ?_,fun h=>⟨by unfold az;omega,k+1,by omega,⟨by omega,.inr ?_⟩,by omega⟩⟩,fun cQ=> ?_⟩
   ·have cE:k<s.length:=by omega
    rcases Nat.eq_zero_or_pos k with h0 |h0
    ·rw[nw h0 cE,h.1];rfl
    ·rcases hp with hp |hp
     ·omega
     ·rw[hp,drop_at cE,List.all_cons];have:rb (s.getD k 0)=false:=by
       rw[Bool.eq_false_iff];intro e;rcases(ax _).1 e with e |e
       ·rw[e] at h;cases h.1
       ·omega
      rw[this];rfl
   ·have cE:k<s.length:=by omega
    rcases Nat.eq_zero_or_pos k with h0 |h0
    ·rw[nw h0 cE];have:dm (s.getD k 0).toNat=true:=by
      rcases h with h |h
      ·exact h
      ·omega
     rw[this];rfl
    ·rcases hp with hp |hp
     ·omega
     ·rw[hp,drop_at cE,List.all_cons]
      have:rb (s.getD k 0)=true:=(ax _).2 (by
       rcases h with h |h
       ·exact .inl h
       ·exact .inr ⟨h.1.2,h.2⟩)
      rw[this];rfl
   ·rcases Nat.eq_zero_or_pos s.length with h0 |h0
    ·rw[List.eq_nil_of_length_eq_zero h0];rfl
    ·rcases hp with hp |hp
     ·omega
     ·rw[hp,List.drop_of_length_le (by omega)];simpa using h0
def jG (s:List UInt8) (c:Int):Nat->Int
 |0=> -1
 |k+1=>if((s.getD k 0).toNat:Int)=c then k else jG s c k
theorem lastIdx_spec (s:List UInt8) (c:Int) (m:Mem) (hs:s.length<=4611686018427387904):FnH Tryz.prog 265 [.v (.string (bs s)),.v (.int .u8 c)] ⟨[],[]⟩ m fun r H' _=>r= .v (.int .i64 (jG s c s.length))/\H' =⟨[],[]⟩:=by
 refine aL ay Tryz.func265 ?_
 ·simp only[go_sem];refine⟨by unfold az;omega,?_⟩;refine cO ay (fun k:Nat=>⟨[⟨0,[],.v (.string (bs s))⟩,⟨1,[],.v (.int .u8 c)⟩,⟨5,[],.v (.int .i64 (k - 1))⟩],[],[],[],0,m⟩)
    (fun k=>k<=s.length/\jG s c s.length=jG s c k) (fun k=>k) s.length (fun _ _=>aq _) (fun _ _=> .inl rfl) ?_ ?_ ?_
  ·simp only[go_sem]
  ·simp
  ·rintro k ⟨hk,hp⟩;simp only[go_sem];refine⟨fun h0=>⟨⟨h0,by omega⟩,fun h=> ?_,fun h=>⟨by unfold az;omega,k - 1,by omega,⟨by omega,?_⟩,by omega⟩⟩,fun h=> ?_⟩
   ·obtain⟨k,rfl⟩:∃j,k=j+1:=⟨k - 1,by omega⟩;have e:((k+1:Nat):Int) - 1=k:=by omega
    rw[e,Int.toNat_natCast] at h;rw[e];rw[hp];simp only[jG];rw[aj h]
   ·obtain⟨k,rfl⟩:∃j,k=j+1:=⟨k - 1,by omega⟩;have e:((k+1:Nat):Int) - 1=k:=by omega
    rw[e,Int.toNat_natCast] at h;rw[hp];simp only[jG];rw[ae h];rfl
   ·obtain rfl:k=0:=by omega
    rw[hp];rfl
theorem Rt (s:List UInt8) (m:Mem) (hs:s.length<=4611686018427387904):FnH Tryz.prog 217 [.v (.string (bs s))] ⟨[],[]⟩ m fun r H' _=>r= .v (.int .i64 (jG s 47 s.length))/\H' =⟨[],[]⟩:=by
 refine aL ay Tryz.func217 ?_
 ·simp only[go_sem];refine⟨by unfold az;omega,?_⟩;refine cO ay (fun k:Nat=>⟨[⟨0,[],.v (.string (bs s))⟩,⟨3,[],.v (.int .i64 (k - 1))⟩],[],[],[],0,m⟩)
    (fun k=>k<=s.length/\jG s 47 s.length=jG s 47 k) (fun k=>k) s.length (fun _ _=>aq _) (fun _ _=> .inl rfl) ?_ ?_ ?_
  ·simp only[go_sem]
  ·simp
  ·rintro k ⟨hk,hp⟩;simp only[go_sem];refine⟨fun h0=>⟨⟨h0,by omega⟩,fun h=> ?_,fun h=>⟨by unfold az;omega,k - 1,by omega,⟨by omega,?_⟩,by omega⟩⟩,fun h=> ?_⟩
   ·obtain⟨k,rfl⟩:∃j,k=j+1:=⟨k - 1,by omega⟩;have e:((k+1:Nat):Int) - 1=k:=by omega
    rw[e,Int.toNat_natCast] at h;rw[e];rw[hp];simp only[jG];rw[aj h]
   ·obtain⟨k,rfl⟩:∃j,k=j+1:=⟨k - 1,by omega⟩;have e:((k+1:Nat):Int) - 1=k:=by omega
    rw[e,Int.toNat_natCast] at h;rw[hp];simp only[jG];rw[ae h];rfl
   ·obtain rfl:k=0:=by omega
    rw[hp];rfl
theorem Ri (s:List UInt8) (c:Int) (m:Mem) (hs:s.length<=4611686018427387904):FnH Tryz.prog 249 [.v (.string (bs s)),.v (.int .u8 c)] ⟨[],[]⟩ m fun r H' _=>r= .v (.int .i64 (jG s c s.length))/\H' =⟨[],[]⟩:=by
 refine aL ay Tryz.func249 ?_
 ·simp only[go_sem];refine ab ((lastIdx_spec s c m hs).mono ?_);rintro r H' m' hm ⟨rfl,rfl⟩;simp only[go_sem]
theorem Sa (s:List UInt8) (m:Mem) (hs:s.length<=4611686018427387904):FnH Tryz.prog 230 [.v (.string (bs s))] ⟨[],[]⟩ m fun r H' _=>r= .v (.int .i64 (jG s 47 s.length))/\H' =⟨[],[]⟩:=by
 refine aL ay Tryz.func230 ?_
 ·simp only[go_sem];refine ab ((Ri s 47 m hs).mono ?_);rintro r H' m' hm ⟨rfl,rfl⟩;simp only[go_sem]
theorem C1 (s:List UInt8) (c:Int):∀k,-1<=jG s c k/\jG s c k<k
 |0=>⟨by simp [jG],by simp [jG]⟩
 |k+1=>by
  obtain⟨h1,h2⟩:=C1 s c k;simp only[jG];split<;>omega
def uT (s:List UInt8):List UInt8:=s.drop (jG s 47 s.length+1).toNat
theorem Ru (s:List UInt8) (m:Mem) (hs:s.length<=4611686018427387904):FnH Tryz.prog 193 [.v (.string (bs s))] ⟨[],[]⟩ m fun r H' _=>r= .v (.string (bs (uT s)))/\H' =⟨[],[]⟩:=by
 refine aL ay Tryz.func193 ?_
 ·simp only[go_sem];refine ab ((Sa s m hs).mono ?_);rintro r H' m' hm ⟨rfl,rfl⟩;simp only[go_sem];obtain⟨h1,h2⟩:=C1 s 47 s.length;refine⟨by unfold az;omega,⟨by omega,by omega,by omega⟩,?_⟩;rfl
theorem Rk (s:List UInt8) (m:Mem) (hs:s.length<=4611686018427387904):FnH Tryz.prog 171 [.v (.string (bs s))] ⟨[],[]⟩ m fun r H' _=>r= .v (.string (bs (uT s)))/\H' =⟨[],[]⟩:=by
 refine aL ay Tryz.func171 ?_
 ·simp only[go_sem];refine ab ((Rt s m hs).mono ?_);rintro r H' m' hm ⟨rfl,rfl⟩;simp only[go_sem];obtain⟨h1,h2⟩:=C1 s 47 s.length;refine⟨by unfold az;omega,⟨by omega,by omega,by omega⟩,?_⟩;rfl
theorem V4 {s:List UInt8} {f k:Nat} (hf:f<=k) (hk:k<=s.length):s.drop f=(s.take k).drop f++s.drop k:=by
 conv=>lhs;rw[<- List.take_append_drop k s]
 rw[List.drop_append_of_le_length (by rw[List.length_take];omega)]
theorem UQ {s:List UInt8} {f k:Nat} (hf:f<=k) (hk:k<s.length):(s.take (k+1)).drop f=(s.take k).drop f++[s.getD k 0]:=by
 rw[List.take_succ_eq_append_getElem hk,List.drop_append_of_le_length (by rw[List.length_take];omega),List.getD_eq_getElem?_getD,List.getElem?_eq_getElem hk];rfl
abbrev cf5:Cfg:=fP (fun _=>false) [(216,eZ (fun s=>s.length<=4611686018427387904) fun s=> .bool (nZ s))]
theorem IK:cK cf5 Tryz.prog:=pure_cons (by kernel_rfl) (fM fun s m h=>SB s m h) pure_nil
theorem Fx (s:List UInt8) (m:Mem) (hs:s.length<=4611686018427387904):FnH Tryz.prog 170 [.v (.string (bs s))] ⟨[],[]⟩ m fun r H' _=>r= .v (.bool (eF s))/\H' =⟨[],[]⟩:=by
 refine aL IK Tryz.func170 ?_
 ·simp only[go_sem];refine⟨fun h=> ?_,fun h=> ?_⟩
  ·have:¬s.length<=64:=by omega
   simp [eF,this]
  ·refine cO IK (fun x:Nat×Nat=>⟨[⟨0,[],.v (.string (bs s))⟩,⟨3,[],.v (.int .i64 x.1)⟩,⟨4,[],.v (.int .i64 x.2)⟩],[],[],[],0,m⟩)
    (fun x=>x.1<=x.2/\x.2<=s.length/\(∀c∈(s.take x.2).drop x.1,c.toNat≠47)/\eF s=gD true (s.drop x.1)) (fun x=>s.length - x.2) (0,0) (fun _ _=>aq _) (fun _ _=> .inl rfl) ?_ ?_ ?_
   ·simp only[go_sem];exact⟨rfl,rfl⟩
   ·have:s.length<=64:=by omega
    simp [eF,this]
   ·rintro⟨f,k⟩ ⟨hf,hk,rQ,hp⟩;simp only at hf hk rQ hp;simp only[go_sem];have hlen:∀l:List UInt8,(l.take k).length<=k:=fun l=>by rw[List.length_take];omega
    refine⟨fun ao=> ?_,fun cQ=> ?_⟩
    ·have cE:k<s.length:=by omega
     have hI:az (k+1):=by unfold az;omega
     refine⟨⟨by omega,ao⟩,fun h47=> ?_,fun h47=>⟨hI,(f,k+1),⟨rfl,rfl⟩,⟨by simp only;omega,cE,?_,hp⟩,by simp only;omega⟩⟩
     ·have e47:s.getD k 0=47:=by
       have:(s.getD k 0).toNat=47:=by omega
       exact UInt8.toNat_inj.1 this
      have pC:eF s=(nZ ((s.take k).drop f)&&gD true (s.drop (k+1))):=by
       rw[hp,V4 hf hk,drop_at cE,e47];exact W6 _ _ rQ
      refine⟨⟨by omega,by omega,by omega⟩,by simp only[cH,List.length_take];omega,fun h=> ?_,fun h=>⟨hI,hI,(k+1,k+1),⟨rfl,rfl⟩,⟨aq _,cE,?_,?_⟩,by simp only;omega⟩⟩
      ·rw[pC,h];rfl
      ·rw[List.drop_of_length_le (by simp;omega)];intro c hc;cases hc
      ·rw[pC,h];rfl
     ·simp only;rw[UQ hf cE];intro c hc;rcases List.mem_append.1 hc with hc |hc
      ·exact rQ c hc
      ·rw[List.mem_singleton.1 hc];omega
    ·obtain rfl:k=s.length:=by omega
     refine⟨⟨by omega,by omega,by omega⟩,by simp only[cH,List.length_take];omega,?_⟩;rw[hp];have:=Nk _ rQ;rw[List.take_length] at this;exact this.symm
theorem N7:∀(s:List UInt8) (b:Bool),gD b s=true->s=[]\/((s.getD (s.length - 1) 0).toNat≠47/\gD b s=true)
 |[],_,_=> .inl rfl
 |c::r,b,h=>by
  refine .inr ⟨?_,h⟩;simp only[gD] at h;cases r with
  |nil=>
   intro e;have e:c.toNat=47:=e;rw[e] at h;cases b<;>simp [gD,dm,dF] at h
  |cons d r=>
   have go:∀b',gD b' (d::r)=true->((c::d::r).getD ((c::d::r).length - 1) 0).toNat≠47:=fun b' hb=>by
    rcases N7 (d::r) b' hb with e |e
    ·cases e
    ·simpa using e.1
   split at h
   ·exact go _ h
   ·split at h
    ·exact go _ h
    ·cases h
theorem KU {s:List UInt8} (h:eF s=true):0<(uT s).length:=by
 simp only[eF,cY] at h;rcases N7 s true h.2 with rfl |⟨e,_⟩
 ·simp [gD] at h
 ·have hl:0<s.length:=by
   cases s with
   |nil=>simp [gD] at h
   |cons c r=>simp
  unfold uT;rw[cH];obtain⟨n,hn⟩:∃n,s.length=n+1:=⟨s.length - 1,by omega⟩;rw[hn] at e ⊢;simp only[Nat.add_sub_cancel] at e;have h2:=C1 s 47 n;have:jG s 47 (n+1)=jG s 47 n:=by
   simp only[jG];rw[ae (by omega)]
  rw[this];omega
def dT (s:List UInt8):Bool:=eF s&&decide (65<=((uT s).getD 0 0).toNat)&&decide (((uT s).getD 0 0).toNat<=90)
abbrev BL (s:List UInt8):Prop:=s.length<=4611686018427387904
abbrev cf6:Cfg:=fP (fun _=>false) [(192,eZ BL fun s=> .bool (eF s)),(170,eZ BL fun s=> .bool (eF s)),(193,eZ BL fun s=> .string (bs (uT s))),(171,eZ BL fun s=> .string (bs (uT s)))]
theorem IJ:cK cf6 Tryz.prog:=pure_cons (by kernel_rfl) (fM FK) (pure_cons (by kernel_rfl) (fM Fx) (pure_cons (by kernel_rfl) (fM Ru) (pure_cons (by kernel_rfl) (fM Rk) pure_nil)))
theorem Ab (s:List UInt8) (m:Mem) (hs:BL s):FnH Tryz.prog 134 [.v (.string (bs s))] ⟨[],[]⟩ m fun r H' _=>r= .v (.bool (dT s))/\H' =⟨[],[]⟩:=by
 refine aL IJ Tryz.func134 ?_
 ·simp only[go_sem];refine⟨hs,fun h=>by simp [dT,h],fun h=>⟨hs,⟨by omega,by have:=KU h;omega⟩,?_⟩⟩;rw[dT,h,Bool.true_and];have e1:∀n:Nat,decide ((65:Int)<=n)=decide (65<=n):=fun n=>by rw[decide_eq_decide];omega
  have e2:∀n:Nat,decide ((n:Int)<=90)=decide (n<=90):=fun n=>by rw[decide_eq_decide];omega
  rw[e1,e2]
theorem Eb {P:Program} {f:FuncId} {args:List Value} {m:Mem} {R:Value->Prop} (h:∀w D,Wf w D->m.le ⟨w,D⟩->Calls P f ⟨args⟩ w fun e w' =>∃y,e= .returned y/\R y/\Below w.heap.size w w'):
  FnH P f (args.map SV.v) ⟨[],[]⟩ m fun r H' m' =>(∃y,r= .v y/\R y)/\H' =⟨[],[]⟩/\m' =m:=by
 intro V w D j8 hle hH;have ha:(args.map SV.v).map (den V)=args:=by rw[List.map_map];exact List.map_id'' (fun _=>rfl) args
 rw[ha];refine(h w D j8 hle).mono ?_;rintro e w' ⟨y,rfl,hy,hb⟩;have ao:∀b,0<D b->b<w.heap.size:=fun b hb=>by
  rcases Nat.lt_or_ge b w.heap.size with h |h
  ·exact h
  ·have:=j8 b h;omega
 have PD:Mem.le ⟨w,D⟩ ⟨w',D⟩:=fun b=>⟨aq _,fun h0=>⟨ao b h0,tc (hb.block b (ao b h0))⟩⟩
 exact⟨.v y,V,D,⟨[],[]⟩,m,rfl,fun b oJ=>j8 b (cR hb.size oJ),⟨fun b hb=>(by cases hb),fun b hb=>(by cases hb),by simp [a7],by simp⟩,fun b hb=>(by cases hb),fun b hb=>(by cases hb),
  ⟨hb.os,hb.tape,hb.output,hb.size,fun b oJ _=>⟨hb.block b oJ,rfl⟩⟩,fun b hb=>(by simp [a7] at hb),PD,fun b=>⟨aq _,fun h=>⟨((hle b).2 h).1,tc rfl⟩⟩,Mem.le_trans hle PD,⟨y,rfl,hy⟩,rfl,rfl⟩
theorem AZ {m m' :Mem} {a:Option Addr} {n sz:Nat} {xs:List Value} (hle:m.le m') (h:aK m a n sz xs):aK m' a n sz xs:=by
 refine⟨h.1,fun h0=> ?_⟩;obtain⟨ad,rfl,hs,hc⟩:=h.2 h0;refine⟨ad,rfl,hs,fun j hj=> ?_⟩;obtain⟨h1,h2⟩:=hc j hj;obtain⟨e1,e2,e3⟩:=oO ad j hs;have hx:xs[j]? =some (xs[j]'(by rw[h.1];exact hj)):=List.getElem?_eq_getElem _;exact⟨(CX hle e3 (by rw[e1,e2];exact h2) (h1.trans hx)).trans hx.symm,ej h2 (hle _).1⟩
theorem aa5 {m m' :Mem} {x:Value} {cs:List Value} (hle:m.le m') (h:Rd m x cs):Rd m' x cs:=by
 obtain⟨ad,rfl,hs,hc⟩:=h;refine⟨ad,rfl,hs,fun j hj=> ?_⟩;obtain⟨h1,h2⟩:=hc j hj;obtain⟨e1,e2,e3⟩:=oO ad j hs;have hx:cs[j]? =some (cs[j]'hj):=List.getElem?_eq_getElem _;exact⟨(CX hle e3 (by rw[e1,e2];exact h2) (h1.trans hx)).trans hx.symm,ej h2 (hle _).1⟩
def opsL:List (List UInt8):=[[124,124],[38,38],[124],[94],[38],[61,61],[33,61],[60],[60,61],[62],[62,61],[60,60],[62,62],[62,62,62],[43],[45],[42],[47],[37]]
def Glob (m:Mem):Prop:=(∀w D,m.le ⟨w,D⟩->(∃k,w.cell? ⟨1,0,none⟩=some (.int .i64 k))/\Lib.TabIs Tryz.prog w "internal/strconv.uint64pow10" .u64 Lib.pow10Tab)/\
 ∃ad c,Rd m (.pointer (some ⟨0,0,none⟩)) [.slice (some ad) 19 c]/\19<=c/\aK m (some ad) 19 1 (strs opsL)
theorem Glob.up {m m' :Mem} (h:Glob m) (hm:m.le m'):Glob m' :=
 ⟨fun w D hw=>h.1 w D (Mem.le_trans hm hw),h.2.elim fun ad h=>h.elim fun c h=>⟨ad,c,aa5 hm h.1,h.2.1,AZ hm h.2.2⟩⟩
theorem Ha (b:ByteArray):(tl b).length=b.size:=by simp [tl]
theorem pP (l:List UInt8):(bs l).size=l.length:=by rw[<- Ha,yS]
theorem Rn (s eB new:List UInt8) (m:Mem) (hg:Glob m) (hs:s.length<=2147483648) (ho:1<=eB.length) (hn:new.length<=16):
  FnH Tryz.prog 224 [.v (.string (bs s)),.v (.string (bs eB)),.v (.string (bs new))] ⟨[],[]⟩ m fun r H' m' =>(r= .v (.string (bs (Lib.replaceAll s eB new))))/\H' =⟨[],[]⟩/\m' =m:=by
 refine(Eb (args:=[.string (bs s),.string (bs eB),.string (bs new)]) (R:=fun y=>y= .string (bs (Lib.replaceAll s eB new))) fun w D j8 hle=> ?_).mono ?_
 ·obtain⟨k,hk⟩:=(hg.1 w D hle).1;have hc:=Lib.countB_mul_le (bs eB) (by rw[pP];exact ho) s.length (bs s) (by rw[pP];omega);have h1:Lib.countB (bs s) (bs eB)<=s.length:=by
   rw[pP] at hc;exact cR (Nat.le_mul_of_pos_right _ ho) hc
  have h2:Lib.countB (bs s) (bs eB) * (bs new).size<=s.length * 16:=by rw[pP];exact Nat.mul_le_mul h1 hn
  refine(Tryz.strings_ReplaceAll (bs s) (bs eB) (bs new) k w (by rw[pP];omega) hk (by rw[pP];exact ho) (by rw[pP s];omega)).mono ?_;rintro e w' ⟨rfl,hb⟩;exact⟨_,rfl,by rw[<- Mo];rfl,hb⟩
 ·rintro r H' m' hm ⟨⟨y,rfl,rfl⟩,h1,h2⟩;exact⟨rfl,h1,h2⟩
theorem JI (s:List UInt8) (c:Int) (m:Mem):FnH Tryz.prog 183 [.v (.string (bs s)),.v (.int .u8 c)] ⟨[],[]⟩ m fun r H' _=>r= .v (.int .i64 (Lib.indexByte s c.toNat.toUInt8))/\H' =⟨[],[]⟩:=by
 refine(Eb (args:=[.string (bs s),.int .u8 c]) (R:=fun y=>y= .int .i64 (Lib.indexByte s c.toNat.toUInt8)) fun w D j8 hle=> ?_).mono ?_
 ·refine(Tryz.strings_IndexByte (bs s) c w).mono ?_;rintro e w' ⟨rfl,rfl⟩;exact⟨_,rfl,rfl,Below.refl _ _⟩
 ·rintro r H' m' hm ⟨⟨y,rfl,rfl⟩,h1,h2⟩;exact⟨rfl,h1⟩
theorem Yf:ft Tryz.prog 50=some [.v (.int .i64 0),.v (.string (bs [])),.v (.int .i64 0),.v (.int .i64 0)]:=by kernel_rfl
theorem aa4:eo Tryz.prog 50=some (some 4):=by kernel_rfl
theorem abz:bC Tryz.prog 50=4:=by kernel_rfl
theorem adz:nE Tryz.prog 50=40:=by kernel_rfl
theorem XS:cM Tryz.prog 50 0=some (0,none,1):=by kernel_rfl
theorem XR:cM Tryz.prog 50 1=some (1,none,1):=by kernel_rfl
theorem XQ:cM Tryz.prog 50 2=some (2,none,1):=by kernel_rfl
theorem XP:cM Tryz.prog 50 3=some (3,none,1):=by kernel_rfl
theorem aaP:nd Tryz.prog 50=true:=by kernel_rfl
theorem adq:qA Tryz.prog 3 5= .int .u8:=by kernel_rfl
theorem aaA:qA Tryz.prog 83 9= .b2s:=by kernel_rfl
attribute [go_sem] adq aaA Yf aa4 abz adz XS XR XQ XP aaP
structure Tk where
 k:Int
 s:List UInt8
 n:Int
 at_:Int
abbrev Tk.cells (t:Tk):List SV:=[.v (.int .i64 t.k),.v (.string (bs t.s)),.v (.int .i64 t.n),.v (.int .i64 t.at_)]
abbrev Tk.sv (t:Tk):SV:= .agg t.cells
def rp:List UInt8:=[48,49,50,51,52,53,54,55,56,57,97,98,99,100,101,102]
theorem aas:iQ Tryz.prog 83=some 5:=by kernel_rfl
theorem sz5:bC Tryz.prog 5=1:=by kernel_rfl
theorem by5:nE Tryz.prog 5=1:=by kernel_rfl
theorem ZA:ft Tryz.prog 5=some [.v (.int .u8 0)]:=by kernel_rfl
theorem adJ:eo Tryz.prog 5=some none:=by kernel_rfl
attribute [go_sem] aas sz5 by5 ZA adJ
theorem G9 (a b:List UInt8):kM (a++b)=kM a++kM b:=by simp [kM]
theorem LV (eB new:List UInt8):∀(k:Nat) (s:List UInt8),(Lib.replaceK eB new k s).length<=s.length+k * new.length
 |0,s=>by simp [Lib.replaceK]
 |k+1,s=>by
  rw[Lib.replaceK];split
  ·exact Nat.le_add_right _ _
  ·have ih:=LV eB new k (s.drop ((Lib.index s eB).toNat+eB.length));simp only[bM,List.length_take,cH] at ih ⊢;rw[Nat.add_mul];omega
theorem WN (s eB new:List UInt8) (ho:1<=eB.length) (hs:s.length<=1000000000):(Lib.replaceAll s eB new).length<=s.length+s.length * new.length:=by
 unfold Lib.replaceAll Lib.replace;split
 ·exact Nat.le_add_right _ _
 ·refine cR (LV _ _ _ _) ?_;have hn:Lib.replaceNum s eB (-1)=Lib.count s eB:=by simp [Lib.replaceNum]
  have hc:=Lib.countB_mul_le (bs eB) (by rw[pP];exact ho) s.length (bs s) (by rw[pP];exact aq _);have hcc:Lib.countB (bs s) (bs eB)=Lib.count s eB:=rfl;rw[hcc,pP,pP] at hc;have:Lib.count s eB<=s.length:=cR (Nat.le_mul_of_pos_right _ ho) hc;rw[hn];exact Nat.add_le_add_left (Nat.mul_le_mul_right _ this) _
theorem aau:iQ Tryz.prog 45=some 50:=by kernel_rfl
attribute [go_sem] aau
def cG (ts:List Tk):List Value:=(ts.map fun t=>[Value.int .i64 t.k,.string (bs t.s),.int .i64 t.n,.int .i64 t.at_]).flatten
theorem Gq {a b c:Mem} (h:an a b) (h' :b.le c):an a c:=by
 rcases h with rfl |h
 ·exact .inr h'
 ·exact .inr (Mem.le_trans h h')
theorem adp:qA Tryz.prog 5 3= .int .i64:=by kernel_rfl
attribute [go_sem] adp
def adl (c:UInt8):List UInt8:=
 if c.toNat=34\/c.toNat=92 then[92,c] else if c.toNat=10 then[92,110] else if c.toNat<32\/126<c.toNat then[92,120,rp.getD (c.toNat / 16) 0,rp.getD (c.toNat % 16) 0] else[c]
def VT (s:List UInt8):List UInt8:=34::(s.map adl).flatten++[34]
def px (t:Tk):Option (List UInt8):=
 if t.k=1 then(if t.n=0/\eF t.s=true/\fz.contains t.s=false then some (Lib.replaceAll t.s [47] [58,58]) else none)
 else if t.k=2 then(if t.n=0/\fz.contains t.s=true then some t.s else none)
 else if t.k=3 then(if(t.s=[]/\0<=t.n)/\t.n<2147483648 then some (Lib.itoa t.n) else none)
 else if t.k=4 then(if t.s=[]/\0<=t.n then some (Lib.itoa t.n++[76]) else none)
 else if t.k=5 then(if t.n=0/\t.s.length<=1024 then some (VT t.s) else none)
 else if t.k=6 then(if t.n=0/\fB.contains t.s=true then some t.s else none)
 else none
def adM (t:Tk):Prop:=t.s.length<=2000000/\az t.n
def Pf:List Tk->Option (List (List UInt8))
 |[]=>some []
 |t::r=>match px t with |none=>none |some x=>match Pf r with |none=>none |some y=>some (x::y)
def Z0 (ts:List Tk):List UInt8×Int:=
 if 5000<ts.length then([],5) else
  match Pf ts with
  |none=>([],1)
  |some l=>if 20000<(Lib.join l [32]).length then([],8) else(Lib.join l [32],0)
theorem DR (ts:List Tk):(cG ts).length=ts.length * 4:=by
 induction ts with
 |nil=>rfl
 |cons t r ih=>simp only[cG,br,List.flatten_cons,bM,cv,eM] at ih ⊢;omega
theorem dG {m:Mem} {a:Option Addr} {n sz:Nat} {xs:List Value} (h:aK m a n sz xs) {i:Nat} (hi:i<n):Rd m (ct a (i * sz)) ((xs.drop (i * sz)).take sz)/\a≠none:=by
 have hl:=h.1;have hm:(i+1) * sz<=n * sz:=Nat.mul_le_mul_right _ hi;rw[Nat.succ_mul] at hm;obtain⟨ad,rfl,hs,hc⟩:=h.2 (by omega);refine⟨?_,by simp⟩;obtain⟨e1,e2,e3⟩:=oO ad (i * sz) hs;refine⟨ad.add (i * sz),rfl,e3,fun j hj=> ?_⟩;rw[List.length_take,cH] at hj;obtain⟨h1,h2⟩:=hc (i * sz+j) (by omega);obtain⟨f1,f2,f3⟩:=oO (ad.add (i * sz)) j e3;obtain⟨g1,g2,g3⟩:=oO ad (i * sz+j) hs;have hee:(ad.add (i * sz)).add j=ad.add (i * sz+j):=by
  cases hA:(ad.add (i * sz)).add j;cases hB:ad.add (i * sz+j);rw[hA] at f1 f2 f3;rw[hB] at g1 g2 g3;simp only at f1 f2 f3 g1 g2 g3;rw[f1,f2,f3,g1,g2,g3,e1,e2,Nat.add_assoc]
 refine⟨?_,by rw[e1,e2,Nat.add_assoc];exact h2⟩;rw[hee,h1,List.getElem?_take_of_lt (by omega),List.getElem?_drop]
def dX (t:Tk):List Value:=[Value.int .i64 t.k,.string (bs t.s),.int .i64 t.n,.int .i64 t.at_]
end Go.Proofs.YtimddhkipjedcaaGreatDoor.E
namespace Go.Proofs.YtimddhkipjedcaaGreatDoor.E
open Go Go.ChangeShapes Go.WideShapes Go.ChangeAt Go.RowKit
def kS (W:World) (b:Nat):Nat:=match W.heap[b]? with |some (.cells c _ _)=>c.size+1 |_=>0
theorem ON (W:World):Wf W (kS W):=fun b hb=>by
 have:W.heap[b]? =none:=Array.getElem?_eq_none hb;simp [kS,this]
theorem OO {W:World} {b:Nat} {c:Array Value} {t:TypeId} {f:Nat×Nat} (h:W.heap[b]? =some (.cells c t f)):kS W b=c.size+1:=by
 simp [kS,h]
theorem MT {W w:World} {D:Nat->Nat} {b:Nat} {c:Array Value} {t:TypeId} {f:Nat×Nat} (hle:Mem.le ⟨W,kS W⟩ ⟨w,D⟩) (h:W.heap[b]? =some (.cells c t f)):∃t' f',w.heap[b]? =some (.cells c t' f'):=by
 obtain⟨_,hk⟩:=hle b;have hd:kS W b=c.size+1:=OO h;obtain⟨_,hk⟩:=hk (by show 0<kS W b;omega);obtain⟨c',t',f',ho,hj⟩:=Li hk h;simp only[hd] at ho hj;have e:c' =c:=by
  apply Array.ext_getElem?
  intro i;rcases Nat.lt_or_ge i (c.size+1) with hi |hi
  ·exact hj i hi
  ·have h1:=hj c.size (by omega);rw[Array.getElem?_eq_none (aq c.size)] at h1;have h2:c'.size<=c.size:=by
    rcases Nat.lt_or_ge c.size c'.size with h |h
    ·rw[Array.getElem?_eq_getElem h] at h1;cases h1
    ·exact h
   rw[Array.getElem?_eq_none (by omega),Array.getElem?_eq_none (by omega)]
 subst e;exact⟨t',f',ho⟩
theorem DB {W w:World} {D:Nat->Nat} {g i:Nat} {v:Value} (hle:Mem.le ⟨W,kS W⟩ ⟨w,D⟩) (h:W.cell? ⟨g,i,none⟩=some v):w.cell? ⟨g,i,none⟩=some v:=by
 unfold World.cell? at h ⊢;split at h
 ·rename_i c t f hc;obtain⟨t',f',ho⟩:=MT hle hc;dsimp only at ho;rw[ho];simpa using h
 ·cases h
theorem NT {W w:World} {D:Nat->Nat} {P:Program} {n:String} {c:Array Value} (hle:Mem.le ⟨W,kS W⟩ ⟨w,D⟩) (h:W.var? P n=some c):w.var? P n=some c:=by
 unfold World.var? at h ⊢;obtain⟨g,hg,h⟩:=Option.bind_eq_some_iff.1 h;rw[hg];split at h
 ·rename_i c' t f hc;obtain⟨t',f',ho⟩:=MT hle hc;cases h;simp [ho]
 ·cases h
theorem GA {W:World} {a:Addr} {v:Value} (h:W.cell? a=some v):a.spot=none/\a.off<kS W a.block:=by
 unfold World.cell? at h;split at h
 ·rename_i c t f hc;cases hs:a.spot with
  |some x=>rw[hs] at h;simp at h
  |none=>
   rw[hs] at h;simp only[Option.isSome_none,Bool.false_eq_true,if_false] at h;refine⟨rfl,?_⟩;rw[OO hc];have:=(Array.getElem?_eq_some_iff.1 h).1;omega
 ·cases h
theorem Wb {P:Program} {f:FuncId} {args:List SV} {cL:List Value} {W:World} {x:Value} (Ip:∀V,args.map (den V)=cL) (h:FnH P f args ⟨[],[]⟩ ⟨W,kS W⟩ fun r H' m' =>an ⟨W,kS W⟩ m' /\H' =⟨[],[]⟩/\r= .v x):
  Calls P f ⟨cL⟩ W fun e W' =>e= .returned x/\Below W.heap.size W W' :=by
 have:=h ⟨fun _=>0,fun _ _=>⟨none,0,0⟩⟩ W (kS W) (ON W) (Mem.le_refl ⟨W,kS W⟩ (ON W)) ⟨fun b hb=>(by cases hb),fun b hb=>(by cases hb),by simp [a7],by simp⟩;rw[Ip] at this;refine this.mono ?_;rintro e w' ⟨r,V',D',H',m',rfl,_,_,_,_,hf,_,_,_,_,_,rfl,rfl⟩;exact⟨rfl,hf.os,hf.tape,hf.output,hf.size,fun b hb=>(hf.same b hb (by simp [a7])).1⟩
theorem own:ownKnob Tryz.prog.godebug=none:=by kernel_rfl
def yZ:List (String×DataW Unit):=Rows.parseProgramRow.laid
theorem g1 (W:World) (h:W.ShapedOpen Tryz.prog):∃k,W.cell? ⟨1,0,none⟩=some (.int .i64 k):=
 cell_of_shapedOpen_int (P:=Tryz.prog) (g:=1) (t:=3) (zero:= #[.int .i64 0]) h (of_decide_eq_true (by kernel_rfl)) (by kernel_rfl) rfl (by kernel_rfl) (by kernel_rfl) (by kernel_rfl)
theorem YE {W:World} {rest:List (String×DataW Unit)} (h:laidMet Tryz.prog (("armature/ast.operators",Rows.laid_armature_ast_operators)::rest) W):
  ∃ad c,Rd ⟨W,kS W⟩ (.pointer (some ⟨0,0,none⟩)) [.slice (some ad) 19 c]/\19<=c/\aK ⟨W,kS W⟩ (some ad) 19 1 (strs opsL):=by
 obtain⟨ps,⟨g',t',cs,fuel,p,q,iv,IW,hvar,hd,_,_⟩,_⟩:=h;obtain rfl:=Option.some.inj ((show Tryz.prog.globalNamed "armature/ast.operators" =some 0 by kernel_rfl).symm.trans iv);obtain rfl:=Option.some.inj ((show(Tryz.prog.globals[0]?).map (·.type)=some 55 by kernel_rfl).symm.trans IW);have hl:(Rows.laid_armature_ast_operators:DataW Unit)= .slice (opsL.map fun l=> .lit (.string l)) []:=rfl;rw[hl] at hd;obtain⟨a,cap,fp,hcap,uD⟩:=open_row (P:=Tryz.prog) (e:=9) (by kernel_rfl) (by kernel_rfl) hd;have hlen:(opsL.map fun l=>(DataW.lit (.string l):DataW Unit)).length=19:=rfl;rw[hlen] at fp hcap;have jM:W.cell? ⟨0,0,none⟩=some (.slice (some a) 19 cap):=by
  have:=World.var?_cell iv hvar 0;rw[Array.eq_one_of_toList fp] at this;simpa using this
 have ig:∀i (hi:i<19),W.cell? (a.add i)=some (.string (bs (opsL[i]'hi))):=fun i hi=>by
  obtain⟨v,n,q',hc,hr⟩:=uD i (.lit (.string (opsL[i]'hi))) (by rw[List.getElem?_map,List.getElem?_eq_getElem (by exact hi)];rfl);obtain⟨s,e1,e2,_⟩:=DataW.trod_string (show Tryz.prog.underlying 9=some .string by kernel_rfl) hr;have e3:v= .string s:=by simpa using e1
  have e4:s.data.toList=opsL[i]'hi:=by simpa using(congrArg Prod.fst e2).symm
  rw[hc,e3,<- e4];rfl
 have O8:a.spot=none:=by
  have:=(GA (ig 0 (by decide))).1;simpa [Addr.add] using this
 refine⟨a,cap,⟨⟨0,0,none⟩,rfl,rfl,fun j hj=> ?_⟩,hcap,rfl,fun _=>⟨a,rfl,O8,fun j hj=> ?_⟩⟩
 ·have:j=0:=by simpa using hj
  subst this;exact⟨jM,(GA jM).2⟩
 ·have hj:j<19:=by omega
  have h1:=ig j hj;obtain⟨p1,p2,_⟩:=oO a j O8;have h2:=(GA h1).2;rw[p1,p2] at h2;refine⟨?_,h2⟩;rw[strs,List.getElem?_map,List.getElem?_eq_getElem (by exact hj)];exact h1
theorem Xi {W:World} (hL:laidMetH Tryz.prog yZ W) (hs:W.ShapedOpen Tryz.prog):Glob ⟨W,kS W⟩:=by
 rw[MakeChecks.laidMetH_plain _ _ _ (by kernel_rfl)] at hL;have h3:=hL.tail.tail;have ht:=Lib.tabIs_of_head (P:=Tryz.prog) (zs:=Lib.pow10Tab) (g:=6) (t:=250) (e:=217) (n:=20) (by kernel_rfl) (by kernel_rfl) (by kernel_rfl) (by kernel_rfl) (by kernel_rfl) (by kernel_rfl) h3;obtain⟨k,hk⟩:=g1 W hs;exact⟨fun w D hle=>⟨⟨k,DB hle hk⟩,NT hle ht⟩,YE h3.tail.tail.tail.tail⟩
end Go.Proofs.YtimddhkipjedcaaGreatDoor.E
namespace Go.Proofs.YtimddhkipjedcaaGreatDoor.E
open Go Go.RowKit
def iU (a b:List UInt8):Bool:=decide ((b.length:Int)<=a.length)&&decide (a.take b.length=b)
theorem GX (l:List (List UInt8)) (s:List UInt8) (a:Option Addr) (n c:Nat) (m:Mem) (h:aK m a n 1 (strs l)) (hn:n<=4611686018427387904):
  FnH Tryz.prog 178 [.v (.slice a n c),.v (.string (bs s))] ⟨[],[]⟩ m fun r H' _=>r= .v (.bool (l.contains s))/\H' =⟨[],[]⟩:=by
 have hl:l.length=n:=by have:=h.1;simpa [strs] using this
 refine aL nu Tryz.func178 ?_
 ·simp only[go_sem];refine cO nu (fun k:Nat=>⟨[⟨0,[],.v (.slice a n c)⟩,⟨1,[],.v (.string (bs s))⟩,⟨5,[],.v (.int .i64 k)⟩],[],[],[],0,m⟩)
   (fun k=>k<=n/\(l.take k).contains s=false) (fun k=>n - k) 0 (fun _ _=>aq _) (fun _ _=> .inl rfl) ?_ ?_ ?_
  ·simp only[go_sem];rfl
  ·simp
  ·rintro k ⟨hk,hp⟩;simp only[go_sem];refine⟨fun ao=> ?_,fun cQ=> ?_⟩
   ·have I8:k<n:=by omega
    obtain⟨hx,hr,cP⟩:=DP h I8;refine⟨⟨by omega,ao,cP⟩,_,by simpa using hr,?_⟩;have cE:k<l.length:=by omega
    have e:(strs l)[k]= .string (bs l[k]):=by simp [strs]
    have ec:=LK (s:=s) cE;simp only[e];simp only[go_sem];refine⟨fun he=> ?_,fun he=>⟨by unfold az;omega,k+1,by omega,⟨by omega,?_⟩,by omega⟩⟩
    ·have:s∈l:=by rw[<- he];exact List.getElem_mem cE
     simp [this]
    ·rw[ec,hp];simp;exact fun h=>he h.symm
   ·have:l.take k=l:=gm (by omega);rw[<- hp,this]
theorem JH (m:Mem):FnH Tryz.prog 179 [] ⟨[],[]⟩ m fun r H' m' =>r= .vec 0 0/\H' =⟨[],[⟨0,0,9,1,28,strs fz⟩]⟩/\m' =m:=by
 refine aL ay Tryz.func179 ?_
 ·simp only[go_sem];rfl
theorem Ry (m:Mem):FnH Tryz.prog 181 [] ⟨[],[]⟩ m fun r H' m' =>r= .vec 0 0/\H' =⟨[],[⟨0,0,9,1,30,strs fB⟩]⟩/\m' =m:=by
 refine aL ay Tryz.func181 ?_
 ·simp only[go_sem];rfl
theorem yg (s:List UInt8) (m:Mem) (hs:BL s):FnH Tryz.prog 107 [.v (.string (bs s))] ⟨[],[]⟩ m fun r H' _=>r= .v (.bool (dT s))/\H' =⟨[],[]⟩:=by
 refine aL IJ Tryz.func107 ?_
 ·simp only[go_sem];refine⟨hs,fun h=>by simp [dT,h],fun h=>⟨hs,⟨by omega,by have:=KU h;omega⟩,?_⟩⟩;rw[dT,h,Bool.true_and];have e1:∀n:Nat,decide ((65:Int)<=n)=decide (65<=n):=fun n=>by rw[decide_eq_decide];omega
  have e2:∀n:Nat,decide ((n:Int)<=90)=decide (n<=90):=fun n=>by rw[decide_eq_decide];omega
  rw[e1,e2]
theorem SO (l:List UInt8):iU l []=true:=by simp [iU]
theorem J5 (x:UInt8) (o:List UInt8):iU [] (x::o)=false:=by simp [iU]
theorem J6 (y x:UInt8) (l o:List UInt8):iU (y::l) (x::o)=(decide (y=x)&&iU l o):=by
 unfold iU;simp only[cv,List.take_succ_cons,List.cons.injEq];have e:decide (((o.length+1:Nat):Int)<=((l.length+1:Nat):Int))=decide ((o.length:Int)<=l.length):=by rw[decide_eq_decide];omega
 rw[e,Bool.decide_and];cases decide (y=x)<;>simp
theorem af6 (l:List UInt8) (h:iU l [58,58]=true):∃r,l=58::58::r:=by
 cases l with
 |nil=>rw[J5] at h;cases h
 |cons a l=>
  rw[J6] at h;cases l with
  |nil=>rw[J5] at h;simp at h
  |cons b l=>
   rw[J6,SO] at h;simp only[Bool.and_true,cY,gz] at h;exact⟨l,by rw[h.1,h.2]⟩
def spell:List UInt8->List UInt8
 |[]=>[]
 |c::r=>if c.toNat=47 then 58::58::spell r else c::spell r
end Go.Proofs.YtimddhkipjedcaaGreatDoor.E

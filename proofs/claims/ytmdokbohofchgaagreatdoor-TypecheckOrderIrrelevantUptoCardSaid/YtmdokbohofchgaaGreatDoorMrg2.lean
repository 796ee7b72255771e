/- Several texts in one. -/
import Derived.Laws.MakeOwn
import Derived.Deep.LoopGhost
import Derived.Deep.Quiet
import Derived.ScopeJumps
import Derived.Shelf.Small.Strs
import Derived.Shelf.Strings.Search1
import Derived.Shelf.Strings.LastIndex
import Derived.Shelf.Strings.Prefix
import Derived.Shelf.Slices.Turned
import Derived.Ground.PaProg
import Derived.Shelf.Path.Small
import Derived.Lib.ItoaNum
import Derived.Lib.ReplaceLaws
import Derived.Lib.Replace
import Derived.Test.YtmdokbohofchgaaGreatDoorProg
import Derived.Lib.Join
import Derived.Laws.StructEq
import Derived.Test.YtmdokbohofchgaaGreatDoorMrg1
set_option linter.unusedSimpArgs false
set_option linter.unusedVariables false
set_option maxHeartbeats 4000000
set_option maxRecDepth 20000
namespace Go.Proofs.YtmdokbohofchgaaGreatDoor.E
open Go
theorem mI {V:Vl}:∀{cs:List SV},eU cs=true->∀v∈cs.map (aJ V),v.oneCell' =true
 | .v x::r,h,v,hv=>by
  simp only[eU,bB] at h;simp only[aG] at hv;rcases List.mem_cons.1 hv with rfl |hv
  ·exact h.1
  ·exact mI h.2 v hv
 | .box k o::r,h,v,hv=>by
  simp only[aG] at hv;rcases List.mem_cons.1 hv with rfl |hv
  ·rfl
  ·exact mI (cs:=r) h v hv
 | .vec k o::r,h,v,hv=>by
  simp only[aG] at hv;rcases List.mem_cons.1 hv with rfl |hv
  ·rfl
  ·exact mI (cs:=r) h v hv
 | .vp k u o::r,h,v,hv=>by
  simp only[aG] at hv;rcases List.mem_cons.1 hv with rfl |hv
  ·rfl
  ·exact mI (cs:=r) h v hv
 | .vo k u o z::r,h,v,hv=>by
  simp only[aG] at hv;rcases List.mem_cons.1 hv with rfl |hv
  ·rfl
  ·exact mI (cs:=r) h v hv
 | .mp k::r,h,v,hv=>by
  simp only[aG] at hv;rcases List.mem_cons.1 hv with rfl |hv
  ·rfl
  ·exact mI (cs:=r) h v hv
 | .mv f k o::r,h,v,hv=>by
  simp only[aG] at hv;rcases List.mem_cons.1 hv with rfl |hv
  ·rfl
  ·exact mI (cs:=r) h v hv
 | .sl k n c::r,h,v,hv=>by
  simp only[aG] at hv;rcases List.mem_cons.1 hv with rfl |hv
  ·rfl
  ·exact mI (cs:=r) h v hv
 | .cl f ks::r,h,v,hv=>by
  simp only[aG] at hv;rcases List.mem_cons.1 hv with rfl |hv
  ·rfl
  ·exact mI (cs:=r) h v hv
 | .agg cs::r,h,v,hv=>by simp [eU] at h
 | .tup cs::r,h,v,hv=>by simp [eU] at h
theorem Qs {V:Vl} {s:SV} {x:Value} (h:plain s=some x):aJ V s=x:=by
 cases s<;>simp only[plain,cv] at h<;>first |exact h |cases h
theorem AL {V:Vl}:∀{cs:List SV} {l:List Value},jU cs=some l->cs.map (aJ V)=l
 |[],l,h=>by simp only[jU,cv] at h;subst h;rfl
 |s::r,l,h=>by
  simp only[jU,Option.bind_eq_some_iff,Option.map_eq_some_iff] at h;obtain⟨x,hx,l',hl,rfl⟩:=h;simp only[aG];rw[Qs hx,AL hl]
theorem EJ:∀(l cs:List SV) (off:Nat),off+l.length<=cs.length->iG cs off l=cs.take off++l++cs.drop (off+l.length)
 |[],cs,off,_=>by simp [iG]
 |c::r,cs,off,h=>by
  simp only[dk] at h;simp only[iG];rw[EJ r (cs.set off c) (off+1) (by simp;omega)];have h1:(cs.set off c).take (off+1)=cs.take off++[c]:=by
   rw[List.take_set,List.take_succ_eq_append_getElem (by omega)];rw[List.set_append_right _ _ (by simp [Nat.min_le_left])];simp [List.length_take,Nat.min_eq_left (by omega:off<=cs.length)]
  have h2:(cs.set off c).drop (off+1+r.length)=cs.drop (off+1+r.length):=List.drop_set_of_lt (by omega);rw[h1,h2];simp [Nat.add_assoc,Nat.add_comm 1]
theorem EE {V:Vl} {g:Nat}:∀{l:List Vc} {x b:Vc},x∈l->b∈l->(V.γ x.id x.ver).blk=some g->(V.γ b.id b.ver).blk=some g->(l.filterMap fun b=>(V.γ b.id b.ver).blk).Nodup->x=b
 |y::r,x,b,hx,hb,hxg,gH,hf=>by
  simp only[List.filterMap_cons] at hf;rcases List.mem_cons.1 hx with e1 |db<;>rcases List.mem_cons.1 hb with e2 |ls
  ·exact e1.trans e2.symm
  ·subst e1;rw[hxg] at hf;exact absurd (List.mem_filterMap.2 ⟨b,ls,gH⟩) (List.nodup_cons.1 hf).1
  ·subst e2;rw[gH] at hf;exact absurd (List.mem_filterMap.2 ⟨x,db,hxg⟩) (List.nodup_cons.1 hf).1
  ·refine EE db ls hxg gH ?_;split at hf
   ·exact hf
   ·exact(List.nodup_cons.1 hf).2
section
variable {C:Ctx} {n:Nat} {st:LS} {a:Act} {V:Vl} {D:Nat->Nat} {w:World} {P:Program} {p:bj}
theorem Sat.to (hS:Sat C n st a V D w) {fg:List Bx} {dq:List Vc} {eI:Nat} {m' :Mem} {V' :Vl} {D' :Nat->Nat} {w' :World} (ha:Agree st.nid st.vc V V') (hn:st.nid<=eI)
  (hv:∀k u,k<st.nid->ba st.vc k u->ba dq k u) (hW:SatW C fg dq eI m' V' D' w'):Sat C n ⟨st.env,st.rho,fg,dq,eI,m'⟩ a V' D' w' :=
 ⟨hS.f.agree hS.ids ha,fun e he=>JA hn hv (hS.ids e he),hW⟩
theorem SatW.pub (h:SatW C st.bx st.vc st.nid st.m V D w) {k u:Nat} {b:Vc} (hb:cz st.vc k u=some b):
  ∃(a:Option Addr) (c:Nat) (m1:Mem) (D' :Nat->Nat),st.m.le m1/\b.n<=c/\aw m1 a b.n b.sz b.xs/\(V.γ k u).val= .slice a b.n c/\SatW C st.bx st.vc st.nid m1 V D' w:=by
 obtain⟨rfl,rfl,hm⟩:=yq hb;obtain⟨bT,hD,fe,ke⟩:=h.heap.vc b hm;obtain⟨hn,hl,_⟩:=rV bT;let D' :Nat->Nat:=fun x=>if(V.γ b.id b.ver).blk=some x then b.n * b.sz else D x
 have hDD:∀x,D x<=D' x:=fun x=>by
  show D x<=if _ then _ else _
  split
  ·rename_i e;exact hD x e
  ·exact aC _
 have eg:Wf w D' :=fun x hx=>by
  show(if _ then _ else _)=0;split
  ·rename_i e;have:=(EP bT e).2;omega
  ·exact h.wf x hx
 have hle:Mem.le ⟨w,D⟩ ⟨w,D'⟩:=Mem.le_same h.wf (fun x _=>⟨hDD x,fun _=>rfl⟩);have Ft:Mem.le ⟨w,D'⟩ ⟨w,D'⟩:=Mem.le_refl ⟨w,D'⟩ eg;have aa4:∀g,g∈aE V ⟨st.bx,st.vc⟩->(V.γ b.id b.ver).blk≠some g->D' g=D g:=fun g _ b9=>ae b9
 refine⟨(V.γ b.id b.ver).a,(V.γ b.id b.ver).c,⟨w,D'⟩,D',Mem.le_trans h.mle hle,?_,⟨hl,fun h0=> ?_⟩,by unfold Hd.val;rw[hn],?_⟩
 ·rcases bT.2 with ⟨_,hz⟩ |⟨g,cap,cur,hv,_,_,hc,_⟩
  ·omega
  ·simp only[Hd.val,Value.slice.injEq] at hv;omega
 ·rcases bT.2 with ⟨_,hz⟩ |⟨g,cap,cur,hv,_,hh,hc,_,dG,rj⟩
  ·omega
  ·simp only[Hd.val,Value.slice.injEq] at hv;refine⟨⟨g,0,none⟩,hv.1,rfl,fun j hj=> ?_⟩;have GH:(V.γ b.id b.ver).blk=some g:=by unfold Hd.blk;rw[hv.1];rfl
   refine⟨?_,?_⟩
   ·rw[AB];simp only[World.cell?,hh,Option.isSome_none,Bool.false_eq_true,if_false];rw[<- rj,List.getElem?_take,ak hj,Array.getElem?_toList]
   ·show 0+j<D' g;have:D' g=b.n * b.sz:=ak GH;omega
 ·refine⟨⟨fun x hx=> ?_,fun x hx=> ?_,h.heap.apart,h.heap.uniq⟩,eg,h.frm.trans (S:=fun x=>(V.γ b.id b.ver).blk=some x) ⟨rfl,rfl,rfl,aC _,fun x _ hx=>⟨rfl,ae hx⟩⟩ (fun x hx=>h.own x (by
   simp only[aE,List.mem_append,List.mem_filterMap]
   exact .inr ⟨b,hm,hx⟩)),h.own,h.baseB,h.baseV,h.ids,Mem.le_trans h.le0 hle,Mem.le_trans h.m0 (Mem.le_trans h.mle hle),Ft⟩
  ·obtain⟨h1,h2⟩:=h.heap.bx x hx;refine⟨h1,?_⟩;rw[aa4 _ (by simp only[aE,List.mem_append,List.mem_map];exact .inl ⟨x,hx,rfl⟩)]
   ·exact h2
   ·intro e;have ft:=h.heap.apart;unfold aE at ft;exact(List.nodup_append.1 ft).2.2 _ (List.mem_map.2 ⟨x,hx,rfl⟩) _ (List.mem_filterMap.2 ⟨b,hm,e⟩) rfl
  ·obtain⟨h1,h2,h3,h4⟩:=h.heap.vc x hx;refine⟨h1,fun g hg=> ?_,h3,h4⟩;show(if _ then _ else _)<=_;split
   ·rename_i e;have hxb:x=b:=by
     have ft:=h.heap.apart;unfold aE at ft;have hf:=(List.nodup_append.1 ft).2.1;exact EE hx hm hg e hf
    rw[hxb];exact aC _
   ·exact h2 g hg
theorem kS:∀(l:List SV) (K:List SV->LS->Prop) (m:Mem) (D:Nat->Nat),jA l K ⟨st.env,st.rho,st.bx,st.vc,st.nid,m⟩->SatW C st.bx st.vc st.nid m V D w->
  ∃l' m1 D1,K l' ⟨st.env,st.rho,st.bx,st.vc,st.nid,m1⟩/\SatW C st.bx st.vc st.nid m1 V D1 w/\l'.map (aJ V)=l.map (aJ V)/\(∀x∈l',∀cs,x= .agg cs-> .agg cs∈l)
 |[],K,m,D,h,hW=>⟨[],m,D,h,hW,rfl,fun _ h=>by cases h⟩
 |s::r,K,m,D,h,hW=>by
  cases s with
  |vec k u=>
   simp only[jA] at h;obtain⟨b,hb,h⟩:=ax h;obtain⟨ad,c,m1,D',h1,h2,h3,h4,h5⟩:=SatW.pub (st:=⟨st.env,st.rho,st.bx,st.vc,st.nid,m⟩) hW hb;obtain⟨l',m2,D2,e1,e2,e3,e4⟩:=kS r _ m1 D' (h ad c m1 h1 h2 h3) h5;refine⟨_,m2,D2,e1,e2,?_,fun x hx cs e=> ?_⟩
   ·simp only[aG];rw[e3];congr 1
    exact h4.symm
   ·rcases List.mem_cons.1 hx with rfl |hx
    ·cases e
    ·exact bw _ (e4 x hx cs e)
  |v x=>
   obtain⟨l',m2,D2,e1,e2,e3,e4⟩:=kS r _ m D h hW
   exact⟨_,m2,D2,e1,e2,by simp only[aG,e3],fun y hy cs e=>by
    rcases List.mem_cons.1 hy with rfl |hy
    ·cases e
    ·exact bw _ (e4 y hy cs e)⟩
  |box k o=>
   obtain⟨l',m2,D2,e1,e2,e3,e4⟩:=kS r _ m D h hW
   exact⟨_,m2,D2,e1,e2,by simp only[aG,e3],fun y hy cs e=>by
    rcases List.mem_cons.1 hy with rfl |hy
    ·cases e
    ·exact bw _ (e4 y hy cs e)⟩
  |vp k u o=>
   obtain⟨l',m2,D2,e1,e2,e3,e4⟩:=kS r _ m D h hW
   exact⟨_,m2,D2,e1,e2,by simp only[aG,e3],fun y hy cs e=>by
    rcases List.mem_cons.1 hy with rfl |hy
    ·cases e
    ·exact bw _ (e4 y hy cs e)⟩
  |vo k u o z=>
   obtain⟨l',m2,D2,e1,e2,e3,e4⟩:=kS r _ m D h hW
   exact⟨_,m2,D2,e1,e2,by simp only[aG,e3],fun y hy cs e=>by
    rcases List.mem_cons.1 hy with rfl |hy
    ·cases e
    ·exact bw _ (e4 y hy cs e)⟩
  |mp k=>
   obtain⟨l',m2,D2,e1,e2,e3,e4⟩:=kS r _ m D h hW
   exact⟨_,m2,D2,e1,e2,by simp only[aG,e3],fun y hy cs e=>by
    rcases List.mem_cons.1 hy with rfl |hy
    ·cases e
    ·exact bw _ (e4 y hy cs e)⟩
  |mv f k o=>
   obtain⟨l',m2,D2,e1,e2,e3,e4⟩:=kS r _ m D h hW
   exact⟨_,m2,D2,e1,e2,by simp only[aG,e3],fun y hy cs e=>by
    rcases List.mem_cons.1 hy with rfl |hy
    ·cases e
    ·exact bw _ (e4 y hy cs e)⟩
  |sl k n c=>
   obtain⟨l',m2,D2,e1,e2,e3,e4⟩:=kS r _ m D h hW
   exact⟨_,m2,D2,e1,e2,by simp only[aG,e3],fun y hy cs e=>by
    rcases List.mem_cons.1 hy with rfl |hy
    ·cases e
    ·exact bw _ (e4 y hy cs e)⟩
  |cl f ks=>
   obtain⟨l',m2,D2,e1,e2,e3,e4⟩:=kS r _ m D h hW
   exact⟨_,m2,D2,e1,e2,by simp only[aG,e3],fun y hy cs e=>by
    rcases List.mem_cons.1 hy with rfl |hy
    ·cases e
    ·exact bw _ (e4 y hy cs e)⟩
  |agg cs=>
   obtain⟨l',m2,D2,e1,e2,e3,e4⟩:=kS r _ m D h hW
   exact⟨_,m2,D2,e1,e2,by simp only[aG,e3],fun y hy bh e=>by
    rcases List.mem_cons.1 hy with rfl |hy
    ·rw[e];exact bN ..
    ·exact bw _ (e4 y hy bh e)⟩
  |tup l0=>
   obtain⟨l',m2,D2,e1,e2,e3,e4⟩:=kS r _ m D h hW
   exact⟨_,m2,D2,e1,e2,by simp only[aG,e3],fun y hy cs e=>by
    rcases List.mem_cons.1 hy with rfl |hy
    ·cases e
    ·exact bw _ (e4 y hy cs e)⟩
end
section
variable {C:Ctx} {n:Nat} {st:LS} {a:Act} {V:Vl} {D:Nat->Nat} {w:World} {P:Program} {p:bj} {c:Cfg}
theorem mC:∀(l:List SV) (K:List SV->LS->Prop) (m:Mem) (D:Nat->Nat),yQ l K ⟨st.env,st.rho,st.bx,st.vc,st.nid,m⟩->SatW C st.bx st.vc st.nid m V D w->
  ∃l' m1 D1,K l' ⟨st.env,st.rho,st.bx,st.vc,st.nid,m1⟩/\SatW C st.bx st.vc st.nid m1 V D1 w/\l'.map (den V)=l.map (den V)
 |[],K,m,D,h,hW=>⟨[],m,D,h,hW,rfl⟩
 |s::r,K,m,D,h,hW=>by
  cases s with
  |agg cs=>
   obtain⟨bh,m1,D1,e1,e2,e3,_⟩:=kS (st:=st) cs _ m D h hW;obtain⟨l',m2,D2,f1,f2,f3⟩:=mC r _ m1 D1 e1 e2;exact⟨_,m2,D2,f1,f2,by simp only[aG,f3,EY,e3]⟩
  |vec k u=>
   simp only[yQ,jA] at h;obtain⟨b,hb,h⟩:=ax h;obtain⟨ad,cp,m1,D',h1,h2,h3,h4,h5⟩:=SatW.pub (st:=⟨st.env,st.rho,st.bx,st.vc,st.nid,m⟩) hW hb;obtain⟨l',m2,D2,f1,f2,f3⟩:=mC r _ m1 D' (h ad cp m1 h1 h2 h3) h5;refine⟨_,m2,D2,f1,f2,?_⟩;simp only[aG,fv,List.nil_append,f3];congr 1
   exact h4.symm
  |v x=>
   obtain⟨l',m2,D2,f1,f2,f3⟩:=mC r _ m D h hW;exact⟨_,m2,D2,f1,f2,by simp only[aG,fv,List.nil_append,f3]⟩
  |box k o=>
   obtain⟨l',m2,D2,f1,f2,f3⟩:=mC r _ m D h hW;exact⟨_,m2,D2,f1,f2,by simp only[aG,fv,List.nil_append,f3]⟩
  |vp k u o=>
   obtain⟨l',m2,D2,f1,f2,f3⟩:=mC r _ m D h hW;exact⟨_,m2,D2,f1,f2,by simp only[aG,fv,List.nil_append,f3]⟩
  |vo k u o z=>
   obtain⟨l',m2,D2,f1,f2,f3⟩:=mC r _ m D h hW;exact⟨_,m2,D2,f1,f2,by simp only[aG,fv,List.nil_append,f3]⟩
  |mp k=>
   obtain⟨l',m2,D2,f1,f2,f3⟩:=mC r _ m D h hW;exact⟨_,m2,D2,f1,f2,by simp only[aG,fv,List.nil_append,f3]⟩
  |mv f k o=>
   obtain⟨l',m2,D2,f1,f2,f3⟩:=mC r _ m D h hW;exact⟨_,m2,D2,f1,f2,by simp only[aG,fv,List.nil_append,f3]⟩
  |sl k n c=>
   obtain⟨l',m2,D2,f1,f2,f3⟩:=mC r _ m D h hW;exact⟨_,m2,D2,f1,f2,by simp only[aG,fv,List.nil_append,f3]⟩
  |cl f ks=>
   obtain⟨l',m2,D2,f1,f2,f3⟩:=mC r _ m D h hW;exact⟨_,m2,D2,f1,f2,by simp only[aG,fv,List.nil_append,f3]⟩
  |tup l0=>
   obtain⟨l',m2,D2,f1,f2,f3⟩:=mC r _ m D h hW;exact⟨_,m2,D2,f1,f2,by simp only[aG,fv,List.nil_append,f3]⟩
theorem tF (hS:Sat C n st a V D w) (hp:ef st.rho p) (hc:bG st.rho p=true):∀{l:List Operand} {ss:List SV},pe st p l=some ss->l.map a.eval=ss.map (den V)
 |[],ss,h=>by simp only[pe,cv] at h;subst h;rfl
 |x::r,ss,h=>by
  simp only[pe,Option.bind_eq_some_iff,Option.map_eq_some_iff] at h;obtain⟨s,hs,ss',hr,rfl⟩:=h;simp only[aG,cB hS hp hc hs,tF hS hp hc hr]
theorem Eb {o:Oper} {fo:Operand} {args:Array Operand} {ts:Array TypeId} {f:FuncId} (ho:o.op= .call {callee:= .value fo,args,argTypes:=ts}) (hf:a.eval fo= .func (.func f) #[] #[]) (ao:dp P f=true):
  (execOp a.eval o).run P w= .ok (.enter f (args.map a.eval)) w:=by
 unfold dp at ao;split at ao
 ·rename_i fn dK;simp only[bB,Bool.not_eq_true'] at ao;have hb:fn.body.isNone=false:=by cases h:fn.body<;>simp_all
  simp only[execOp,ho,resolve,hf,Deferred.ofValue,Sem.run_bind,Sem.run_pure,Result.andThen_ok,invoke,callFunc,run_program,dK,ao.1,hb,Bool.false_eq_true,if_false];simp
 ·cases ao
theorem Qd {o:Oper} {fo:Operand} {args:Array Operand} {ts:Array TypeId} {f:FuncId} {x:Value} (ho:o.op= .call {callee:= .value fo,args,argTypes:=ts}) (hf:a.eval fo= .func (.func f) #[x] #[]) (ao:dp P f=true):
  (execOp a.eval o).run P w= .ok (.enter f (#[x]++args.map a.eval)) w:=by
 unfold dp at ao;split at ao
 ·rename_i fn dK;simp only[bB,Bool.not_eq_true'] at ao;have hb:fn.body.isNone=false:=by cases h:fn.body<;>simp_all
  simp only[execOp,ho,resolve,hf,Deferred.ofValue,Sem.run_bind,Sem.run_pure,Result.andThen_ok,invoke,callFunc,run_program,dK,ao.1,hb,Bool.false_eq_true,if_false];simp
 ·cases ao
theorem Qe {o:Oper} {fo:Operand} {args:Array Operand} {ts:Array TypeId} {f:FuncId} {cs:Array Value} (ho:o.op= .call {callee:= .value fo,args,argTypes:=ts}) (hf:a.eval fo= .func (.func f) #[] cs) (ao:dp P f=true):
  (execOp a.eval o).run P w= .ok (.enter f (args.map a.eval++cs)) w:=by
 unfold dp at ao;split at ao
 ·rename_i fn dK;simp only[bB,Bool.not_eq_true'] at ao;have hb:fn.body.isNone=false:=by cases h:fn.body<;>simp_all
  simp only[execOp,ho,resolve,hf,Deferred.ofValue,Sem.run_bind,Sem.run_pure,Result.andThen_ok,invoke,callFunc,run_program,dK,ao.1,hb,Bool.false_eq_true,if_false];simp
 ·cases ao
theorem Hw (hS:Sat C n st a V D w) {f:FuncId} {ss:List SV} {K:SV->LS->Prop} {R:Ending->World->Prop} (h:zc (.mk (k:=(P,f,K)) (st,ss)))
  (hn:∀s ah V' D' w',K s ah->ah.rho=st.rho->Sat C n ah a V' D' w' ->Step st.nid st.vc ah.nid ah.vc V V' ->R (.returned (den V' s)) w'):Calls P f ⟨ss.map (den V)⟩ w R:=by
 simp only[zc,Fy] at h;obtain⟨bg,h⟩:=h;simp only[C5,FnH] at h;have hW:=hS.w;have abi:HSat (iy (qf st.bx (lf [] ss)) V) D w (ee st (qf st.bx (lf [] ss))):=(AH _ hW.heap).app.1.into bg.2.2.2;have:=h (iy (qf st.bx (lf [] ss)) V) w D hW.wf hW.mle abi;rw[J4 bg.2.2.1] at this;refine this.mono fun e w2 ⟨r,V2,D2,H',m',he,h1,h2,h3,h4,h5,h6,h7,h8,h9,hback,hK⟩=> ?_
 obtain⟨V3,a1,a2,a3,a4⟩:=hW.call (r:=r) ⟨bg.1,bg.2.1,trivial,bg.2.2.2⟩ hback h1 h2 h3 h4 h5 h6 h7 h8 h9;subst he;rw[<- a2];exact hn _ _ V3 D2 w2 hK rfl (hS.to a1 (Nat.le_add_right _ _) a4 a3) ⟨a1,Nat.le_add_right _ _,a4⟩
theorem Dm (hS:Sat C n st a V D w) {f:FuncId} {ss:List SV} {b:Bool} {K:SV->LS->Prop} {R:Ending->World->Prop} (h:wF (.mk (k:=(P,f,st,ss,K)) b))
  (hn:∀s ah V' D' w',K s ah->ah.rho=st.rho->Sat C n ah a V' D' w' ->Step st.nid st.vc ah.nid ah.vc V V' ->R (.returned (den V' s)) w'):Calls P f ⟨ss.map (den V)⟩ w R:=by
 cases b with
 |true=>exact Hw hS h hn
 |false=>
  obtain⟨l',m1,D1,e1,e2,e3⟩:=mC (st:=st) ss _ st.m D h hS.w;rw[<- e3];exact Hw (st:=⟨st.env,st.rho,st.bx,st.vc,st.nid,m1⟩) ⟨hS.f,hS.ids,e2⟩ e1 hn
theorem AA (hS:Sat C n st a V D w) {tx:TypeId} {sz:Nat} {y:SV} {K:Nat->List Value->Prop} (fe:0<sz) (h:oT (.mk (k:=(P,tx,sz,K)) (st,y))):∃m news,K m news/\Src P sz tx (den V y) m news w:=by
 unfold oT at h;split at h
 ·rename_i ah k u q;simp only[A.mk.injEq,Prod.mk.injEq] at q;obtain⟨rfl,rfl⟩:=q;obtain⟨e,he,h⟩:=ax h;obtain⟨b,hb,rfl,hK⟩:=ax h;refine⟨_,_,hK,?_⟩;obtain⟨hv,rfl,rfl⟩:=qm hS hb;obtain⟨hn,hl,hx⟩:=rV hv.1;show Src P b.sz tx (Hd.val _) b.n b.xs w;rcases Nat.eq_zero_or_pos b.n with h0 |h0
  ·have sK:b.xs=[]:=List.eq_nil_of_length_eq_zero (by rw[hl,h0,Nat.zero_mul]);unfold Hd.val;rw[hn,h0,sK];cases ha:(V.γ b.id b.ver).a with
   |none=>exact Src.ofNil w (iR he) _
   |some ad=>exact Src.ofSlice w (iR he) ad 0 _ [] (by simp) (fun j u hu=>by simp at hu) (fun u hu=>by cases hu)
  ·obtain⟨g,hg,hc⟩:=hx h0;unfold Hd.val;rw[hn,hg];exact Src.ofSlice w (iR he) ⟨g,0,none⟩ b.n _ b.xs hl (fun j u hu=>by rw[AB];exact hc j u hu) hv.2.2.2
 ·rename_i ah x m cp q;simp only[A.mk.injEq,Prod.mk.injEq] at q;obtain⟨rfl,rfl⟩:=q;obtain⟨e,he,xs,h1,h2,hK⟩:=ax h;refine⟨_,_,hK,?_⟩;show Src P sz tx (.slice x m cp) m xs w;rcases Nat.eq_zero_or_pos m with h0 |h0
  ·subst h0;have sK:xs=[]:=List.eq_nil_of_length_eq_zero (by rw[h1.1,Nat.zero_mul]);subst sK;cases x with
   |none=>exact Src.ofNil w (iR he) _
   |some ad=>exact Src.ofSlice w (iR he) ad 0 _ [] (by simp) (fun j u hu=>by simp at hu) (fun u hu=>by cases hu)
  ·obtain⟨ad,rfl,hc⟩:=L1 hS.mle h1 h0;exact Src.ofSlice w (iR he) ad m _ xs h1.1 hc h2
 ·rename_i ah s q;simp only[A.mk.injEq,Prod.mk.injEq] at q;obtain⟨rfl,rfl⟩:=q;obtain⟨h1,rfl,hK⟩:=h;refine⟨_,_,hK,?_⟩;rw[vW];exact Src.ofString w h1 s
 ·cases h
theorem Bw {b:Vc} {n:Nat} {xs:List Value}:(fI b n xs).id=b.id/\(fI b n xs).ver=b.ver+1:=by cases b;exact⟨rfl,rfl⟩
theorem Ed {k:Nat}:∀(bx:List Bx),(gR bx k).Sublist bx
 |[]=>List.Sublist.refl _
 |⟨k',t',c'⟩::r=>by
  simp only[gR];split
  ·exact .cons _ (List.Sublist.refl _)
  ·exact .cons_cons _ (Ed r)
theorem Ii {k:Nat} {b:Bx}:∀{bx:List Bx},dz bx k=some b->bx.Perm (b::gR bx k)
 |[],h=>by cases h
 |⟨k',t',c'⟩::r,h=>by
  simp only[dz] at h;simp only[gR];split at h
  ·rename_i e;cases h;rw[ak e]
  ·rename_i e;rw[ae e];exact((Ii h).cons _).trans (List.Perm.swap _ _ _)
theorem Bq {k:Nat} {b:Bx} {cs:List SV}:∀{bx:List Bx},dz bx k=some b->dz (fX bx k cs) k=some ⟨k,b.ty,cs⟩/\gR (fX bx k cs) k=gR bx k
 |[],h=>by cases h
 |⟨k',t',c'⟩::r,h=>by
  simp only[dz] at h;split at h
  ·rename_i e;cases h;subst e;simp [fX,dz,gR]
  ·rename_i e;simp only[fX,ae e,dz,gR];exact⟨(Bq h).1,by rw[(Bq h).2]⟩
theorem IZ {V:Vl} {bx fg:List Bx} {vc:List Vc} (hp:bx.Perm fg):(aE V ⟨bx,vc⟩).Perm (aE V ⟨fg,vc⟩):=by
 unfold aE;exact(hp.map _).append_right _
theorem SatW.remBx {C:Ctx} {bx:List Bx} {vc:List Vc} {nid:Nat} {m:Mem} {V:Vl} {D:Nat->Nat} {w:World} (h:SatW C bx vc nid m V D w) (k:Nat):SatW C (gR bx k) vc nid m V D w:=by
 have hs:=Ed (k:=k) bx;have oG:(aE V ⟨gR bx k,vc⟩).Sublist (aE V ⟨bx,vc⟩):=by
  unfold aE;exact(hs.map _).append (List.Sublist.refl _)
 exact⟨⟨fun b hb=>h.heap.bx b (hs.subset hb),h.heap.vc,h.heap.apart.sublist oG,h.heap.uniq⟩,h.wf,h.frm,fun b hb=>h.own b (oG.subset hb),h.baseB,h.baseV,⟨fun b hb=>h.ids.1 b (hs.subset hb),h.ids.2⟩,h.le0,h.m0,h.mle⟩
theorem SatW.moveBx {C:Ctx} {bx:List Bx} {vc:List Vc} {nid:Nat} {m:Mem} {V:Vl} {D:Nat->Nat} {w:World} (h:SatW C bx vc nid m V D w) {k:Nat} {b:Bx} (hb:dz bx k=some b):
  ∃V',Agree nid vc V V' /\V'.β nid=V.β k/\SatW C (⟨nid,b.ty,b.cs⟩::gR bx k) vc (nid+1) m V' D w:=by
 obtain⟨hk,hm⟩:=nN hb;have hs:=Ed (k:=k) bx;have hp:=Ii hb;refine⟨{V with β:=fun j=>if j=nid then V.β k else V.β j},AI V _,ak rfl,?_⟩;have ha:=AI (nid:=nid) (vc:=vc) V (V.β k);have hold:=h.keepH (w' :=w) ha (fun _ _=>rfl);have eA:aE {V with β:=fun j=>if j=nid then V.β k else V.β j} ⟨⟨nid,b.ty,b.cs⟩::gR bx k,vc⟩=aE V ⟨b::gR bx k,vc⟩:=by
  unfold aE;simp only[aG,if_true];rw[hk,List.map_congr_left fun x hx=>(ha x.id (h.ids.1 x (hs.subset hx)).1).1]
 have MB:(aE V ⟨bx,vc⟩).Perm (aE V ⟨b::gR bx k,vc⟩):=IZ hp;refine⟨⟨fun x hx=> ?_,hold.vc,by rw[eA];exact(MB.nodup_iff).1 h.heap.apart,h.heap.uniq⟩,h.wf,h.frm,fun x hx=> ?_,fun x hx=> ?_,fun x hx=> ?_,⟨fun x hx=> ?_,fun x hx=>Nat.lt_succ_of_lt (h.ids.2 x hx)⟩,h.le0,h.m0,h.mle⟩
 ·rcases List.mem_cons.1 hx with rfl |hx
  ·obtain⟨⟨o,h1,h2⟩,h3⟩:=h.heap.bx b hm;rw[hk] at h1 h3;refine⟨⟨o,?_,?_⟩,?_⟩
   ·show w.heap[(if nid=nid then V.β k else V.β nid)]? =_;rw[ak rfl];exact h1
   ·show gP b.ty (b.cs.map (aJ _)) o;rw[tG ha (h.ids.1 b hm).2];exact h2
   ·show D (if nid=nid then V.β k else V.β nid)=0;rw[ak rfl];exact h3
  ·exact hold.bx x (hs.subset hx)
 ·rw[eA] at hx;exact h.own x (MB.mem_iff.2 hx)
 ·obtain⟨h1,h2⟩:=h.baseB x hx;exact⟨((ha x.id h2).1).trans h1,Nat.lt_succ_of_lt h2⟩
 ·obtain⟨h1,h2,h3⟩:=h.baseV x hx;exact⟨fun u hu=>h1 u hu,Nat.lt_succ_of_lt h2,h3⟩
 ·rcases List.mem_cons.1 hx with rfl |hx
  ·exact⟨Nat.lt_succ_self _,nL (Nat.le_succ _) (fun _ _ _ h=>h) (h.ids.1 b hm).2⟩
  ·exact⟨Nat.lt_succ_of_lt (h.ids.1 x (hs.subset hx)).1,nL (Nat.le_succ _) (fun _ _ _ h=>h) (h.ids.1 x (hs.subset hx)).2⟩
theorem BB {nid:Nat} {vc:List Vc}:∀l:List Value,cP nid vc (l.map .v)
 |[]=>trivial
 |_::r=>⟨trivial,BB r⟩
theorem ER {nid:Nat} {vc:List Vc}:∀{a b:List SV},cP nid vc a->cP nid vc b->cP nid vc (a++b)
 |[],_,_,h=>h
 |_::_,_,ha,hb=>⟨ha.1,ER ha.2 hb⟩
theorem JB {nid:Nat} {vc:List Vc}:∀{a:List SV} {i:Nat},cP nid vc a->cP nid vc (a.take i)
 |_,0,_=>trivial
 |[],_+1,_=>trivial
 |_::_,i+1,h=>⟨h.1,JB (i:=i) h.2⟩
theorem lI {V:Vl} (l:List Value):(l.map SV.v).map (aJ V)=l:=by
 induction l with
 |nil=>rfl
 |cons x r ih=>simp only[aG,ih];rfl
theorem Jl {k:Nat}:∀(vc:List Vc),(gQ vc k).Sublist vc
 |[]=>List.Sublist.refl _
 |⟨k',u',e',z',n',x'⟩::r=>by
  simp only[gQ];split
  ·exact .cons _ (List.Sublist.refl _)
  ·exact .cons_cons _ (Jl r)
theorem I5 {k u:Nat}:∀{vc:List Vc},(∀b∈vc,b.id≠k)->ba vc k u
 |[],_=>trivial
 |⟨k',u',e',z',n',x'⟩::r,h=>by
  simp only[ba];rw[ae (h _ (bN ..))];exact I5 fun b hb=>h b (bw _ hb)
theorem xM {k k' u' :Nat}:∀{vc:List Vc},(vc.map (·.id)).Nodup->ba vc k' u' ->ba (gQ vc k) k' u'
 |[],_,_=>trivial
 |⟨k0,u0,e0,z0,n0,x0⟩::r,ew,h=>by
  simp only[aG,List.nodup_cons] at ew;simp only[ba] at h;simp only[gQ];split
  ·by_cases hk:k0=k'
   ·exact I5 fun b hb e=>ew.1 (by rw[hk,<- e];exact List.mem_map.2 ⟨b,hb,rfl⟩)
   ·rw[ae hk] at h;exact h
  ·simp only[ba];by_cases hk:k0=k'
   ·rw[ak hk] at h ⊢;exact h
   ·rw[ae hk] at h ⊢;exact xM ew.2 h
theorem JO {k u n:Nat} {b:Vc} {xs:List Value}:∀{vc:List Vc},cz vc k u=some b->b.id=k->b.ver=u->∃x,cz (gA vc k (fI b n xs)) k (u+1)=some x/\x.n=n/\x.sz=b.sz/\x.xs=xs
 |[],h,_,_=>by cases h
 |⟨k0,u0,e0,z0,n0,x0⟩::r,h,h1,h2=>by
  simp only[cz] at h;simp only[gA];split at h
  ·rename_i e;rw[ak e];obtain⟨bi,bv,be,bz,bn,bx⟩:=b;dsimp only at h1 h2;subst h1;subst h2;exact⟨⟨bi,bv+1,be,bz,n,xs⟩,by simp [fI,cz],rfl,rfl,rfl⟩
  ·rename_i e;rw[ae e];simp only[cz,ae e];exact JO h h1 h2
theorem Ih {k u n:Nat} {b:Vc} {xs:List Value}:∀{vc:List Vc},cz vc k u=some b->b.id=k->gQ (gA vc k (fI b n xs)) k=gQ vc k
 |[],h,_=>by cases h
 |⟨k0,u0,e0,z0,n0,x0⟩::r,h,h1=>by
  simp only[cz] at h;simp only[gA];split at h
  ·rename_i e;rw[ak e];obtain⟨bi,bv,be,bz,bn,bx⟩:=b;dsimp only at h1;subst h1;simp only[fI,gQ,ak e,if_true]
  ·rename_i e;rw[ae e];simp only[gQ,ae e];rw[Ih h h1]
theorem SatW.remVc {C:Ctx} {bx:List Bx} {vc:List Vc} {nid:Nat} {m:Mem} {V:Vl} {D:Nat->Nat} {w:World} (h:SatW C bx vc nid m V D w) (k:Nat):SatW C bx (gQ vc k) nid m V D w:=by
 have hs:=Jl (k:=k) vc;have oG:(aE V ⟨bx,gQ vc k⟩).Sublist (aE V ⟨bx,vc⟩):=by
  unfold aE;exact(List.Sublist.refl _).append (hs.filterMap _)
 have hv:∀k' u',k' <nid->ba vc k' u' ->ba (gQ vc k) k' u' :=fun k' u' _=>xM h.heap.uniq
 exact⟨⟨h.heap.bx,fun b hb=>h.heap.vc b (hs.subset hb),h.heap.apart.sublist oG,h.heap.uniq.sublist (hs.map _)⟩,h.wf,h.frm,fun b hb=>h.own b (oG.subset hb),h.baseB,
  fun b hb=>⟨(h.baseV b hb).1,(h.baseV b hb).2.1,xM h.heap.uniq (h.baseV b hb).2.2⟩,⟨fun b hb=>⟨(h.ids.1 b hb).1,nL (aC _) hv (h.ids.1 b hb).2⟩,fun b hb=>h.ids.2 b (hs.subset hb)⟩,h.le0,h.m0,h.mle⟩
theorem SatW.nidS {C:Ctx} {bx:List Bx} {vc:List Vc} {nid:Nat} {m:Mem} {V:Vl} {D:Nat->Nat} {w:World} (h:SatW C bx vc nid m V D w):SatW C bx vc (nid+1) m V D w:=
 ⟨h.heap,h.wf,h.frm,h.own,fun b hb=>⟨(h.baseB b hb).1,Nat.lt_succ_of_lt (h.baseB b hb).2⟩,fun b hb=>⟨(h.baseV b hb).1,Nat.lt_succ_of_lt (h.baseV b hb).2.1,(h.baseV b hb).2.2⟩,
  ⟨fun b hb=>⟨Nat.lt_succ_of_lt (h.ids.1 b hb).1,nL (Nat.le_succ _) (fun _ _ _ h=>h) (h.ids.1 b hb).2⟩,fun b hb=>Nat.lt_succ_of_lt (h.ids.2 b hb)⟩,h.le0,h.m0,h.mle⟩
theorem TH {m:Mem} {a:Option Addr} {n sz o:Nat} {xs:List Value} (h:aw m a n sz xs) (ho:o<=n) (c:Nat) (hc:n<=c):aw m (if c=o then a else a.map (·.add (o * sz))) (n - o) sz (xs.drop (o * sz)):=by
 refine⟨by rw[gI,h.1,<- Nat.sub_mul],fun h0=> ?_⟩;rw[ae (by omega)];obtain⟨ad,rfl,hs,hr⟩:=h.2 (by omega);obtain⟨g,f,sp⟩:=ad;dsimp only at hs;subst hs;refine⟨⟨g,f+o * sz,none⟩,by rw[Option.map_some,mL],rfl,fun j hj=> ?_⟩;have aj:o * sz+j<n * sz:=by
  have h1:o * sz+(n - o) * sz=n * sz:=by rw[<- Nat.add_mul];congr 1;omega
  omega
 have:=hr (o * sz+j) aj;rw[mL] at this ⊢;rw[List.getElem?_drop,Nat.add_assoc];exact⟨this.1,by have:=this.2;dsimp only at this ⊢;omega⟩
theorem Pt (hS:Sat C n st a V D w) {t tx e ty:TypeId} {s y:SV} {K:SV->LS->Prop} (he:eo P t=some e) (h:sH (.mk (k:=(P,e,tx,y,K)) (st,s))):
  ∃r ah V' D' w',(Builtin.append_ #[t,tx] ty #[den V s,den V y]).run P w= .ok (den V' r) w' /\K r ah/\ah.rho=st.rho/\Sat C n ah a V' D' w' /\Step st.nid st.vc ah.nid ah.vc V V' :=by
 unfold sH at h;split at h
 ·rename_i ah k u q;simp only[A.mk.injEq,Prod.mk.injEq] at q;obtain⟨rfl,rfl⟩:=q;obtain⟨b,hb,h1,h2,h3,h⟩:=ax h;obtain⟨z,hz,h4,h⟩:=ax h;obtain⟨m,news,⟨gM,hK⟩,hsrc⟩:=AA hS h3 h;obtain⟨i,hi,hisz,hiby⟩:=yr h3;obtain⟨zv,hzv,lp⟩:=Bm hi hz;obtain⟨hv,jQ,hbv⟩:=qm hS hb;have bT:=hv.1;rw[jQ,hbv,h1,h2,<- hisz] at bT;rw[<- hisz] at hsrc;obtain⟨h',w',bO,hown',fj⟩:=AJ (ty:=ty) (iR he) hi hzv (by rw[lp,h4,hisz]) bT hsrc (by rw[hiby];exact gM);have pQ:=hv.2.2;have ke:∀y' ∈b.xs++news,y'.oneCell' =true:=fun y' hy=>(List.mem_append.1 hy).elim (pQ.2 y') (hsrc.one y')
  have hU:=hS.w.updVc (w' :=w') (n:=b.n+m) (hd:=h') (xs:=b.xs++news) hb (Nat.mul_le_mul_right _ (Nat.le_add_right _ _))
   (by rcases fj with ⟨rfl,_⟩ |⟨g,cur,fA,_,_,_,rfl,_⟩ |⟨cc,_,rfl⟩<;>rfl)
   (by rcases fj with ⟨rfl,_⟩ |⟨g,cur,fA,_,_,_,rfl,_⟩ |⟨cc,_,rfl⟩<;>rfl)
   (by rcases fj with ⟨rfl,_⟩ |⟨g,cur,fA,_,_,_,rfl,_⟩ |⟨cc,_,rfl⟩<;>rfl)
   (by rcases fj with ⟨rfl,_⟩ |⟨g,cur,fA,_,_,_,rfl,_⟩ |⟨cc,_,rfl⟩<;>simp)
   (fun x hx b9=>by
    rcases fj with ⟨rfl,_⟩ |⟨g,cur,fA,_,hg,_,rfl,_⟩ |⟨cc,_,rfl⟩
    ·rfl
    ·exact setRow_other w g x _ (fun e=>b9 (e▸hg))
    ·exact tD w.drew _ x hx)
   (fun x hx=>by
    rcases fj with ⟨rfl,_⟩ |⟨g,cur,fA,_,hg,uz,rfl,hsame⟩ |⟨cc,_,rfl⟩
    ·exact oK rfl
    ·rw[hg] at hx;obtain rfl:g=x:=Option.some.inj hx;rw[uz,setRow_heap w g cur _ e _ uz];exact⟨_,_,_,rfl,fun j hj=>hsame j (by rw[hisz,<- h1];exact hj)⟩
    ·exact oK (tD w.drew _ x (EP bT hx).2))
   (by rw[h1,h2,<- hisz];exact hown')
   (fun x hx=>by
    rcases fj with ⟨rfl,rfl⟩ |⟨g,cur,fA,ez,hg,_,rfl,_⟩ |⟨cc,ez,rfl⟩
    ·exact .inl hx
    ·rw[ez] at hx;cases hx;exact .inl hg
    ·rw[ez] at hx;cases hx;exact .inr (aC _))
   ke
  obtain⟨V',ha,hγ,hW⟩:=hU;have CI:∀k' u',k' <st.nid->ba st.vc k' u' ->ba (gA st.vc k (fI b (b.n+m) (b.xs++news))) k' u' :=fun k' u' _=>Dp hb (by rw[Bw.1];exact jQ) (by rw[Bw.2,hbv];exact Nat.le_succ _) k' u'
  refine⟨_,_,V',D,w',?_,hK,rfl,hS.to ha (aC _) CI hW,⟨ha,aC _,CI⟩⟩;rw[show den V' (.vec k (u+1))=h'.val from by show Hd.val _=_;rw[hγ]];exact bO
 ·rename_i ah k ne c q;simp only[A.mk.injEq,Prod.mk.injEq] at q;obtain⟨rfl,rfl⟩:=q;obtain⟨b,hb,gZ,hem,h3,⟨eA,pL,kQ⟩,h⟩:=ax h;obtain⟨z,hz,h4,h⟩:=ax h;obtain⟨m,news,⟨gM,hK⟩,hsrc⟩:=AA hS h3 h;obtain⟨i,hi,hisz,hiby⟩:=yr h3;obtain⟨zv,hzv,lp⟩:=Bm hi hz;obtain⟨hk,hm⟩:=nN hb;obtain⟨⟨o,ho,jL⟩,GN⟩:=hS.heap.bx b hm;rw[hk] at ho;have NO:b.ty<gv:=by rw[gZ];exact hem
  have FQ:=yj NO jL;subst FQ;rw[gZ] at ho;rw[<- hisz] at hsrc eA;have ao:=(hS.w.ids.1 b hm).2;have aU:(b.cs.map (aJ V)).length=c * i.size:=by rw[List.length_map,eA]
  have bT:w.ownsRow 0 e i.size (Hd.val ⟨some ⟨V.β k,0,none⟩,ne,c⟩) ne ((b.cs.map (aJ V)).take (ne * i.size)):=
   ⟨by rw[List.length_take,aU];exact Nat.min_eq_left (Nat.mul_le_mul_right _ pL),.inr ⟨V.β k,c,_,rfl,aF _,ho,pL,kQ,by simp only[List.size_toArray];exact aU,rfl⟩⟩
  obtain⟨h',w',bO,hown',fj⟩:=AJ (ty:=ty) (iR he) hi hzv (by rw[lp,h4,hisz]) bT hsrc (by rw[hiby];exact gM);have fin:∀(g c' :Nat) (cur:Array Value),h' =⟨some ⟨g,0,none⟩,ne+m,c'⟩->ne+m<=c' ->c' <=maxLen->cur.size=c' * i.size->cur.toList.take ((ne+m) * i.size)=(b.cs.map (aJ V)).take (ne * i.size)++news->
    (∃V',Agree st.nid st.vc V V' /\V'.β st.nid=g/\SatW C (⟨st.nid,e,b.cs.take (ne * aM P e)++(news.map .v++(cur.toList.drop ((ne+m) * i.size)).map .v)⟩::gR st.bx k) st.vc (st.nid+1) st.m V' D w')->
    ∃r ah V' D' w',(Builtin.append_ #[t,tx] ty #[den V (.sl k ne c),den V y]).run P w= .ok (den V' r) w' /\K r ah/\ah.rho=st.rho/\Sat C n ah a V' D' w' /\Step st.nid st.vc ah.nid ah.vc V V' :=by
   intro g c' cur hh rz vb u9 GG hex;obtain⟨V',ha,hβ,hW⟩:=hex;refine⟨_,_,V',D,w',?_,hK c' _ rz vb ?_,rfl,hS.to ha (Nat.le_succ _) (fun _ _ _ h=>h) hW,⟨ha,Nat.le_succ _,fun _ _ _ h=>h⟩⟩
   ·rw[show den V' (.sl st.nid (ne+m) c')=h'.val from by rw[hh];show Value.slice (some ⟨V'.β st.nid,0,none⟩) _ _=_;rw[hβ];rfl];exact bO
   ·rw[gI,Array.length_toList,u9,<- hisz,<- Nat.sub_mul]
  have adP:((b.cs.map (aJ V)).take (ne * i.size)).length=ne * i.size:=by rw[List.length_take,aU];exact Nat.min_eq_left (Nat.mul_le_mul_right _ pL)
  have zA:∀rest:List Value,(b.cs.take (ne * aM P e)++(news.map SV.v++rest.map SV.v)).map (aJ V)=(b.cs.map (aJ V)).take (ne * i.size)++news++rest:=fun rest=>by
   rw[List.map_append,List.map_append,lI,lI,List.map_take,<- hisz,List.append_assoc]
  have MD:∀rest:List Value,cP st.nid st.vc (b.cs.take (ne * aM P e)++(news.map SV.v++rest.map SV.v)):=fun rest=>ER (JB ao) (ER (BB _) (BB _))
  have hh' :∃g c' cur,h' =⟨some ⟨g,0,none⟩,ne+m,c'⟩/\ne+m<=c' /\c' <=maxLen/\cur.size=c' * i.size/\cur.toList.take ((ne+m) * i.size)=(b.cs.map (aJ V)).take (ne * i.size)++news/\w'.heap[g]? =some (.cells cur e (0,0)):=by
   rcases hown'.2 with ⟨hv,h0⟩ |⟨g,cap,cur,hv,_,hg,q1,q2,q3,q4⟩
   ·exfalso;have hn:h'.a=none:=by
     simp only[Hd.val,Value.slice.injEq] at hv;exact hv.1
    have vd:h'.blk=none:=by unfold Hd.blk;rw[hn];rfl
    rcases fj with ⟨_,rfl⟩ |⟨g,_,_,hg,_⟩ |⟨_,hg,_⟩
    ·cases hn
    ·rw[vd] at hg;cases hg
    ·rw[vd] at hg;cases hg
   ·obtain⟨ha,hn,hc⟩:=h';simp only[Hd.val,Value.slice.injEq] at hv;obtain⟨rfl,rfl,rfl⟩:=hv;exact⟨g,_,cur,rfl,q1,q2,q3,q4,hg⟩
  obtain⟨g,c',cur,hh,rz,vb,u9,GG,hg⟩:=hh';refine fin g c' cur hh rz vb u9 GG ?_;have uz:cur=⟨(b.cs.map (aJ V)).take (ne * i.size)++news++cur.toList.drop ((ne+m) * i.size)⟩:=by
   rw[<- GG,List.take_append_drop]
  have FP:gP b.ty ((b.cs.take (ne * aM P e)++(news.map SV.v++(cur.toList.drop ((ne+m) * i.size)).map SV.v)).map (aJ V)) (.cells cur e (0,0)):=by
   rw[zA,<- gZ];have:=xJ (vs:=(b.cs.map (aJ V)).take (ne * i.size)++news++cur.toList.drop ((ne+m) * i.size)) NO;rwa [<- uz] at this
  have same:g=V.β k->w'.os=w.os->w'.tape=w.tape->w'.output=w.output->w'.heap.size=w.heap.size->(∀x,x≠V.β k->w'.heap[x]? =w.heap[x]?)->
    ∃V',Agree st.nid st.vc V V' /\V'.β st.nid=g/\SatW C (⟨st.nid,e,b.cs.take (ne * aM P e)++(news.map .v++(cur.toList.drop ((ne+m) * i.size)).map .v)⟩::gR st.bx k) st.vc (st.nid+1) st.m V' D w' :=fun e0 e1 e2 e3 e4 e6=>by
   have hW:=hS.w.setOb hb (MD _) FP e1 e2 e3 e4 (by rw[<- e0];exact hg) e6;obtain⟨V',ha,hβ,iA⟩:=hW.moveBx (Bq hb).1;rw[(Bq hb).2] at iA;dsimp only at iA;rw[gZ] at iA;exact⟨V',ha,by rw[hβ,e0],iA⟩
  rcases fj with ⟨rfl,rfl⟩ |⟨g2,cur1,cur2,u4,nz,hg3,rfl,hsame⟩ |⟨cc,u4,rfl⟩
  ·have e0:g=V.β k:=by
    have:=congrArg Hd.a hh;simp only[cv,Addr.mk.injEq] at this;exact this.1.symm
   exact same e0 rfl rfl rfl rfl fun _ _=>rfl
  ·have e0:g=V.β k:=by
    rw[hh] at u4;cases u4;cases nz;rfl
   have e2:g2=V.β k:=by cases nz;rfl
   subst e2;exact same e0 rfl rfl rfl (size_setRow _ _ _) fun x hx=>setRow_other w _ x _ hx
  ·have e0:g=w.heap.size:=by
    rw[hh] at u4;cases u4;rfl
   have qM:(w.drew.alloc (.cells cc e)).heap[w.heap.size]? =some (.cells cc e):=heap_alloc_new w.drew _;rw[e0,qM] at hg;have gY:Obj.cells cc e= .cells cur e (0,0):=Option.some.inj hg;rw[gY];have ve:SatW C (gR st.bx k) st.vc st.nid st.m V D w.drew:=by
    have h:=hS.w.remBx k;exact⟨⟨h.heap.bx,h.heap.vc,h.heap.apart,h.heap.uniq⟩,h.wf,⟨h.frm.os,h.frm.tape,h.frm.output,h.frm.size,h.frm.same⟩,h.own,h.baseB,h.baseV,h.ids,h.le0,h.m0,h.mle⟩
   rw[gZ] at FP;obtain⟨V',ha,hβ,iA⟩:=ve.addBx FP (MD _);exact⟨V',ha,by rw[hβ,e0];rfl,iA⟩
 ·rename_i ah k u o z q;simp only[A.mk.injEq,Prod.mk.injEq] at q;obtain⟨rfl,rfl⟩:=q;obtain⟨b,hb,h1,hzz,h2,h3,ho,hh⟩:=ax h;subst hzz;obtain⟨z0,hz,h4,hh⟩:=ax hh;obtain⟨m,news,⟨gM,hK⟩,hsrc⟩:=AA hS h3 hh;obtain⟨i,hi,hisz,hiby⟩:=yr h3;obtain⟨zv,hzv,lp⟩:=Bm hi hz;obtain⟨hv,jQ,hbv⟩:=qm hS hb;have bT:=hv.1;rw[jQ,hbv,h1,h2,<- hisz] at bT;rw[<- hisz] at hsrc;obtain⟨v,w',bO,fj⟩:=Oa (ty:=ty) (iR he) hi hzv (by rw[lp,h4,hisz]) bT ho hsrc (by rw[hiby];exact gM);have pQ:=hv.2.2;have ke:∀y' ∈b.xs++news,y'.oneCell' =true:=fun y' hy=>(List.mem_append.1 hy).elim (pQ.2 y') (hsrc.one y')
  have Zi:∀y' ∈b.xs.drop (o * i.size)++news,y'.oneCell' =true:=fun y' hy=>(List.mem_append.1 hy).elim (fun h=>pQ.2 y' (List.mem_of_mem_drop h)) (hsrc.one y')
  rw[show den V (.vo k u o (aM P e))=gE (V.γ k u).a (V.γ k u).c o (V.γ k u).n i.size from by rw[hisz];rfl];rcases fj with ⟨h',Ac,hown',hsame⟩ |⟨h',Ac,hown',cc,ez,Aa⟩
  ·have hU:=hS.w.updVc (w' :=w') (n:=b.n+m) (hd:=h') (xs:=b.xs++news) hb (Nat.mul_le_mul_right _ (Nat.le_add_right _ _))
    (by rcases hsame with ⟨rfl,_⟩ |⟨g,cur,fA,_,_,_,rfl,_⟩<;>rfl)
    (by rcases hsame with ⟨rfl,_⟩ |⟨g,cur,fA,_,_,_,rfl,_⟩<;>rfl)
    (by rcases hsame with ⟨rfl,_⟩ |⟨g,cur,fA,_,_,_,rfl,_⟩<;>rfl)
    (by rcases hsame with ⟨rfl,_⟩ |⟨g,cur,fA,_,_,_,rfl,_⟩<;>simp)
    (fun x hx b9=>by
     rcases hsame with ⟨rfl,_⟩ |⟨g,cur,fA,_,hg,_,rfl,_⟩
     ·rfl
     ·exact setRow_other w g x _ (fun e=>b9 (e▸hg)))
    (fun x hx=>by
     rcases hsame with ⟨rfl,_⟩ |⟨g,cur,fA,_,hg,uz,rfl,hsame⟩
     ·exact oK rfl
     ·rw[hg] at hx;obtain rfl:g=x:=Option.some.inj hx;rw[uz,setRow_heap w g cur _ e _ uz]
      exact⟨_,_,_,rfl,fun j hj=>hsame j (by rw[hisz,<- h1];exact hj)⟩)
    (by rw[h1,h2,<- hisz];exact hown')
    (fun x hx=>by
     rcases hsame with ⟨rfl,rfl⟩ |⟨g,cur,fA,ez,hg,_,rfl,_⟩
     ·exact .inl hx
     ·rw[ez] at hx;cases hx;exact .inl hg)
    ke
   obtain⟨V',ha,hγ,hW⟩:=hU;have CI:∀k' u',k' <st.nid->ba st.vc k' u' ->ba (gA st.vc k (fI b (b.n+m) (b.xs++news))) k' u' :=fun k' u' _=>Dp hb (by rw[Bw.1];exact jQ) (by rw[Bw.2,hbv];exact Nat.le_succ _) k' u'
   have iO:∃x,cz (gA st.vc k (fI b (b.n+m) (b.xs++news))) k (u+1)=some x/\x.n=b.n+m/\x.sz=b.sz/\x.xs=b.xs++news:=JO hb jQ hbv;obtain⟨x,hx,oy,pI,zY⟩:=iO;obtain⟨a',c',m1,D',p1,p2,p3,p4,p5⟩:=SatW.pub (st:=⟨st.env,st.rho,st.bx,gA st.vc k (fI b (b.n+m) (b.xs++news)),st.nid,st.m⟩) hW hx;rw[oy,pI,zY,h1] at p3;rw[oy] at p2 p4;rw[hγ] at p4;simp only[Hd.val,Value.slice.injEq] at p4;obtain⟨q1,q2,q3⟩:=p4;have hR:=TH p3 (by omega:o<=b.n+m) c' p2;have CP:b.n+m - o=b.n - o+m:=by omega
   rw[CP,List.drop_append_of_le_length (by rw[bT.1,hisz];exact Nat.mul_le_mul_right _ ho)] at hR;have lu:=(SatW.remVc p5 k).nidS;have wS:∀k' u',k' <st.nid->ba st.vc k' u' ->ba (gQ (gA st.vc k (fI b (b.n+m) (b.xs++news))) k) k' u' :=fun k' u' pN h=>xM hW.heap.uniq (CI k' u' pN h)
   have hre:gQ (gA st.vc k (fI b (b.n+m) (b.xs++news))) k=gQ st.vc k:=Ih hb jQ;rw[hre] at lu wS;refine⟨_,_,V',D',w',?_,hK _ (c' - o) m1 p1 (by omega) hR,rfl,hS.to ha (Nat.le_succ _) wS lu,⟨ha,Nat.le_succ _,wS⟩⟩;rw[bO,Ac,q1,q2,q3];show Result.ok (gE a' c' o (b.n+m) i.size) w' = .ok (.slice _ _ _) w';unfold gE;rw[hisz,CP]
  ·subst Aa;obtain⟨V',ha,hγ,hW⟩:=hS.w.addVc (w' :=w.drew.alloc (.cells cc e)) (hd:=h') rfl rfl rfl (by simp) (fun x hx=>tD w.drew _ x hx) hown' (fun x hx=>by rw[ez] at hx;cases hx;exact aC _) (by rw[hisz];exact h3) Zi;obtain⟨a',c',m1,D',p1,p2,p3,p4,p5⟩:=SatW.pub (st:=⟨st.env,st.rho,st.bx,⟨st.nid,0,e,i.size,b.n - o+m,b.xs.drop (o * i.size)++news⟩::st.vc,st.nid+1,st.m⟩) (k:=st.nid) (u:=0) (b:=⟨st.nid,0,e,i.size,b.n - o+m,b.xs.drop (o * i.size)++news⟩) hW (by simp [cz]);rw[hγ] at p4;have lu:=SatW.remVc (SatW.remVc p5 st.nid) k;rw[show gQ (⟨st.nid,0,e,i.size,b.n - o+m,b.xs.drop (o * i.size)++news⟩::st.vc) st.nid=st.vc from by simp [gQ]] at lu;have wS:∀k' u',k' <st.nid->ba st.vc k' u' ->ba (gQ st.vc k) k' u' :=fun k' u' pN h=>xM hS.w.heap.uniq h
   dsimp only at p2 p3;rw[hisz] at p3;refine⟨_,_,V',D',_,?_,hK a' c' m1 p1 p2 p3,rfl,hS.to ha (Nat.le_succ _) wS lu,⟨ha,Nat.le_succ _,wS⟩⟩;rw[bO,Ac,p4];rfl
 ·rename_i ah q;simp only[A.mk.injEq,Prod.mk.injEq] at q;obtain⟨rfl,rfl⟩:=q;obtain⟨h3,h⟩:=h;obtain⟨z,hz,h4,h⟩:=ax h;obtain⟨m,news,⟨gM,hK⟩,hsrc⟩:=AA hS h3 h;obtain⟨i,hi,hisz,hiby⟩:=yr h3;obtain⟨zv,hzv,lp⟩:=Bm hi hz;rw[<- hisz] at hsrc;have bT:w.ownsRow 0 e i.size (Hd.val ⟨none,0,0⟩) 0 []:=World.ownsRow_nil w 0 e i.size;obtain⟨h',w',bO,hown',fj⟩:=AJ (ty:=ty) (iR he) hi hzv (by rw[lp,h4,hisz]) bT hsrc (by rw[hiby,Nat.zero_add];exact gM);rw[Nat.zero_add,List.nil_append,hisz] at hown';obtain⟨V',ha,hγ,hW⟩:=hS.w.addVc (w' :=w') (hd:=h')
   (by rcases fj with ⟨rfl,_⟩ |⟨g,cur,fA,_,_,_,rfl,_⟩ |⟨cc,_,rfl⟩<;>rfl)
   (by rcases fj with ⟨rfl,_⟩ |⟨g,cur,fA,_,_,_,rfl,_⟩ |⟨cc,_,rfl⟩<;>rfl)
   (by rcases fj with ⟨rfl,_⟩ |⟨g,cur,fA,_,_,_,rfl,_⟩ |⟨cc,_,rfl⟩<;>rfl)
   (by rcases fj with ⟨rfl,_⟩ |⟨g,cur,fA,_,_,_,rfl,_⟩ |⟨cc,_,rfl⟩<;>simp)
   (fun x hx=>by
    rcases fj with ⟨rfl,_⟩ |⟨g,cur,fA,_,hg,_,rfl,_⟩ |⟨cc,_,rfl⟩
    ·rfl
    ·cases hg
    ·exact tD w.drew _ x hx)
   hown'
   (fun x hx=>by
    rcases fj with ⟨rfl,rfl⟩ |⟨g,cur,fA,ez,hg,_,rfl,_⟩ |⟨cc,ez,rfl⟩
    ·cases hx
    ·cases hg
    ·rw[ez] at hx;cases hx;exact aC _)
   h3 hsrc.one
  refine⟨_,_,V',D,w',?_,hK,rfl,hS.to ha (Nat.le_succ _) (fun k u hk hv=>pX rfl k u hk hv) hW,⟨ha,Nat.le_succ _,fun k u hk hv=>pX rfl k u hk hv⟩⟩;rw[show den V' (.vec st.nid 0)=h'.val from by show Hd.val _=_;rw[hγ]];exact bO
 ·cases h
end
theorem HL (z:List Value) (h:0<z.length):∀len:Nat,(List.range (len * z.length)).map (fun i=>z[i % z.length]!)=(List.replicate len z).flatten
 |0=>by simp
 |len+1=>by
  rw[Nat.succ_mul,List.range_add,List.map_append,HL z h len,List.replicate_succ',List.flatten_append];congr 1
  simp only[List.map_map,List.flatten_cons,List.flatten_nil,List.append_nil];apply List.ext_getElem?
  intro j;simp only[List.getElem?_map,Function.comp];rcases Nat.lt_or_ge j z.length with hj |hj
  ·rw[List.getElem?_range hj,List.getElem?_eq_getElem hj];simp only[Option.map_some,cv,Function.comp];rw[Nat.add_comm,Nat.add_mul_mod_self_right,Nat.mod_eq_of_lt hj];simp [List.getElem!_eq_getElem?_getD,List.getElem?_eq_getElem hj]
  ·rw[List.getElem?_eq_none (by simpa using hj),List.getElem?_eq_none hj];rfl
theorem IA (z:List Value) (len:Nat) (h:0<z.length):(Array.range (len * z.length)).map (fun i=>(⟨z⟩:Array Value)[i % (⟨z⟩:Array Value).size]!)=⟨(List.replicate len z).flatten⟩:=by
 apply Array.ext'
 rw[<- HL z h len];simp
theorem SZ {α β:Type} (f:α->β) (z:List α) (len:Nat):((List.replicate len z).flatten).map f=(List.replicate len (z.map f)).flatten:=by
 induction len with
 |zero=>rfl
 |succ k ih=>simp only[List.replicate_succ,List.flatten_cons,List.map_append,ih]
theorem Et (z:List Value) (len:Nat):((List.replicate len z).flatten).length=len * z.length:=by
 induction len with
 |zero=>simp
 |succ k ih=>simp only[List.replicate_succ,List.flatten_cons,bc,ih,Nat.succ_mul];omega
theorem QT (z:List Value) {l c:Nat} (h:l<=c):((List.replicate c z).flatten).take (l * z.length)=(List.replicate l z).flatten:=by
 obtain⟨d,rfl⟩:=Nat.exists_eq_add_of_le h;rw[<- List.replicate_append_replicate,List.flatten_append,<- Et z l];exact List.take_left
theorem SY {z:List Value} {len:Nat} {u:Value} (h:u∈(List.replicate len z).flatten):u∈z:=by
 obtain⟨l,hl,hu⟩:=List.mem_flatten.1 h;rw[List.mem_replicate] at hl;exact hl.2▸hu
theorem JD {nid:Nat} {vc:List Vc} {c:SV} (hc:gU nid vc c):∀(cs:List SV) (off:Nat),cP nid vc cs->cP nid vc (cs.set off c)
 |[],_,h=>h
 |_::_,0,h=>⟨hc,h.2⟩
 |_::cs,off+1,h=>⟨h.1,JD hc cs off h.2⟩
theorem JC {nid:Nat} {vc:List Vc}:∀(l cs:List SV) (off:Nat),cP nid vc l->cP nid vc cs->cP nid vc (iG cs off l)
 |[],_,_,_,h=>h
 |_::r,_,_,hl,h=>JC r _ _ hl.2 (JD hl.1 _ _ h)
section
variable {C:Ctx} {n:Nat} {st:LS} {a:Act} {V:Vl} {D:Nat->Nat} {w:World} {P:Program} {p:bj} {c:Cfg}
theorem Ju {sz:Nat} {st:LS} {p:bj} {z:List SV} (hz:z.length=sz):∀(l:List (Nat×Operand)) (i k:Nat) (pre cs:List SV),qj sz st p i l=some cs->pre.length=i * sz->cs.length=k * sz->0<sz->
  lG sz st p l (pre++(List.replicate k z).flatten)=some (pre++cs)
 |[],i,k,pre,cs,h,hp,hk,h0=>by
  simp only[qj,cv] at h;subst h;have:k=0:=by
   rcases Nat.eq_zero_or_pos k with h |h
   ·exact h
   ·have:=Nat.mul_pos h h0;simp only[pU] at hk;omega
  subst this;simp [lG]
 |(j,x)::r,i,k,pre,cs,h,hp,hk,h0=>by
  simp only[qj] at h;split at h
  ·rename_i e;subst e;simp only[Option.bind_eq_some_iff] at h;obtain⟨l,hl,h⟩:=h;split at h
   ·rename_i fr;obtain⟨bh,dG,rfl⟩:=Option.map_eq_some_iff.1 h;have NJ:0<k:=by
     rcases Nat.eq_zero_or_pos k with h |h
     ·subst h;simp only[bc,Nat.zero_mul] at hk;omega
     ·exact h
    obtain⟨k',rfl⟩:∃k',k=k' +1:=⟨k - 1,by omega⟩;have gX:(List.replicate (k' +1) z).flatten=z++(List.replicate k' z).flatten:=by rw[List.replicate_succ,List.flatten_cons]
    have pN:bh.length=k' * sz:=by
     rw[Nat.add_mul] at hk;simp only[bc,fr] at hk;omega
    simp only[lG];have hb:((bP st p x).bind iT)=some l:=by simpa [Option.bind_eq_some_iff] using hl
    rw[hb];simp only[Option.bind_some];rw[ak fr,ak (by rw[bc,hp,gX,bc,hz];omega)];rw[gX,EJ _ _ _ (by rw[bc,hp,bc,hz,fr];omega)];have e1:(pre++(z++(List.replicate k' z).flatten)).take (j * sz)=pre:=by rw[<- hp];exact List.take_left' rfl
    have e2:(pre++(z++(List.replicate k' z).flatten)).drop (j * sz+l.length)=(List.replicate k' z).flatten:=by
     rw[<- List.append_assoc];exact List.drop_left' (by rw[bc,hp,hz,fr])
    rw[e1,e2,Ju hz r (j+1) k' (pre++l) bh dG (by rw[bc,hp,fr,Nat.add_mul];omega) pN h0,List.append_assoc]
   ·cases h
  ·cases h
theorem Sg {sz len:Nat} {st:LS} {p:bj} {z:List SV} {parts:List (Nat×Operand)} {cs:List SV} (hz:z.length=sz) (h0:0<sz) (h:yH sz st p parts len z (qj sz st p 0 parts)=some cs):lG sz st p parts (List.replicate len z).flatten=some cs:=by
 cases hs:qj sz st p 0 parts with
 |none=>rw[hs] at h;exact h
 |some bh=>
  rw[hs] at h;simp only[yH] at h;split at h
  ·rename_i hl;cases h;have:=Ju hz parts 0 len [] _ hs (by simp) hl h0;simpa using this
  ·exact h
theorem G9 (hS:Sat C n st a V D w) (hp:ef st.rho p) (hc:bG st.rho p=true) {sz:Nat}:
  ∀(parts:List (Nat×Operand)) (cs bh:List SV),lG sz st p parts cs=some bh->
   Instr.fill (fun i=>some (i * sz,sz)) ⟨cs.map (aJ V)⟩ (parts.map fun x=>(x.1,a.eval x.2))=some ⟨bh.map (aJ V)⟩/\bh.length=cs.length
 |[],cs,bh,h=>by simp only[lG,cv] at h;subst h;exact⟨rfl,rfl⟩
 |(i,x)::r,cs,bh,h=>by
  simp only[lG] at h;obtain⟨l,hl,h⟩:=rG h;obtain⟨s,hs,hl⟩:=rG hl;split at h
  ·rename_i fe;split at h
   ·rename_i lU;have te:=cB hS hp hc hs;have aU:=AE (V:=V) hl;have yV:(a.eval x).cells.size=l.length:=by rw[te,aU];simp
    obtain⟨ih,ihl⟩:=G9 hS hp hc r _ bh h;refine⟨?_,by rw[ihl,Jh]⟩;simp only[aG,Instr.fill]
    rw[ae (by
     simp only[yV,List.size_toArray,List.length_map,Bool.or_eq_true,cE,not_or,Decidable.not_not]
     exact⟨by simpa using fe,by omega⟩)]
    have Fv:((a.eval x).cells.zipIdx.foldl (fun(cs:Array Value) (y:Value×Nat)=>cs.setIfInBounds (i * sz+y.2) y.1) ⟨cs.map (aJ V)⟩)=⟨(iG cs (i * sz) l).map (aJ V)⟩:=by
     rw[te,aU,<- Array.foldl_toList];have:=Eo (V:=V) l cs (i * sz) 0;simp only[Nat.add_zero] at this;rw[<- this];simp [Array.toList_zipIdx]
    rw[<- ih,<- Fv]
   ·cases h
  ·cases h
theorem Od (hS:Sat C n st a V D w) (hp:ef st.rho p) (hc:bG st.rho p=true) {t e:TypeId} {len:Nat} {parts:Array (Nat×Operand)} {z cs:List SV}
    (he:eo P t=some e) (hz:cY P e=some z) (pH:z.length=aM P e) (h0:0<aM P e) (MQ:len * aM P e<=16777216) (h:lG (aM P e) st p parts.toList (List.replicate len z).flatten=some cs):
    (Instr.buildSlice t len (parts.map fun x=>(x.1,a.eval x.2))).run P w= .ok (.slice (some ⟨w.heap.size,0,none⟩) len len) (w.alloc (.cells ⟨cs.map (aJ V)⟩ e))/\cs.length=len * aM P e:=by
  obtain⟨wC,hlen⟩:=G9 hS hp hc _ _ _ h;have wA:cs.length=len * aM P e:=by
    rw[hlen];have:((List.replicate len z).flatten).length=len * z.length:=by
      induction len with
      |zero=>simp
      |succ k _=>simp
    rw[this,pH]
  refine⟨?_,wA⟩;obtain⟨zv,hzv,hzc⟩:=Dn (V:=V) (w:=w) hz;have LR:(parts.map fun x=>(x.1,a.eval x.2)).toList=parts.toList.map fun x=>(x.1,a.eval x.2):=by simp
  simp only[Instr.buildSlice,Sem.run_bind,run_underlying (iR he),Result.andThen_ok,vP h0]
  rw[ae (by have:(2:Nat) ^ 24=16777216:=by decide
            omega)]
  rcases Nat.eq_zero_or_pos len with hl |hl
  · subst hl
    simp only[Nat.zero_mul,Array.range_zero',List.replicate_zero,List.flatten_nil] at h wC ⊢;have dG:cs=[]:=List.eq_nil_of_length_eq_zero (by simpa using wA);subst dG;simp only[if_true,Sem.run_pure,Result.andThen_ok,LR,Sem.run_bind];simp only[List.map_nil] at wC;have:(#[]:Array Nat).map (fun i=>(#[]:Array Value)[i % (#[]:Array Value).size]!)= #[]:=by simp
    rw[this];rw[wC];simp [newRow]
  · have b9:¬len * aM P e=0:=by have:=Nat.mul_pos hl h0;omega
    rw[ae b9];simp only[Sem.run_bind,Sem.run_pure,Result.andThen_ok,hzv,hzc,LR];have Zl:(Array.range (len * aM P e)).map (fun i=>(⟨z.map (aJ V)⟩:Array Value)[i % (⟨z.map (aJ V)⟩:Array Value).size]!)=⟨((List.replicate len z).flatten).map (aJ V)⟩:=by
      have:=IA (z.map (aJ V)) len (by simp;omega);simp only[List.length_map,pH] at this;rw[this,SZ]
    rw[Zl,wC];simp [newRow]
theorem ql {o:Oper} {v:Value} {w' :World} {next:Act->World->Prop} {Q:Exit->Act->World->Prop} (h:(execOp a.eval o).run P w= .ok (.value v) w') (hn:next (a.put o.dst v) w'):o.wp P a w next Q:=by
 unfold Oper.wp;rw[h];exact hn
theorem I3 {o:Oper} {w' :World} {next:Act->World->Prop} {Q:Exit->Act->World->Prop} (h:(execOp a.eval o).run P w= .ok .skip w') (hn:next (a.put o.dst undef) w'):o.wp P a w next Q:=by
 unfold Oper.wp;rw[h];exact hn
theorem QM (hS:Sat C n st a V D w) (hp:ef st.rho p) (hc:bG st.rho p=true) {o:Oper} {op:Op} (ho:o.op=op) {K:SV->LS->Prop} (h:kM (.mk (k:=(c,P,op,K)) (st,p)))
  {next:Act->World->Prop} {Q:Exit->Act->World->Prop} (hn:∀s ah V' D' w',K s ah->ah.rho=st.rho->Sat C n ah a V' D' w' ->Step st.nid st.vc ah.nid ah.vc V V' ->next (a.put o.dst (den V' s)) w'):o.wp P a w next Q:=by
 unfold kM at h;split at h
 ·rename_i t ah p' q;cases q;obtain⟨cs,hz,dE,ao,hK⟩:=ax h;obtain⟨zv,hzv,hzc⟩:=Dn (V:=V) (w:=w) hz;obtain⟨V',ha,hβ,hW⟩:=hS.w.addBx (t:=t) (xJ dE) ao;have bO:(Instr.alloc t true (.tuple #[])).run P w= .ok (.pointer (some ⟨w.heap.size,0,none⟩)) (w.alloc (.cells ⟨cs.map (aJ V)⟩ t)):=by
   simp [Instr.alloc,hzv,newVar,newRow,hzc]
  refine ql (v:= .pointer (some ⟨w.heap.size,0,none⟩)) (by simp only[execOp,ho];exact gL bO) ?_;have:=hn _ _ V' D _ hK rfl (hS.to ha (Nat.le_succ _) (fun _ _ _ h=>h) hW) ⟨ha,Nat.le_succ _,fun _ _ _ h=>h⟩;rwa [vU,hβ] at this
 ·rename_i t x ah p' q;cases q;obtain⟨cs,dG,dE,ao,hK⟩:=ax h;obtain⟨s,hs,dG⟩:=rG dG;obtain⟨V',ha,hβ,hW⟩:=hS.w.addBx (t:=t) (xJ dE) ao;have aU:=AE (V:=V) dG;have bO:(Instr.box t (den V s)).run P w= .ok (.pointer (some ⟨w.heap.size,0,none⟩)) (w.alloc (.cells ⟨cs.map (aJ V)⟩ t)):=by
   simp [Instr.box,newVar,newRow,aU]
  refine ql (v:= .pointer (some ⟨w.heap.size,0,none⟩)) (by simp only[execOp,ho,cB hS hp hc hs];exact gL bO) ?_;have:=hn _ _ V' D _ hK rfl (hS.to ha (Nat.le_succ _) (fun _ _ _ h=>h) hW) ⟨ha,Nat.le_succ _,fun _ _ _ h=>h⟩;rwa [vU,hβ] at this
 ·rename_i t x y ah p' q;cases q;obtain⟨sx,hx,h1⟩:=ax h;obtain⟨cs,dG,h2⟩:=ax h1;obtain⟨sy,hy,dG⟩:=rG dG;clear h h1;unfold Ca at h2;split at h2
  ·rename_i ah k off q;simp only[A.mk.injEq,Prod.mk.injEq] at q;obtain⟨rfl,rfl⟩:=q;obtain⟨b,hb,dE,h0,fe,ke,ao,lU,hK⟩:=ax h2;obtain⟨jQ,cR⟩:=nN hb;obtain⟨ob,qM,jL⟩:=(hS.heap.bx b cR).1;have FQ:=yj dE jL;subst FQ;rw[jQ] at qM;have adR:(cs.map (aJ V))=cs.map (aJ V):=rfl
   have hW:=hS.w.setBx (cs:=iG b.cs off cs) hb dE (by
    have pQ:=(hS.w.ids.1 b cR).2
    exact JC cs b.cs off ao pQ)
   have aU:=AE (V:=V) dG;have eM:=run_storeCells_at P (V.β k) off b.ty (cs.map (aJ V)) 0 ⟨b.cs.map (aJ V)⟩ w qM (by simp;exact lU) (mI ke);have bO:(Instr.storeAt t (.pointer (some ⟨V.β k,off,none⟩)) (den V sy)).run P w= .ok () (w.setRow (V.β k) ⟨(iG b.cs off cs).map (aJ V)⟩):=by
    have yV:(den V sy).cells.size=aM P t:=by rw[aU];simpa using fe
    simp only[Instr.storeAt,Instr.sureAddr,Sem.run_bind,Sem.run_pure,Result.andThen_ok,storeVar,vP h0];rw[ae (by rw[yV];simp)];rw[aU];rw[EJ _ _ _ lU];simp only[Nat.add_zero] at eM;simp only[List.map_append,List.map_take,List.map_drop];rw[<- List.length_map (f:=aJ V)];exact eM
   refine I3 (w' :=w.setRow (V.β k) ⟨(iG b.cs off cs).map (aJ V)⟩) (by
    simp only[execOp,ho,cB hS hp hc hx,cB hS hp hc hy,vU,Sem.run_bind,bO,Result.andThen_ok,Sem.run_pure]) ?_
   exact hn _ _ V D _ hK rfl (hS.to (Agree.refl _ _ _) (aC _) (fun _ _ _ h=>h) hW) ⟨Agree.refl _ _ _,aC _,fun _ _ _ h=>h⟩
  ·cases h2
 ·rename_i t len parts ah p' q;cases q;obtain⟨e,he,h⟩:=ax h;obtain⟨z,hz,pH,h0,MQ,h⟩:=ax h;obtain⟨cs,dG,h⟩:=ax h;have dG:=Sg pH h0 dG;obtain⟨l',m1,D1,e1,e2,e3,_⟩:=kS (st:=st) cs _ st.m D h hS.w;obtain⟨l,hl,ke,hK⟩:=ax e1;have gG:=AL (V:=V) hl;obtain⟨bO,hclen⟩:=Od hS hp hc he hz pH h0 MQ dG;rw[<- e3,gG] at bO;have ny:l.length=len * aM P e:=by
   rw[<- gG,e3,List.length_map,hclen]
  obtain⟨V',ha,hγ,hW⟩:=SatW.addVc (w' :=w.alloc (.cells ⟨l⟩ e)) (hd:=⟨some ⟨w.heap.size,0,none⟩,len,len⟩) (e:=e) (sz:=aM P e) (n:=len) (xs:=l) e2 rfl rfl rfl (by simp) (fun b hb=>tD w _ b hb)
   ⟨ny,.inr ⟨w.heap.size,len,⟨l⟩,rfl,aF _,heap_alloc_new w _,aC _,by
    have:len<=len * aM P e:=Nat.le_mul_of_pos_right _ h0
    simp only[maxLen];omega,by simpa using ny,by rw[<- ny];simp⟩⟩
   (fun g hg=>by simp only[Hd.blk,Option.map_some,cv] at hg;omega) h0
   (fun u hu=>by rw[<- gG] at hu;exact mI ke u hu)
  refine ql (v:= .slice (some ⟨w.heap.size,0,none⟩) len len) (by simp only[execOp,ho];exact gL bO) ?_;have:=hn _ _ V' D1 _ hK rfl (Sat.to (st:=⟨st.env,st.rho,st.bx,st.vc,st.nid,m1⟩) ⟨hS.f,hS.ids,e2⟩ ha (Nat.le_succ _) (fun k u hk hv=>pX rfl k u hk hv) hW) ⟨ha,Nat.le_succ _,fun k u hk hv=>pX rfl k u hk hv⟩;rwa [show den V' (.vec st.nid 0)= .slice (some ⟨w.heap.size,0,none⟩) len len from by show Hd.val _=_;rw[hγ];rfl] at this
 ·rename_i x y t tx ah p' q;cases q;obtain⟨sx,hx,h⟩:=ax h;obtain⟨sy,hy,h⟩:=ax h;obtain⟨e,he,h⟩:=ax h;obtain⟨r,ah,V',D',w',bO,hK,eD,dQ,ha⟩:=Pt (ty:=o.type) hS he h;rw[<- cB hS hp hc hx,<- cB hS hp hc hy] at bO
  refine ql (v:=den V' r) (by
   simp only[execOp,ho,resolve,Sem.run_bind,Sem.run_pure,Result.andThen_ok,invoke,builtin]
   simp only[List.map_toArray,aG,List.map_nil,bO,Result.andThen_ok]) (hn _ _ V' D' w' hK eD dQ ha)
 ·rename_i t l cp ah p' q;cases q;obtain⟨sl,hl,h1⟩:=ax h;obtain⟨sc,bQ,h2⟩:=ax h1;obtain⟨e,he,h3⟩:=ax h2;obtain⟨z,hz,h4⟩:=ax h3;clear h h1 h2 h3;obtain⟨zs,lp,hz⟩:=rG hz;unfold CE at h4;split at h4
  ·rename_i ah kl l' kc c' q;simp only[A.mk.injEq,Prod.mk.injEq] at q;obtain⟨rfl,rfl,rfl⟩:=q;obtain⟨Ah,Gw,gM,pH,h0,ke,hK⟩:=h4;obtain⟨i,hi,hisz,hiby⟩:=yr h0;have FM:=lp;unfold cY at FM;simp only[Option.map_eq_some_iff,Option.bind_eq_some_iff] at FM;obtain⟨zv,⟨i',lr,hzv⟩,hzz⟩:=FM;rw[hi] at lr;cases lr;have aa3:zv.cells=⟨z⟩:=by
    have:=AL (V:=V) hz;rw[<- hzz,wv] at this;rw[<- this]
   have Zp:0<=c' :=by omega
   have bO:=run_make (P:=P) w t e i zv (iR he) hi hzv kl kc l' c' Ah Gw (by
    have:=gM.1;rw[<- hiby] at this;have hh:((i.bytes * c'.toNat:Nat):Int)<=281474976710656:=by rw[Nat.mul_comm];omega
    rw[Int.natCast_mul,Int.toNat_of_nonneg Zp] at hh
    exact hh) (by have:=gM.2;simp only[maxLen] at this;omega)
   have W9:madeCells zv.cells (c'.toNat * i.size)=⟨(List.replicate c'.toNat z).flatten⟩:=by
    unfold madeCells;rw[aa3,hisz,<- pH];exact IA z _ (by omega)
   rw[W9] at bO;have hlen:((List.replicate l'.toNat z).flatten).length=l'.toNat * aM P e:=by rw[Et,pH]
   obtain⟨V',ha,hγ,hW⟩:=SatW.addVc (w' :=w.alloc (.cells ⟨(List.replicate c'.toNat z).flatten⟩ e)) (hd:=⟨some ⟨w.heap.size,0,none⟩,l'.toNat,c'.toNat⟩) (e:=e) (sz:=aM P e) (n:=l'.toNat) (xs:=(List.replicate l'.toNat z).flatten)
    hS.w rfl rfl rfl (by simp) (fun b hb=>tD w _ b hb)
    ⟨hlen,.inr ⟨w.heap.size,c'.toNat,⟨(List.replicate c'.toNat z).flatten⟩,rfl,aF _,heap_alloc_new w _,by omega,gM.2,by simp only[List.size_toArray,Et,pH],by
     show((List.replicate c'.toNat z).flatten).take (l'.toNat * aM P e)=_
     rw[<- pH];exact QT z (by omega)⟩⟩
    (fun g hg=>by simp only[Hd.blk,Option.map_some,cv] at hg;omega) h0
    (fun u hu=>by
     have:=mI (V:=V) ke u;rw[wv] at this
     exact this (SY hu))
   refine ql (v:= .slice (some ⟨w.heap.size,0,none⟩) l'.toNat c'.toNat) (by
    simp only[execOp,ho,cB hS hp hc hl,cB hS hp hc bQ,dm]
    exact gL bO) ?_
   have:=hn _ _ V' D _ hK rfl (hS.to ha (Nat.le_succ _) (fun k u hk hv=>pX rfl k u hk hv) hW) ⟨ha,Nat.le_succ _,fun k u hk hv=>pX rfl k u hk hv⟩;rwa [show den V' (.vec st.nid 0)= .slice (some ⟨w.heap.size,0,none⟩) l'.toNat c'.toNat from by show Hd.val _=_;rw[hγ];rfl] at this
  ·cases h4
 ·rename_i t ah p' q;cases q;obtain⟨uX,h⟩:=h;obtain⟨V',ha,hβ,hW⟩:=hS.w.addBx (t:=(dU P t).1) (cs:=[]) (o:= .map #[] 0) (by unfold gP;rw[ae (Nat.not_lt.2 uX.1)];exact⟨#[],0,[],rfl,rfl,rfl,fun x hx=>by cases hx⟩) trivial;have bO:(Instr.makeMap t (Option.map a.eval none)).run P w= .ok (.map (some w.heap.size)) (w.alloc (.map #[] 0)):=by
   simp [Instr.makeMap]
  refine ql (v:= .map (some w.heap.size)) (by simp only[execOp,ho];exact gL bO) ?_;have:=hn _ _ V' D _ h rfl (hS.to ha (Nat.le_succ _) (fun _ _ _ h=>h) hW) ⟨ha,Nat.le_succ _,fun _ _ _ h=>h⟩;rwa [show den V' (.mp st.nid)= .map (some w.heap.size) from by show Value.map _=_;rw[hβ]] at this
 ·rename_i f l ah p' q;cases q;obtain⟨ss,rk,h1⟩:=ax h;obtain⟨ks,hks,h2⟩:=ax h1;clear h h1;have zB:∀{ss:List SV} {ks:List Nat},tY ss=some ks->ss.map (den V)=ks.map (fun k=>Value.pointer (some ⟨V.β k,0,none⟩))/\∀{nid:Nat} {vc:List Vc},(∀s∈ss,fq nid vc s)->sY nid ks:=by
   intro ss;induction ss with
   |nil=>intro ks h;cases h;exact⟨rfl,fun _=>trivial⟩
   |cons s r ih=>
    intro ks h;unfold tY at h;split at h
    ·rename_i e;cases e
    ·rename_i k r' e;cases e;obtain⟨ks',hk,rfl⟩:=Option.map_eq_some_iff.1 h;obtain⟨i1,i2⟩:=ih hk;exact⟨by simp only[aG,i1];rfl,fun hs=>⟨hs _ (bN ..),i2 fun s td=>hs s (bw _ td)⟩⟩
    ·cases h
  have bO:(Instr.makeFunc (.func f) (Array.map a.eval #[]) (Array.map a.eval ⟨l⟩)).run P w= .ok (den V (.cl f ks)) w:=by
   have e:Array.map a.eval ⟨l⟩=⟨ks.map fun k=>Value.pointer (some ⟨V.β k,0,none⟩)⟩:=by
    apply Array.ext'
    rw[Array.toList_map,tF hS hp hc rk,(zB hks).1]
   rw[e];simp [Instr.makeFunc];rfl
  refine ql (v:=den V (.cl f ks)) (by simp only[execOp,ho];exact gL bO) ?_;exact hn _ _ V D _ h2 rfl (hS.to (Agree.refl _ _ _) (aC _) (fun _ _ _ h=>h) hS.w) ⟨Agree.refl _ _ _,aC _,fun _ _ _ h=>h⟩
 ·rename_i f r ah p' q;cases q;obtain⟨sr,hr,h1⟩:=ax h;clear h;unfold CD at h1;split at h1
  ·rename_i ah k o' q;simp only[A.mk.injEq,Prod.mk.injEq] at q;obtain⟨rfl,rfl⟩:=q;have bO:(Instr.makeFunc (.func f) (Array.map a.eval #[r]) (Array.map a.eval #[])).run P w= .ok (den V (.mv f k o')) w:=by
    have e:Array.map a.eval #[r]= #[den V (.box k o')]:=by
     apply Array.ext'
     simp only[Array.toList_map,aG,List.map_nil];rw[cB hS hp hc hr]
    rw[e];simp [Instr.makeFunc];rfl
   refine ql (v:=den V (.mv f k o')) (by simp only[execOp,ho];exact gL bO) ?_;exact hn _ _ V D _ h1 rfl (hS.to (Agree.refl _ _ _) (aC _) (fun _ _ _ h=>h) hS.w) ⟨Agree.refl _ _ _,aC _,fun _ _ _ h=>h⟩
  ·cases h1
 ·rename_i t m k x ah p' q;cases q;obtain⟨sm,hm,h1⟩:=ax h;obtain⟨sk,hk,h2⟩:=ax h1;obtain⟨sx,hx,h3⟩:=ax h2;clear h h1 h2;unfold Cb at h3;split at h3
  ·rename_i ah j s v q;simp only[A.mk.injEq,Prod.mk.injEq] at q;obtain⟨rfl,rfl,hpk,Ae⟩:=q;obtain⟨b,hb,dE,ht,uY,hvv,h4⟩:=ax h3;obtain⟨l,hl,hK⟩:=ax h4;have Cn:=beq_iff_eq.1 dE;obtain⟨es,fF,l',e1,e2,e3,e4⟩:=LJ hS hb (by rw[Cn];exact ht.1);rw[AS hl] at e2;subst e2;have NY:=e4;rw[Cn] at NY;obtain⟨tm,uD,bO,hes'⟩:=OV (P:=P) (w:=w) ht e1 e3 NY (by rw[<- Cn];exact uY) v;rw[Jq] at hK;have aj:V.β j<w.heap.size:=(Array.getElem?_eq_some_iff.1 e1).1;have zA:((iH (j9 l' s v)).map SV.v).map (aJ V)=iH (j9 l' s v):=by rw[List.map_map];exact List.map_id'' (fun _=>rfl) _
   have aa5:cP st.nid st.vc ((iH (j9 l' s v)).map SV.v):=by
    generalize iH (j9 l' s v)=z
    induction z with
    |nil=>trivial
    |cons y z ih=>exact⟨trivial,ih⟩
   have hW:=hS.w.setOb (w' :={w with heap:=w.heap.setIfInBounds (V.β j) (.map tm uD)}) (o:= .map tm uD) (cs:=(iH (j9 l' s v)).map SV.v) hb aa5
    (by unfold gP;rw[ae (Nat.not_lt.2 (by rw[Cn];exact ht.1)),zA];exact⟨tm,uD,_,rfl,rfl,hes',Kz uY hvv e4⟩) rfl rfl rfl (by simp) (MapKept.heap_set e1).1 (fun g hg=>(MapKept.heap_set e1).2 g hg)
   refine I3 (w' :={w with heap:=w.heap.setIfInBounds (V.β j) (.map tm uD)}) (by
    simp only[execOp,ho,cB hS hp hc hm,cB hS hp hc hk,cB hS hp hc hx,Sem.run_bind];rw[show den V (.mp j)= .map (some (V.β j)) from rfl,AT hpk,AT Ae,bO]
    rfl) ?_
   exact hn _ _ V D _ hK rfl (hS.to (Agree.refl _ _ _) (aC _) (fun _ _ _ h=>h) hW) ⟨Agree.refl _ _ _,aC _,fun _ _ _ h=>h⟩
  ·cases h3
 ·rename_i fo args _ ah p' q;cases q;obtain⟨l,hl,h1⟩:=ax h;obtain⟨sf,hf,h2⟩:=ax h1;clear h h1;unfold wy at h2;split at h2
  ·rename_i ah f q;simp only[A.mk.injEq,Prod.mk.injEq] at q;obtain⟨rfl,rfl⟩:=q;obtain⟨ao,h3⟩:=h2;have bO:=Eb (w:=w) ho (cB hS hp hc hf) ao;unfold Oper.wp;rw[bO];have lP:args.map a.eval=⟨l.map (den V)⟩:=by
    apply Array.ext'
    rw[Array.toList_map,tF hS hp hc hl]
   rw[lP];refine Dm (R:=fun | .returned v,kg=>next (a.put o.dst v) kg | .panicked chain,kg=>Q (.panic chain) a kg | .outgrown,_=>LetsOut Q) hS h3 ?_;intro s ah V' D' w' hK eD dQ ha;exact hn s ah V' D' w' hK eD dQ ha
  ·rename_i ah f k o' q;simp only[A.mk.injEq,Prod.mk.injEq] at q;obtain⟨rfl,rfl⟩:=q;obtain⟨ao,h3⟩:=h2;have bO:=Qd (w:=w) ho (cB hS hp hc hf) ao;unfold Oper.wp;rw[bO];have lP: #[Value.pointer (some ⟨V.β k,o',none⟩)]++args.map a.eval=⟨(SV.box k o' ::l).map (den V)⟩:=by
    apply Array.ext'
    simp only[Array.toList_append,Array.toList_map,tF hS hp hc hl,aG];rfl
   rw[lP];refine Dm (R:=fun | .returned v,kg=>next (a.put o.dst v) kg | .panicked chain,kg=>Q (.panic chain) a kg | .outgrown,_=>LetsOut Q) hS h3 ?_;intro s ah V' D' w' hK eD dQ ha;exact hn s ah V' D' w' hK eD dQ ha
  ·rename_i ah f ks q;simp only[A.mk.injEq,Prod.mk.injEq] at q;obtain⟨rfl,rfl⟩:=q;obtain⟨ao,h3⟩:=h2;have bO:=Qe (w:=w) ho (cB hS hp hc hf) ao;unfold Oper.wp;rw[bO];have lP:args.map a.eval++⟨ks.map fun k=>Value.pointer (some ⟨V.β k,0,none⟩)⟩=⟨(l++ks.map fun k=>SV.box k 0).map (den V)⟩:=by
    apply Array.ext'
    simp only[Array.toList_append,Array.toList_map,tF hS hp hc hl,List.map_append,List.map_map];rfl
   rw[lP];refine Dm (R:=fun | .returned v,kg=>next (a.put o.dst v) kg | .panicked chain,kg=>Q (.panic chain) a kg | .outgrown,_=>LetsOut Q) hS h3 ?_;intro s ah V' D' w' hK eD dQ ha;exact hn s ah V' D' w' hK eD dQ ha
  ·cases h2
 ·cases h
end
def j7 (n:Nat) (o:Oper):Bool:=match o.dst with |some d=>decide (d<n) |none=>true
def RInv (ops:Array Oper) (L:Nat->Prop) (rho:List Gd):Prop:=∀g∈rho,L g.i/\(ops[g.i]?).bind (·.dst)=some g.slot
def cw (c:Cfg) (P:Program):Prop:=
 ∀f F,c.pure f=some F->dp P f=true/\∀m aO y,F m aO=some y->y.1->FnH P f (aO.map SV.v) ⟨[],[]⟩ m (fun r H' _=>r= .v y.2/\H' =⟨[],[]⟩)
theorem xI {g:Gd} {rho:List Gd} {j:Nat} (h:g.i≠j):ev (g::rho) j=ev rho j:=by
 obtain⟨i,t,p,b⟩:=g;simp only[ev];rw[ae h]
theorem AF {g:Gd} {rho:List Gd}:ev (g::rho) g.i=some g:=by
 obtain⟨i,t,p,b⟩:=g;simp only[ev,if_true]
theorem D4 {g:Gd} {rho:List Gd} {p:bj} (h:ef rho p):ef (g::rho) p:=fun x hx=>by
 obtain⟨g',ez⟩:=h x hx;by_cases e:g.i=x.1
 ·exact⟨g,by rw[<- e];exact AF⟩
 ·exact⟨g',by rw[xI e];exact ez⟩
theorem QR {g:Gd} {rho:List Gd} {j:Nat} {w:Bool} (h:g.i≠j):lg (g::rho) j w=lg rho j w:=by
 unfold lg;rw[xI h]
theorem H5 {g:Gd} {rho:List Gd}:∀{p:bj},(∀x∈p,x.1≠g.i)->bG (g::rho) p=bG rho p
 |[],_=>rfl
 |(j,w)::p,h=>by
  simp only[bG];rw[QR (fun e=>h (j,w) (bN ..) e.symm),H5 fun x hx=>h x (bw _ hx)]
theorem Wp {rho:List Gd} {i:Nat} (hi:∀g∈rho,g.i≠i) {p:bj} (h:ef rho p):∀x∈p,x.1≠i:=fun x hx e=>by
 obtain⟨g,hg⟩:=h x hx;obtain⟨h1,h2⟩:=BQ hg;exact hi g h2 (h1.trans e)
theorem HN:∀p:bj,mS p p=true
 |[]=>rfl
 |(j,w)::p=>by simp only[mS,if_true];exact HN p
theorem RQ:∀p:bj,kJ p p=true
 |[]=>rfl
 |x::p=>by simp only[kJ];rw[ak (HN _)]
theorem UE {env:List Ev} {t:Nat} {q:bj} {s:SV} (h:dX env t q=some s):∃e∈env,kJ e.p q=true/\dX env t e.p=some s:=by
 induction env with
 |nil=>cases h
 |cons x r ih=>
  obtain⟨t',p',s'⟩:=x;simp only[dX] at h;split at h
  ·rename_i ht;split at h
   ·rename_i uS;refine⟨_,bN ..,uS,?_⟩;simp only[dX];rw[ak ht,ak (RQ p')];exact h
   ·cases h
  ·rename_i ht;obtain⟨e,he,h1,h2⟩:=ih h;refine⟨e,bw _ he,h1,?_⟩;simp only[dX];rw[ae ht];exact h2
theorem II {d:Nat}:∀{rho:List Gd},gT rho (some d)=false->∀g∈rho,g.slot≠d
 |[],_,_,hg=>by cases hg
 |⟨i,t,p,b⟩::r,h,g,hg=>by
  simp only[gT] at h;split at h
  ·cases h
  ·rename_i b9;rcases List.mem_cons.1 hg with rfl |hg
   ·exact b9
   ·exact II h g hg
section
variable {C:Ctx} {n:Nat} {st:LS} {a:Act} {V:Vl} {D:Nat->Nat} {w:World} {P:Program} {p:bj} {c:Cfg} {ops:Array Oper} {L:Nat->Prop} {i:Nat} {o:Oper}
theorem EM (hS:Sat C n st a V D w) {d:Nat} (hd:d<n) (v:Value):(a.put (some d) v).tmps[d]? =some v:=by
 have:=hS.f.size;simp only[Act.put];rw[Array.getElem?_setIfInBounds_self_of_lt (by omega)]
theorem Ik {d t:Nat} (v:Value) (h:t≠d):(a.put (some d) v).tmps[t]? =a.tmps[t]? :=by
 simp only[Act.put];rw[Array.getElem?_setIfInBounds_ne (fun e=>h e.symm)]
theorem Sat.put (hS:Sat C n st a V D w) {d:Option Nat} (hd:∀x,d=some x->x<n) (hit:gT st.rho d=false) (hp:ef st.rho p) {s:SV} (hs:fq st.nid st.vc s) {v:Value}
  (hv:bG st.rho p=true->v=den V s):Sat C n (E.put st d p s) (a.put d v) V D w:=by
 cases d with
 |none=>exact hS
 |some d=>
  refine⟨⟨hS.f.defers,by simp only[Act.put,Array.size_setIfInBounds];exact hS.f.size,?_,?_,?_⟩,?_,hS.w⟩
  ·intro e he;rcases List.mem_cons.1 he with rfl |he
   ·exact hp
   ·exact hS.f.pth e he
  ·intro t q s' hq hl hc;simp only[E.put,dX] at hl;split at hl
   ·rename_i ht;subst ht;split at hl
    ·rename_i uS;cases hl;rw[EM hS (hd _ rfl),hv (A1 uS hc)]
    ·cases hl
   ·rename_i ht;rw[Ik _ (fun e=>ht e.symm)];exact hS.f.env t q s' hq hl hc
  ·intro g hg;obtain⟨h1,h2,h3⟩:=hS.f.rho g hg;exact⟨h1,h2,by rw[Ik _ (II hit g hg)];exact h3⟩
  ·intro e he;rcases List.mem_cons.1 he with rfl |he
   ·exact hs
   ·exact hS.ids e he
theorem Sat.note (hS:Sat C n st a V D w) (hp:ef st.rho p) {b:Bool} {d:Nat} (hi:∀g∈st.rho,g.i≠i) (ht:a.tmps[d]? =some (if bG st.rho p=true then .bool b else undef)):
  Sat C n ⟨st.env,⟨i,d,p,.sym b⟩::st.rho,st.bx,st.vc,st.nid,st.m⟩ a V D w:=by
 have hc:∀{q:bj},ef st.rho q->bG (⟨i,d,p,.sym b⟩::st.rho) q=bG st.rho q:=fun hq=>H5 (Wp hi hq)
 refine⟨⟨hS.f.defers,hS.f.size,fun e he=>D4 (hS.f.pth e he),?_,?_⟩,hS.ids,hS.w⟩
 ·intro t q s hq hl xz;obtain⟨e,he,uS,lq⟩:=UE hl;have Nu:=hS.f.pth e he;exact hS.f.env t e.p s Nu lq (by rw[<- hc Nu];exact A1 uS xz)
 ·intro g hg;rcases List.mem_cons.1 hg with rfl |hg
  ·exact⟨AF,D4 hp,by rw[hc hp];exact ht⟩
  ·obtain⟨h1,h2,h3⟩:=hS.f.rho g hg;have:=hi g hg;exact⟨by rw[xI (fun e=>this e.symm)];exact h1,D4 h2,by rw[hc h2];exact h3⟩
/-! Forks. -/
structure Fk (st ah:LS):Prop where
 eqs:ah.bx=st.bx/\ah.vc=st.vc/\ah.nid=st.nid/\ah.m=st.m
 cond:∀q,bG ah.rho q=bG st.rho q
 wf:∀q,ef st.rho q->ef ah.rho q
 hit:∀d,gT ah.rho d=gT st.rho d
 inv:∀ops (L:Nat->Prop),RInv ops L st.rho->RInv ops L ah.rho
theorem Fk.refl (st:LS):Fk st st:=⟨⟨rfl,rfl,rfl,rfl⟩,fun _=>rfl,fun _ h=>h,fun _=>rfl,fun _ _ h=>h⟩
theorem Fk.trans {st ah ji:LS} (h:Fk st ah) (h' :Fk ah ji):Fk st ji:=
 ⟨⟨h'.eqs.1.trans h.eqs.1,h'.eqs.2.1.trans h.eqs.2.1,h'.eqs.2.2.1.trans h.eqs.2.2.1,h'.eqs.2.2.2.trans h.eqs.2.2.2⟩,fun q=>(h'.cond q).trans (h.cond q),fun q x=>h'.wf q (h.wf q x),
  fun d=>(h'.hit d).trans (h.hit d),fun o i x=>h'.inv o i (h.inv o i x)⟩
theorem Step.same {nid eI:Nat} {vc dq:List Vc} (h1:eI=nid) (h2:dq=vc) (V:Vl):Step nid vc eI dq V V:=by
 subst h1 h2;exact⟨Agree.refl _ _ _,aC _,fun _ _ _ h=>h⟩
theorem Step.trans {nid eI Ma:Nat} {vc dq Mt:List Vc} {V V' N6:Vl} (h:Step nid vc eI dq V V') (h' :Step eI dq Ma Mt V' N6):Step nid vc Ma Mt V N6:=
 ⟨fun k hk=>⟨((h'.agr k (dt hk h.up)).1).trans (h.agr k hk).1,fun u hu=>((h'.agr k (dt hk h.up)).2 u (h.ver k u hk hu)).trans ((h.agr k hk).2 u hu)⟩,cQ h.up h'.up,
  fun k u hk hu=>h'.ver k u (dt hk h.up) (h.ver k u hk hu)⟩
theorem Fk.step {st ah:LS} (h:Fk st ah) (V:Vl):Step st.nid st.vc ah.nid ah.vc V V:=Step.same h.eqs.2.2.1 h.eqs.2.1 V
def pz (j:Nat) (x:Bool) (g:Gd):Gd:=if g.i=j then⟨g.i,g.slot,g.p,.lit x⟩ else g
theorem yt {j:Nat} {x:Bool}:∀{rho:List Gd},jm rho j x=rho.map (pz j x)
 |[]=>rfl
 |⟨i,t,p,b⟩::r=>by
  simp only[jm,aG,pz];split
  ·rw[yt]
  ·rw[yt]
theorem BH {j:Nat} {x:Bool} (g:Gd):(pz j x g).i=g.i/\(pz j x g).slot=g.slot/\(pz j x g).p=g.p:=by
 unfold pz;split<;>exact⟨rfl,rfl,rfl⟩
theorem LN {f:Gd->Gd} (hf:∀g,(f g).i=g.i):∀{rho:List Gd} (k:Nat),ev (rho.map f) k=(ev rho k).map f
 |[],_=>rfl
 |g::r,k=>by
  by_cases e:g.i=k
  ·subst e;rw[AF,aG,<- hf g,AF];rfl
  ·rw[xI e,aG,xI (by rw[hf];exact e),LN hf]
theorem BG {rho:List Gd} {j:Nat} {x:Bool} (k:Nat):ev (jm rho j x) k=(ev rho k).map (pz j x):=by
 rw[yt];exact LN (fun g=>(BH g).1) k
theorem Lb {rho:List Gd} {j:Nat} {x:Bool} {g:Gd} (h:g∈jm rho j x):∃g' ∈rho,g=pz j x g' :=by
 rw[yt] at h;obtain⟨g',h1,h2⟩:=List.mem_map.1 h;exact⟨g',h1,h2.symm⟩
theorem K6 {f:Gd->Gd} (hf:∀g,(f g).slot=g.slot) {d:Option Nat}:∀{rho:List Gd},gT (rho.map f) d=gT rho d
 |[]=>rfl
 |g::r=>by
  cases d with
  |none=>rfl
  |some d=>
   have h1:∀(g:Gd) (r:List Gd),gT (g::r) (some d)=if g.slot=d then true else gT r (some d):=fun g r=>by cases g;rfl
   rw[aG,h1,h1,hf,K6 hf]
theorem Vn {j:Nat} {x:Bool} {d:Option Nat} {rho:List Gd}:gT (jm rho j x) d=gT rho d:=by
 rw[yt];exact K6 fun g=>(BH g).2.1
theorem La {rho:List Gd} {j k:Nat} {x:Bool} {g g' :Gd} (hg:ev rho j=some g) (hb:g.b.val=x) (hk:ev rho k=some g'):(pz j x g').b.val=g'.b.val:=by
 unfold pz;split
 ·rename_i e;have:=(BQ hk).1;rw[this] at e;subst e;rw[hg] at hk;cases hk;exact hb.symm
 ·rfl
theorem S0 {rho:List Gd} {j k:Nat} {x u:Bool} {g:Gd} (hg:ev rho j=some g) (hb:g.b.val=x):lg (jm rho j x) k u=lg rho k u:=by
 unfold lg;rw[BG];cases hk:ev rho k with
 |none=>rfl
 |some g' =>simp only[Option.map_some,La hg hb hk]
theorem JW {rho:List Gd} {j:Nat} {x:Bool} {g:Gd} (hg:ev rho j=some g) (hb:g.b.val=x):∀q:bj,bG (jm rho j x) q=bG rho q
 |[]=>rfl
 |(k,u)::q=>by simp only[bG];rw[S0 hg hb,JW hg hb q]
theorem yK {rho:List Gd} {j:Nat} {x:Bool} {q:bj}:ef (jm rho j x) q↔ef rho q:=by
 constructor
 ·intro h y hy;obtain⟨g,hg⟩:=h y hy;rw[BG] at hg;obtain⟨g',ez,_⟩:=Option.map_eq_some_iff.1 hg;exact⟨g',ez⟩
 ·intro h y hy;obtain⟨g,hg⟩:=h y hy;exact⟨_,by rw[BG,hg];rfl⟩
theorem SW (hS:Sat C n st a V D w) {j t:Nat} {q:bj} {b:GB} {i' :Nat} {x:Bool} (hg:ev st.rho j=some ⟨i',t,q,b⟩) (hb:b.val=x):
  Sat C n ⟨⟨t,q,.v (.bool x)⟩::st.env,jm st.rho j x,st.bx,st.vc,st.nid,st.m⟩ a V D w/\Fk st ⟨⟨t,q,.v (.bool x)⟩::st.env,jm st.rho j x,st.bx,st.vc,st.nid,st.m⟩:=by
 have hc:=JW hg hb;obtain⟨dd,hgm⟩:=BQ hg;obtain⟨h1,h2,h3⟩:=hS.f.rho _ hgm;refine⟨⟨⟨hS.f.defers,hS.f.size,?_,?_,?_⟩,?_,hS.w⟩,⟨rfl,rfl,rfl,rfl⟩,hc,fun q=>yK.2,fun _=>Vn,?_⟩
 ·intro e he;rcases List.mem_cons.1 he with rfl |he
  ·exact yK.2 h2
  ·exact yK.2 (hS.f.pth e he)
 ·intro t' q' s hq hl xz;simp only at hq xz;rw[hc] at xz;have hq:=yK.1 hq;simp only[dX] at hl;split at hl
  ·rename_i ht;subst ht;split at hl
   ·rename_i uS;cases hl;simp only at h3;rw[h3,ak (A1 uS xz),hb];rfl
   ·cases hl
  ·exact hS.f.env t' q' s hq hl xz
 ·intro g ez;obtain⟨g0,ei,rfl⟩:=Lb ez;obtain⟨e1,e2,e3⟩:=hS.f.rho g0 ei;obtain⟨f1,f2,f3⟩:=BH (j:=j) (x:=x) g0;refine⟨by rw[f1,BG,e1];rfl,by rw[f3];exact yK.2 e2,?_⟩;simp only;rw[f2,f3,hc,La hg hb e1];exact e3
 ·intro e he;rcases List.mem_cons.1 he with rfl |he
  ·trivial
  ·exact hS.ids e he
 ·intro ops i hR g hg;obtain⟨g',h1,rfl⟩:=Lb hg;obtain⟨f1,f2,f3⟩:=BH (j:=j) (x:=x) g';rw[f1,f2];exact hR g' h1
theorem OO (hS:Sat C n st a V D w) {j:Nat} {u:Bool} {g:Gd} (hg:ev st.rho j=some g) {dead live:LS->Prop} (h:nZ (.mk (k:=(j,u,dead,live)) (st,g))):
  ∃ah,Sat C n ah a V D w/\Fk st ah/\(lg st.rho j u=true->live ah)/\(lg st.rho j u=false->dead ah):=by
 have hv:=Br hg (w:=u);obtain⟨i',t,q,b⟩:=g;cases b with
 |lit b=>
  refine⟨st,hS,Fk.refl st,?_⟩;rw[hv];cases u<;>cases b<;>simp_all [nZ,GB.val]
 |sym b=>
  obtain⟨h1,h2⟩:=SW hS hg (x:=b) rfl;refine⟨_,h1,h2,?_⟩;rw[hv];cases u<;>cases b<;>simp_all [nZ,GB.val]
theorem Ho (hS:Sat C n st a V D w):∀{p:bj} {dead live:LS->Prop},BF p dead live st->∃ah,Sat C n ah a V D w/\Fk st ah/\(bG st.rho p=true->live ah)/\(bG st.rho p=false->dead ah)
 |[],dead,live,h=>⟨st,hS,Fk.refl st,fun _=>h,fun e=>by cases e⟩
 |(j,u)::p,dead,live,h=>by
  simp only[BF] at h;obtain⟨lj,s1,f1,l1,d1⟩:=Ho hS h;cases hc:bG st.rho p with
  |false=>exact⟨lj,s1,f1,fun e=>by simp [bG,hc] at e,fun _=>d1 hc⟩
  |true=>
   obtain⟨g,hg,h'⟩:=ax (l1 hc);obtain⟨cI,s2,f2,l2,d2⟩:=OO s1 hg h';have:lg lj.rho j u=lg st.rho j u:=by
    have:=f1.cond [(j,u)];simpa [bG] using this
   rw[this] at l2 d2;exact⟨cI,s2,f1.trans f2,fun e=>l2 (by simpa [bG,hc] using e),fun e=>d2 (by simpa [bG,hc] using e)⟩
/-! The guard of an operation. -/
theorem Dv (hS:Sat C n st a V D w) (hR:RInv ops L st.rho) (h:pathOf st o.guard=some p):ef st.rho p/\Region.wanted o (yielded ops a.tmps)=bG st.rho p:=by
 unfold Region.wanted;cases hg:o.guard with
 |none=>rw[hg] at h;simp only[pathOf,cv] at h;subst h;exact⟨nM,rfl⟩
 |some x=>
  obtain⟨j,u⟩:=x;rw[hg] at h;simp only[pathOf,Option.map_eq_some_iff] at h;obtain⟨g,hj,rfl⟩:=h;obtain⟨hi,hm⟩:=BQ hj;obtain⟨h1,h2,h3⟩:=hS.f.rho g hm;have yU:=(hR g hm).2;rw[hi] at yU;refine⟨fun y hy=> ?_,?_⟩
  ·rcases List.mem_cons.1 hy with rfl |hy
   ·exact⟨g,hj⟩
   ·exact h2 y hy
  ·simp only[bG,Br hj,yielded,yU,Option.bind_some,h3];cases hc:bG st.rho g.p with
   |false=>simp [undef]
   |true=>cases u<;>cases g.b.val<;>simp
theorem RInv.mono {rho:List Gd} {L' :Nat->Prop} (h:RInv ops L rho) (hL:∀k,L k->L' k):RInv ops L' rho:=fun g hg=>⟨hL _ (h g hg).1,(h g hg).2⟩
theorem RInv.note {rho:List Gd} (h:RInv ops L rho) (ff:ops[i]? =some o) {d:Nat} (hd:o.dst=some d) {b:GB}:RInv ops (fun k=>L k\/k=i) (⟨i,d,p,b⟩::rho):=fun g hg=>by
 rcases List.mem_cons.1 hg with rfl |hg
 ·exact⟨.inr rfl,by simp only[ff,Option.bind_some];exact hd⟩
 ·exact⟨.inl (h g hg).1,(h g hg).2⟩
theorem jy {d:Option Nat} {s:SV}:(E.put st d p s).rho=st.rho/\(E.put st d p s).nid=st.nid/\(E.put st d p s).vc=st.vc:=by
 cases d<;>exact⟨rfl,rfl,rfl⟩
theorem Pn {s:SV} {x:Value} (h:lF s=some x):den V s=x:=by
 cases s with
 |v y=>simp only[lF,cv] at h;subst h;rfl
 |agg cs=>
  simp only[lF,Option.map_eq_some_iff] at h;obtain⟨l,hl,rfl⟩:=h;rw[EY,AL hl]
 |_=>simp [lF] at h
theorem Dh:∀{ss:List SV} {l:List Value},tM ss=some l->ss.map (den V)=l
 |[],l,h=>by simp only[tM,cv] at h;subst h;rfl
 |s::r,l,h=>by
  simp only[tM,Option.bind_eq_some_iff,Option.map_eq_some_iff] at h;obtain⟨x,hx,l',hl,rfl⟩:=h;simp only[aG];rw[Pn hx,Dh hl]
theorem SatW.quiet {bx:List Bx} {vc:List Vc} {nid:Nat} {m:Mem} (h:SatW C bx vc nid m V D w) {w2:World} {D2:Nat->Nat} {V1:Vl} (sU:Wf w2 D2) (mw:Frm (· ∈aE V1 ⟨[],[]⟩) w D w2 D2) (hle:Mem.le ⟨w,D⟩ ⟨w2,D2⟩):
  SatW C bx vc nid m V D2 w2:=
 have hb:=rR h.heap
 ⟨h.heap.frame (fun _ _=>⟨rfl,rfl⟩) (fun _ _=>rfl) (fun g hg=>mw.same g (hb g hg) (by simp [aE])),sU,h.frm.trans mw (fun b hx=>by simp [aE] at hx),h.own,h.baseB,h.baseV,h.ids,
  Mem.le_trans h.le0 hle,h.m0,Mem.le_trans h.mle hle⟩
theorem Jx {op:Op} {F:Mem->List Value->Option (Prop×Value)} (h:eL c op= .pu F):∃f args ts,op= .call {callee:= .value (.func f),args,argTypes:=ts}/\c.pure f=some F:=by
 unfold eL at h;split at h;all_goals first |cases h |skip
 refine⟨_,_,_,rfl,?_⟩;cases hf:c.pure _ with
 |none=>rw[hf] at h;cases h
 |some G=>rw[hf] at h;cases h;rfl
theorem Ph (hS:Sat C n st a V D w) (di:cw c P) (hp:ef st.rho p) (hc:bG st.rho p=true) {F:Mem->List Value->Option (Prop×Value)} (hk:eL c o.op= .pu F) {K:SV->Prop} (h:Fl (.mk (k:=(F st.m,lZ st p,K)) (pe st p (vL o.op))))
  {next:Act->World->Prop} {Q:Exit->Act->World->Prop} (hn:∀y D' w',K (.v y)->Sat C n st a V D' w' ->next (a.put o.dst y) w'):o.wp P a w next Q:=by
 obtain⟨f,args,ts,ho,hf⟩:=Jx hk;obtain⟨ao,hF⟩:=di f F hf;obtain⟨y,hy,hB,hK⟩:=ax h;rw[ho] at hy;simp only[vL,Option.bind_eq_some_iff] at hy;obtain⟨aO,⟨ss,rk,hvals⟩,hy⟩:=hy;have bO:=Eb (w:=w) (a:=a) ho rfl ao;unfold Oper.wp;rw[bO];have lP:args.map a.eval=⟨(aO.map SV.v).map (den V)⟩:=by
  apply Array.ext'
  rw[Array.toList_map,tF hS hp hc rk,Dh hvals];simp only[List.map_map];exact(List.map_id'' (fun x=>rfl) aO).symm
 rw[lP];refine(hF st.m aO y hy (hB hc) V w D hS.w.wf hS.w.mle ⟨fun b hb=>(by cases hb),fun b hb=>(by cases hb),by simp [aE],by simp⟩).mono fun e w2 ⟨r,V2,D2,H',m',he,h1,h2,h3,h4,h5,h6,h7,h8,h9,hr,hH⟩=> ?_
 subst he;subst hr;exact hn y.2 D2 w2 hK ⟨hS.f,hS.ids,hS.w.quiet h1 h5 h7⟩
/-! One operation. -/
theorem Dj (st:LS) (i:Nat) (d:Option Nat) (p:bj) (mv:Bool) (s:SV):jB st i d p mv s=st\/∃d' b,d=some d' /\s= .v (.bool b)/\jB st i d p mv s=⟨st.env,⟨i,d',p,.sym b⟩::st.rho,st.bx,st.vc,st.nid,st.m⟩:=by
 unfold jB;split
 ·exact .inr ⟨_,_,rfl,rfl,rfl⟩
 ·exact .inl rfl
theorem Dk (st:LS) (i:Nat) (d:Option Nat) (p:bj) (mv:Bool):jC st i d p mv=st\/∃d',d=some d' /\jC st i d p mv=⟨st.env,⟨i,d',p,.sym false⟩::st.rho,st.bx,st.vc,st.nid,st.m⟩:=by
 unfold jC;split
 ·exact .inr ⟨_,rfl,rfl⟩
 ·exact .inl rfl
theorem vw {st:LS} {i:Nat} {d:Option Nat} {p:bj} {mv:Bool} {s:SV}:(jB (E.put st d p s) i d p mv s).nid=st.nid/\(jB (E.put st d p s) i d p mv s).vc=st.vc:=by
 rcases Dj (E.put st d p s) i d p mv s with e |⟨_,_,_,_,e⟩<;>rw[e]<;>cases d<;>exact⟨rfl,rfl⟩
theorem vx {st:LS} {i:Nat} {d:Option Nat} {p:bj} {mv:Bool} {s:SV}:(jC (E.put st d p s) i d p mv).nid=st.nid/\(jC (E.put st d p s) i d p mv).vc=st.vc:=by
 rcases Dk (E.put st d p s) i d p mv with e |⟨_,_,e⟩<;>rw[e]<;>cases d<;>exact⟨rfl,rfl⟩
theorem Ff (hd:j7 n o=true):∀x,o.dst=some x->x<n:=fun x hx=>by
 simp only[j7,hx] at hd;exact of_decide_eq_true hd
theorem za (hS:Sat C n st a V D w) (hR:RInv ops L st.rho) (lv:¬L i) (ff:ops[i]? =some o) (hd:j7 n o=true) (hit:gT st.rho o.dst=false) (hp:ef st.rho p) {s:SV} (hs:fq st.nid st.vc s) {v:Value}
  (hv:v=if bG st.rho p=true then den V s else undef) (mv:Bool):
  Sat C n (jB (E.put st o.dst p s) i o.dst p mv s) (a.put o.dst v) V D w/\RInv ops (fun k=>L k\/k=i) (jB (E.put st o.dst p s) i o.dst p mv s).rho:=by
 have u6:=Ff hd;have h1:=Sat.put hS (V:=V) u6 hit hp hs (v:=v) (fun hc=>by rw[hv,ak hc]);rcases Dj (E.put st o.dst p s) i o.dst p mv s with e |⟨d,b,e1,e2,e⟩
 ·rw[e];exact⟨h1,by rw[jy.1];exact hR.mono fun _=> .inl⟩
 ·rw[e]
  refine⟨h1.note (by rw[jy.1];exact hp) (by rw[jy.1];exact fun g hg e=>lv (e▸(hR g hg).1)) ?_,by
   simp only[jy.1];exact hR.note ff e1⟩
  rw[e1,EM hS (u6 _ e1),jy.1,hv,e2];rfl
theorem Fw (hS:Sat C n st a V D w) (hR:RInv ops L st.rho) (lv:¬L i) (ff:ops[i]? =some o) (hd:j7 n o=true) (hit:gT st.rho o.dst=false) (hp:ef st.rho p) (hc:bG st.rho p=false) (mv:Bool):
  Sat C n (jC (E.put st o.dst p (.v undef)) i o.dst p mv) (a.put o.dst undef) V D w/\RInv ops (fun k=>L k\/k=i) (jC (E.put st o.dst p (.v undef)) i o.dst p mv).rho:=by
 have u6:=Ff hd;have h1:=Sat.put hS (V:=V) u6 hit hp (s:= .v undef) trivial (v:=undef) (fun _=>rfl);rcases Dk (E.put st o.dst p (.v undef)) i o.dst p mv with e |⟨d,e1,e⟩
 ·rw[e];exact⟨h1,by rw[jy.1];exact hR.mono fun _=> .inl⟩
 ·rw[e]
  refine⟨h1.note (by rw[jy.1];exact hp) (by rw[jy.1];exact fun g hg e=>lv (e▸(hR g hg).1)) ?_,by
   simp only[jy.1];exact hR.note ff e1⟩
  rw[e1,EM hS (u6 _ e1),jy.1,hc];rfl
theorem wD (hS:Sat C n st a V D w) (hR:RInv ops L st.rho) (hd:j7 n o=true) (hit:gT st.rho o.dst=false) (hp:ef st.rho p) {s:SV} (hs:fq st.nid st.vc s) {v:Value} (hv:bG st.rho p=true->v=den V s):
  Sat C n (E.put st o.dst p s) (a.put o.dst v) V D w/\RInv ops (fun k=>L k\/k=i) (E.put st o.dst p s).rho:=
 ⟨Sat.put hS (Ff hd) hit hp hs hv,by rw[jy.1];exact hR.mono fun _=> .inl⟩
theorem Iq (hS:Sat C n st a V D w) (di:cw c P) (hR:RInv ops L st.rho) (lv:¬L i) (ff:ops[i]? =some o) (hd:j7 n o=true) (yX:pathOf st o.guard=some p) {K:LS->Prop} (h:one (.mk (k:=(c,P,i,o,K)) (st,p)))
  {next:Act->World->Prop} {Q:Exit->Act->World->Prop} (hn:∀ah a' V' D' w',K ah->Sat C n ah a' V' D' w' ->RInv ops (fun k=>L k\/k=i) ah.rho->Step st.nid st.vc ah.nid ah.vc V V' ->next a' w'):
  if Region.wanted o (yielded ops a.tmps) then o.wp P a w next Q\/(o.asks P a w/\LetsOut Q) else next (a.put o.dst undef) w:=by
 obtain⟨hp,hw⟩:=Dv hS hR yX;have L8:∀(d:Option Nat) (p:bj) (s:SV),Step st.nid st.vc (E.put st d p s).nid (E.put st d p s).vc V V:=fun d p s=>Step.same jy.2.1 jy.2.2 V
 have stepG:∀(d:Option Nat) (p:bj) (s:SV) (mv:Bool),Step st.nid st.vc (jB (E.put st d p s) i d p mv s).nid (jB (E.put st d p s) i d p mv s).vc V V:=fun d p s mv=>Step.same vw.1 vw.2 V
 have YN:∀(d:Option Nat) (p:bj) (s:SV) (mv:Bool),Step st.nid st.vc (jC (E.put st d p s) i d p mv).nid (jC (E.put st d p s) i d p mv).vc V V:=fun d p s mv=>Step.same vx.1 vx.2 V
 rw[hw];simp only[one] at h;unfold zo at h;split at h
 ·rename_i q dead he;simp only[A.mk.injEq,Prod.mk.injEq] at he;obtain⟨hq,hdead,hit⟩:=he;unfold uq at h;split at h
  ·rename_i ah p' q';cases q';have hc:=A0 hdead;rw[hc];simp only[Bool.false_eq_true,if_false];obtain⟨h1,h2⟩:=Fw hS hR lv ff hd hit hp hc (kX o.op);exact hn _ _ _ _ _ h h1 h2 (YN _ _ _ _)
  ·rename_i ah p' q';cases q';obtain⟨s,⟨hs,hK⟩,bO⟩:=DJ hS hp (o:=o) rfl h;cases hc:bG st.rho p with
   |true=>
    simp only[if_true];obtain⟨h1,h2⟩:=za hS hR lv ff hd hit hp hs (v:=den V s) (by rw[hc];rfl) (kX o.op);exact .inl (ql (bO hc) (hn _ _ _ _ _ hK h1 h2 (stepG _ _ _ _)))
   |false=>
    simp only[Bool.false_eq_true,if_false];obtain⟨h1,h2⟩:=za hS hR lv ff hd hit hp hs (v:=undef) (by rw[hc];rfl) (kX o.op);exact hn _ _ _ _ _ hK h1 h2 (stepG _ _ _ _)
  ·rename_i F ah p' q';cases q';cases hc:bG st.rho p with
   |true=>
    simp only[if_true];refine .inl (Ph hS di hp hc hq h fun y D' w' hK dQ=> ?_);obtain⟨h1,h2⟩:=wD (i:=i) dQ hR hd hit hp (s:= .v y) trivial (v:=y) (fun _=>rfl);exact hn _ _ _ _ _ hK h1 h2 (L8 _ _ _)
   |false=>
    simp only[Bool.false_eq_true,if_false];obtain⟨y,hy,hB,hK⟩:=ax h;obtain⟨h1,h2⟩:=wD (i:=i) hS hR hd hit hp (s:= .v y.2) trivial (v:=undef) (fun e=>by rw[hc] at e;cases e);exact hn _ _ _ _ _ hK h1 h2 (L8 _ _ _)
  ·rename_i ah p' q';cases q';obtain⟨lj,s1,f1,l1,d1⟩:=Ho hS h;have CL:=f1.wf _ hp;have FU:gT lj.rho o.dst=false:=by rw[f1.hit];exact hit
   have GK:=f1.inv _ _ hR;cases hc:bG st.rho p with
   |true=>
    simp only[if_true];have rz:bG lj.rho p=true:=by rw[f1.cond];exact hc
    refine .inl (QM s1 CL rz rfl (l1 hc) fun s ah V' D' w' ⟨hs,hK⟩ eD dQ eM=> ?_);rw[<- eD] at CL FU GK;obtain⟨h1,h2⟩:=wD (i:=i) dQ GK hd FU CL hs (v:=den V' s) (fun _=>rfl);exact hn _ _ _ _ _ hK h1 h2 (by rw[jy.2.1,jy.2.2];exact(f1.step V).trans eM)
   |false=>
    simp only[Bool.false_eq_true,if_false];obtain⟨h1,h2⟩:=wD (i:=i) s1 GK hd FU CL (s:= .v undef) trivial (v:=undef) (fun _=>rfl);exact hn _ _ _ _ _ (d1 hc) h1 h2 (by rw[jy.2.1,jy.2.2];exact f1.step V)
 ·cases h
/-! The whole region. -/
theorem QE {y x:Nat} {l:List Nat} (h:fy (y::l) x=false):y≠x/\fy l x=false:=by
 simp only[fy] at h;split at h
 ·cases h
 ·rename_i e;exact⟨e,h⟩
theorem Bc:∀{env:List Ev} {dead:List Nat} {t:Nat} {s:SV},dX (kD dead env) t []=some s->fy dead t=false/\dX env t []=some s
 |[],dead,t,s,h=>by simp [kD,dX] at h
 |⟨t',[],s'⟩::r,dead,t,s,h=>by
  simp only[kD] at h;split at h
  ·rename_i hm;obtain⟨h1,h2⟩:=Bc h;refine⟨h1,?_⟩;simp only[dX];rw[ae (fun e=>by rw[e,h1] at hm;cases hm)];exact h2
  ·rename_i hm;simp only[dX] at h ⊢;split at h
   ·rename_i e;subst e;rw[ak rfl];exact⟨by simpa using hm,h⟩
   ·rename_i e;rw[ae e];exact Bc h
 |⟨t',x::q,s'⟩::r,dead,t,s,h=>by
  simp only[kD] at h;obtain⟨h1,h2⟩:=Bc h;obtain⟨h3,h4⟩:=QE h1;refine⟨h4,?_⟩;simp only[dX];rw[ae h3];exact h2
theorem xZ:∀{env:List Ev} {dead:List Nat} {e:Ev},e∈kD dead env->e∈env/\e.p=[]
 |[],dead,e,h=>by simp [kD] at h
 |⟨t',[],s'⟩::r,dead,e,h=>by
  simp only[kD] at h;split at h
  ·obtain⟨h1,h2⟩:=xZ h;exact⟨bw _ h1,h2⟩
  ·rcases List.mem_cons.1 h with rfl |h
   ·exact⟨bN ..,rfl⟩
   ·obtain⟨h1,h2⟩:=xZ h;exact⟨bw _ h1,h2⟩
 |⟨t',x::q,s'⟩::r,dead,e,h=>by
  simp only[kD] at h;obtain⟨h1,h2⟩:=xZ h;exact⟨bw _ h1,h2⟩
theorem Dl (hS:Sat C n st a V D w):jq C n (clean st) a w:=by
 refine⟨rfl,V,D,⟨hS.f.defers,hS.f.size,fun e he=> ?_,fun t q s hq hl _=> ?_,fun g hg=>by cases hg⟩,fun e he=>hS.ids e (xZ he).1,hS.w⟩
 ·rw[(xZ he).2];exact nM
 ·have:q=[]:=by
   cases q with
   |nil=>rfl
   |cons x q=>obtain⟨g,hg⟩:=hq x (bN ..);cases hg
  subst this;exact hS.f.env t [] s nM (Bc hl).2 rfl
end
section
variable {C:Ctx} {n:Nat} {P:Program} {c:Cfg} {ops:Array Oper}
theorem HA (di:cw c P) {K:LS->Prop} {Q:Exit->Act->World->Prop} (hQ:∀ah a' w',K ah->jq C n ah a' w' ->Q .normal a' w'):
  ∀(l:List Oper) (i:Nat) (st:LS) (a:Act) (V:Vl) (D:Nat->Nat) (w:World),zg c P l i K st->Sat C n st a V D w->RInv ops (· <i) st.rho->(∀j,l[j]? =ops[i+j]?)->(∀o∈l,j7 n o=true)->wpList P ops Q l a w
 |[],i,st,a,V,D,w,h,hS,hR,hl,hd=>hQ _ _ _ h (Dl hS)
 |o::r,i,st,a,V,D,w,h,hS,hR,hl,hd=>by
  obtain⟨p,hp,h⟩:=ax h;have ff:ops[i]? =some o:=by have:=hl 0;simpa using this.symm
  unfold wpList;refine Iq hS di hR (Nat.lt_irrefl _) ff (hd o (bN ..)) hp h fun ah a' V' D' w' hK dQ rB _=> ?_
  exact HA di hQ r (i+1) ah a' V' D' w' hK dQ (rB.mono fun k hk=>by omega) (fun j=>by have:=hl (j+1);simpa [Nat.add_assoc,Nat.add_comm 1 j] using this) (fun o ho=>hd o (bw _ ho))
end
def jX (n:Nat):Code->Bool
 | .region _ ops _=>ops.toList.all (j7 n)
 | .seq a b=>jX n a&&jX n b
 | .cond _ a b=>jX n a&&jX n b
 | .block _ a=>jX n a
 | .loop a=>jX n a
 | .scope a=>jX n a
 | .rangeFunc .. =>false
 |_=>true
theorem OW {V:Vl} {s:SV} {b:Bool} (h:oQ s=some b):den V s= .bool b:=by
 cases s with
 |v x=>cases x<;>simp only[oQ,cv,reduceCtorEq] at h;subst h;rfl
 |_=>simp [oQ] at h
section
variable {P:Program} {n:Nat} {c:Cfg}
theorem Yq {a b:Code} {K:LS->Prop} {Q:Exit->LS->Prop} {st:LS} (ha:WP P n a (iC K Q) st) (hb:∀st,K st->WP P n b Q st):WP P n (.seq a b) Q st:=by
 intro C a' w hE;refine wp_seq (wp_mono (ha C a' w hE) ?_);rintro e a2 w2 ⟨cI,hE2,hq⟩;cases e with
 |normal=>exact hb cI hq C a2 w2 hE2
 |exit id=>exact⟨cI,hE2,hq⟩
 |goto l=>exact⟨cI,hE2,hq⟩
 |ret=>exact⟨cI,hE2,hq⟩
 |panic ch=>exact⟨cI,hE2,hq⟩
 |outgrown=>exact⟨cI,hE2,hq⟩
theorem VZ {x:Operand} {a b:Code} {Q:Exit->LS->Prop} {st:LS} {s:SV} {t:Bool} (hr:bP st [] x=some s) (hs:oQ s=some t) (ha:t=true->WP P n a Q st) (hb:t=false->WP P n b Q st):WP P n (.cond x a b) Q st:=by
 intro C a' w hE;obtain⟨_,V,D,hS⟩:=id hE;have:=cB hS nM rfl hr;rw[OW hs] at this;exact wp_cond_split this (fun h=>ha h C a' w hE) (fun h=>hb h C a' w hE)
theorem TF {id:Nat} {a:Code} {Q:Exit->LS->Prop} {st:LS} (ha:WP P n a (we id Q) st):WP P n (.block id a) Q st:=by
 intro C a' w hE;refine wp_block (wp_mono (ha C a' w hE) ?_);rintro e a2 w2 ⟨cI,hE2,hq⟩;cases e with
 |exit id' =>
  simp only[we] at hq;simp only[Exit.inBlock];split at hq
  ·rename_i h;rw[ak h];exact⟨cI,hE2,hq⟩
  ·rename_i h;rw[ae h];exact⟨cI,hE2,hq⟩
 |normal=>exact⟨cI,hE2,hq⟩
 |goto l=>exact⟨cI,hE2,hq⟩
 |ret=>exact⟨cI,hE2,hq⟩
 |panic ch=>exact⟨cI,hE2,hq⟩
 |outgrown=>exact⟨cI,hE2,hq⟩
theorem Rn (di:cw c P) {id:Nat} {l:List Oper} {Q:Exit->LS->Prop} {st:LS} (hd:l.all (j7 n)=true) (h:zg c P l 0 (Q .normal) st):WP P n (.region id ⟨l⟩ false) Q st:=by
 rintro C a' w ⟨eD,V,D,hS⟩;refine wp_region_list ?_;refine HA (ops:=⟨l⟩) di (fun ah a' w' hq hE=>⟨ah,hE,hq⟩) l 0 st a' V D w h hS ?_ (fun j=>by simp) (fun o ho=> ?_)
 ·rw[eD];intro g hg;cases hg
 ·exact List.all_eq_true.1 hd o ho
theorem OT (di:cw c P):∀(x:Code) (Q:Exit->LS->Prop) (st:LS),jX n x=true->j8 c P n x Q st->WP P n x Q st:=by
 intro x;induction x with
 |skip=>exact fun Q st _ h C a w hE=>wp_skip ⟨st,hE,h⟩
 |region id ops draw=>
  intro Q st hd h;obtain⟨l⟩:=ops;cases draw with
  |false=>exact Rn di hd h
  |true=>exact h
 |seq a b iha ihb=>
  intro Q st hd h;simp only[jX,bB] at hd;have gen:j8 c P n a (iC (j8 c P n b Q) Q) st->WP P n (.seq a b) Q st:=fun h=>Yq (iha _ st hd.1 h) fun ah h' =>ihb Q ah hd.2 h'
  cases a with
  |cond x t e=>
   simp only[j8] at h;split at h
   ·exact h
   ·exact gen h
  |_=>exact gen h
 |cond x a b iha ihb=>
  intro Q st hd h;simp only[jX,bB] at hd;obtain⟨t,ht,h1,h2⟩:=ax h;obtain⟨s,hs,ht⟩:=rG ht;exact VZ hs ht (fun e=>iha Q st hd.1 (h1 e)) (fun e=>ihb Q st hd.2 (h2 e))
 |block id a ih=>
  intro Q st hd h;exact TF (ih _ st hd h)
 |exit id=>exact fun Q st _ h C a w hE=>wp_exit ⟨st,hE,h⟩
 |ret=>exact fun Q st _ h C a w hE=>wp_ret ⟨st,hE,h⟩
 |loop a ih=>exact fun Q st _ h=>h
 |scope a ih=>exact fun Q st _ h=>h
 |rangeFunc f ps a b _ _=>exact fun Q st _ h=>h
 |label l=>exact fun Q st _ h C a w hE=>wp_label ⟨st,hE,h⟩
 |refuse _=>exact fun Q st _ h=>h
 |goto l=>exact fun Q st _ h C a w hE=>wp_goto ⟨st,hE,h⟩
theorem gl (di:cw c P) {x:Code} {Q:Exit->LS->Prop} {st:LS} (hd:jX n x=true) (h:cZ (.mk (k:=(c,P,n,x,Q)) st)):WP P n x Q st:=OT di x Q st hd h
end
/-! A function. -/
section
variable {C:Ctx} {n:Nat} {st:LS} {a:Act} {V:Vl} {D:Nat->Nat} {w:World} {P:Program} {c:Cfg}
theorem PQ (ad:Addr):(asAddr (.pointer (some ad))).run P w= .ok ad w:=rfl
def Bz (tmps:Array Value):ResultVar->Sem Value
 | .tmp t=>pure (tmps.getD t undef)
 | .cell b t=>do loadVar t (<- asAddr (tmps.getD b undef))
theorem Ec (hS:Sat C n st a V D w):∀{res:List ResultVar} {l:List SV},lS P st res=some l->
  (res.mapM (Bz a.tmps)).run P w= .ok (l.map (fL V)) w/\∀s∈l,den V s=fL V s
 |[],l,h=>by
  simp only[lS,cv] at h;subst h;exact⟨rfl,fun s hs=>by cases hs⟩
 | .tmp t::r,l,h=>by
  simp only[lS,Option.bind_eq_some_iff,Option.map_eq_some_iff] at h;obtain⟨s,⟨s0,iN,hs⟩,l',lq,rfl⟩:=h;obtain⟨h1,h2⟩:=Ec hS lq;have mh:=DN (V:=V) hs;have rk:s=s0:=by cases s0<;>simp_all [jd]
  subst rk;have ht:=hS.env t [] s nM iN rfl;refine⟨?_,fun x hx=> ?_⟩
  ·simp only[List.mapM_cons,Bz,Sem.run_bind,Sem.run_pure,Result.andThen_ok,h1,aG];simp [Array.getD_eq_getD_getElem?,ht,mh]
  ·rcases List.mem_cons.1 hx with rfl |hx
   ·exact mh
   ·exact h2 x hx
 | .cell b t::r,l,h=>by
  simp only[lS,Option.bind_eq_some_iff,Option.map_eq_some_iff] at h;obtain⟨s,⟨s0,iN,hs⟩,l',lq,rfl⟩:=h;obtain⟨h1,h2⟩:=Ec hS lq;have mh:=DN (V:=V) hs;have rk:s=s0:=by cases s0<;>simp_all [jd]
  subst rk;unfold BX at iN;split at iN
  ·rename_i k o hk;have ht:=hS.env b [] _ nM hk rfl;simp only[Option.bind_eq_some_iff] at iN;obtain⟨bx,oF,iN⟩:=iN;split at iN;case isFalse=>cases iN
   rename_i dE;simp only[Option.bind_eq_some_iff] at iN;obtain⟨ag,eV,rj⟩:=iN;have Zm:lM (.mk (k:=(P,t,U true,fun s' =>s' =s)) (st,.box k o)):=by
    simp only[lM,oF,aA,eV,rj,dE,true_and]
   obtain⟨r',rfl,hy⟩:=Hh hS Zm;have hy:=hy rfl;simp only[vU,Instr.loadAt,Instr.sureAddr,Sem.run_bind,Sem.run_pure,Result.andThen_ok] at hy;refine⟨?_,fun x hx=> ?_⟩
   ·simp only[List.mapM_cons,Bz,Sem.run_bind,Sem.run_pure,Result.andThen_ok,aG];have:a.tmps.getD b undef= .pointer (some ⟨V.β k,o,none⟩):=by simp [Array.getD_eq_getD_getElem?,ht,vU]
    rw[this,PQ];simp only[Result.andThen_ok,hy,h1,mh]
   ·rcases List.mem_cons.1 hx with rfl |hx
    ·exact mh
    ·exact h2 x hx
  ·cases iN
theorem Oe (hS:Sat C n st a V D w) {fn:Func} {res:List ResultVar} (hr:fn.results=⟨res⟩) {l:List SV} (h:lS P st res=some l):(results fn a.tmps).run P w= .ok (den V (uj l)) w:=by
 obtain⟨h1,h2⟩:=Ec hS h
 have hf:results fn a.tmps=(do
   let vs <- fn.results.mapM (Bz a.tmps)
   pure (if h:vs.size=1 then vs[0] else .tuple vs)):=by
  unfold results;congr 1
 rw[hf,hr];simp only[List.mapM_toArray,Sem.run_bind,Sem.run_map,h1,Result.andThen_ok,Sem.run_pure,List.size_toArray,List.length_map];cases l with
 |nil=>rfl
 |cons s r=>
  cases r with
  |nil=>
   simp only[dk,pU,Nat.zero_add,dite_true,aG,List.map_nil,uj];simp [h2 s (bN ..)]
  |cons s' r=>
   have:¬((s::s' ::r).length=1):=by simp
   simp only[dif_neg this];rfl
end
theorem Li:∀{l:List SV} {i t:Nat} {q:bj} {s:SV},dX (qQ i l) t q=some s->i<=t/\l[t - i]? =some s
 |[],i,t,q,s,h=>by simp [qQ,dX] at h
 |x::r,i,t,q,s,h=>by
  simp only[qQ,dX] at h;split at h
  ·rename_i e;subst e;split at h
   ·cases h;exact⟨aC _,by simp⟩
   ·cases h
  ·rename_i e;obtain⟨h1,h2⟩:=Li h;refine⟨by omega,?_⟩;have:t - i=(t - (i+1))+1:=by omega
   rw[this,List.getElem?_cons_succ];exact h2
theorem Eu:∀{l:List SV} {i:Nat} {e:Ev},e∈qQ i l->e.p=[]/\e.s∈l
 |[],i,e,h=>by simp [qQ] at h
 |x::r,i,e,h=>by
  rcases List.mem_cons.1 h with rfl |h
  ·exact⟨rfl,bN ..⟩
  ·obtain⟨h1,h2⟩:=Eu h;exact⟨h1,bw _ h2⟩
theorem Jz {nid:Nat} {vc:List Vc}:∀{l:List SV},zp nid vc l->∀s∈l,fq nid vc s
 |x::r,h,s,hs=>by
  rcases List.mem_cons.1 hs with rfl |hs
  ·exact h.1
  ·exact Jz h.2 s hs
theorem ym:∀{bx:List Bx} {b:Bx},b∈bx->b.id<jF bx
 |⟨k,t,cs⟩::r,b,h=>by
  simp only[jF];rcases List.mem_cons.1 h with rfl |h
  ·simp only;omega
  ·have:=ym h;omega
theorem yl:∀{vc:List Vc} {b:Vc},b∈vc->b.id<jE vc
 |⟨k,u,e,z,n,xs⟩::r,b,h=>by
  simp only[jE];rcases List.mem_cons.1 h with rfl |h
  ·simp only;omega
  ·have:=yl h;omega
section
variable {P:Program} {c:Cfg}
theorem EC {V:Vl} {bx fg:List Bx} {vc dq:List Vc} (hb:∀b∈fg,b∈bx) (hv:∀b∈dq,b∈vc):∀g∈aE V ⟨fg,dq⟩,g∈aE V ⟨bx,vc⟩:=fun g hg=>by
 simp only[aE,List.mem_append,List.mem_map,List.mem_filterMap] at hg ⊢;rcases hg with ⟨x,hx,e⟩ |⟨x,hx,e⟩
 ·exact .inl ⟨x,hb x hx,e⟩
 ·exact .inr ⟨x,hv x hx,e⟩
theorem Po {L:List Nat} {bx:List Bx} {b:Bx} (h:b∈er L bx):b∈bx:=by
 rw[xU,List.mem_filter] at h;exact h.1
theorem Fe {f:FuncId} {fn:Func} {code:Code} {res:List ResultVar} {args:List SV} {H:Hp} {m:Mem} {R:SV->Hp->Mem->Prop}
  (hf:P.funcs[f]? =some fn) (hb:fn.body=some code) (hr:fn.results=⟨res⟩) (hl:args.length<=fn.ntmps) (ao:BC args H)
  (h:WP P fn.ntmps code (wU P res (wR H) R) (zL args H m)):FnH P f args H m R:=by
 intro V w D eg hm hH;refine calls_of_wp hf hb ?_;have fe:((⟨args.map (den V)⟩:Array Value)++Array.replicate (fn.ntmps - (⟨args.map (den V)⟩:Array Value).size) undef).size=fn.ntmps:=by
  simp only[Array.size_append,List.size_toArray,List.length_map,Array.size_replicate];omega
 have hS:Sat ⟨w,D,(· ∈aE V H),H,V,m⟩ fn.ntmps (zL args H m) {tmps:=(⟨args.map (den V)⟩:Array Value)++Array.replicate (fn.ntmps - (⟨args.map (den V)⟩:Array Value).size) undef,defers:=[]} V D w:=by
  refine⟨⟨rfl,fe,fun e he=> ?_,fun t q s hq iO _=> ?_,fun g hg=>by cases hg⟩,fun e he=>Jz ao.1 _ (Eu he).2,?_⟩
  ·rw[(Eu he).1];exact nM
  ·obtain⟨_,h2⟩:=Li iO;have aj:t<args.length:=(List.getElem?_eq_some_iff.1 h2).1;simp only[Nat.sub_zero] at h2;rw[Array.getElem?_append_left (by simpa using aj)];simp [h2]
  ·refine⟨hH,eg,Frm.refl _ _ _,fun b hb=> .inl hb,fun b hb=>⟨rfl,?_⟩,fun b hb=>⟨fun _ _=>rfl,?_,rI hH.uniq hb⟩,⟨fun b hb=>⟨?_,DM ao.2 b hb⟩,fun b hb=> ?_⟩,Mem.le_refl _ eg,
    fun b=>⟨aC _,fun h0=>⟨((hm b).2 h0).1,oK rfl⟩⟩,hm⟩
   ·exact dt (ym hb) (Nat.le_max_left _ _)
   ·exact dt (yl hb) (Nat.le_max_right _ _)
   ·exact dt (ym hb) (Nat.le_max_left _ _)
   ·exact dt (yl hb) (Nat.le_max_right _ _)
 refine wp_mono (h _ _ _ ⟨rfl,V,D,hS⟩) ?_;rintro e a2 w2 ⟨cI,⟨eD,V2,D2,nA⟩,hq⟩;have fin:∀l:List SV,lS P cI res=some l->R (uj l) ⟨er (qf cI.bx (lf (wR H) l)) cI.bx,dS (qf cI.bx (lf (wR H) l)) cI.vc⟩ cI.m->
   a2.defers=[]/\∃v,(results fn a2.tmps).run P w2= .ok v w2/\∃(r:SV) (V' :Vl) (D' :Nat->Nat) (H' :Hp) (m' :Mem),
   Ending.returned v= .returned (den V' r)/\Wf w2 D' /\HSat V' D' w2 H' /\(∀b∈H.bx,V'.β b.id=V.β b.id)/\(∀b∈H.vc,∀u,u<=b.ver->V'.γ b.id u=V.γ b.id u)/\
   Frm (· ∈aE V H) w D w2 D' /\(∀b∈aE V' H',b∈aE V H\/w.heap.size<=b)/\
   Mem.le ⟨w,D⟩ ⟨w2,D'⟩/\m.le m' /\m'.le ⟨w2,D'⟩/\R r H' m' :=by
  intro l hl hR;have hW:=nA.w;refine⟨nA.f.defers,_,Oe nA hr hl,uj l,V2,D2,_,cI.m,rfl,hW.wf,(AH _ hW.heap).app.1,fun b hb=>(hW.baseB b hb).1,fun b hb=>(hW.baseV b hb).1,hW.frm,fun b hb=> ?_,hW.le0,hW.m0,hW.mle,hR⟩;exact hW.own b (EC (fun x hx=>Po hx) (fun x hx=>(rL hx).1) b hb)
 cases e with
 |normal=>obtain⟨l,hl,hR⟩:=ax hq;exact fin l hl hR
 |ret=>obtain⟨l,hl,hR⟩:=ax hq;exact fin l hl hR
 |exit id=>exact hq.elim
 |goto l=>exact hq.elim
 |panic ch=>exact hq.elim
 |outgrown=>exact hq.elim
theorem enter (cf:Cfg) (di:cw cf P) {f:FuncId} {fn:Func} {code:Code} {res:List ResultVar} {args:List SV} {H:Hp} {m:Mem} {R:SV->Hp->Mem->Prop}
  (hf:P.funcs[f]? =some fn) (hb:fn.body=some code) (hr:fn.results=⟨res⟩) (hd:jX fn.ntmps code=true) (hl:Nat.ble args.length fn.ntmps=true) (ao:BC args H)
  (h:cZ (.mk (k:=(cf,P,fn.ntmps,code,wU P res (wR H) R)) (zL args H m))):FnH P f args H m R:=
 Fe hf hb hr (aZ hl) ao (gl di hd h)
theorem FnH.mono {f:FuncId} {args:List SV} {H:Hp} {m:Mem} {R R' :SV->Hp->Mem->Prop} (h:FnH P f args H m R) (hR:∀r H' m',m.le m' ->R r H' m' ->R' r H' m'):FnH P f args H m R' :=
 fun V w D h1 h2 h3=>(h V w D h1 h2 h3).mono fun e w2 ⟨r,V',D',H',m',e1,e2,e3,e4,e5,e6,e7,e8,e9,cn,cu⟩=>⟨r,V',D',H',m',e1,e2,e3,e4,e5,e6,e7,e8,e9,cn,hR r H' m' e9 cu⟩
theorem tfi (p:Prop):(true=false->p)=True:=eq_true fun h=>by cases h
theorem fti (p:Prop):(false=true->p)=True:=eq_true fun h=>by cases h
theorem bD {f:FuncId} {args:List SV} {H:Hp} {m:Mem} {R:SV->Hp->Mem->Prop} (h:FnH P f args H m R):C5 (.mk (k:=(P,f,R)) (args,H,m)):=h
theorem WP.mono {n:Nat} {x:Code} {Q Q' :Exit->LS->Prop} {st:LS} (h:WP P n x Q st) (hQ:∀e ah,Q e ah->Q' e ah):WP P n x Q' st:=
 fun C a w hE=>wp_mono (h C a w hE) fun e _ _ ⟨ah,h1,h2⟩=>⟨ah,h1,hQ e ah h2⟩
end
theorem ai {P:Program} {f:FuncId} {args:List SV} {H:Hp} {m:Mem} {R:SV->Hp->Mem->Prop} (h:FnH P f args H m R) (hk:dp P f=true:=by kernel_rfl):dp P f=true/\C5 (.mk (k:=(P,f,R)) (args,H,m)):=⟨hk,bD h⟩
attribute [go_sem ↓] tfi fti reduceIte
theorem br {P:Program} {cf:Cfg} (di:cw cf P) {f:FuncId} {fn:Func} {code:Code} {res:List ResultVar} {args:List SV} {H:Hp} {m:Mem} {R:SV->Hp->Mem->Prop} (hf:P.funcs[f]? =some fn) (h:cZ (.mk (k:=(cf,P,fn.ntmps,code,wU P res (wR H) R)) (zL args H m))) (hb:fn.body=some code:=by rfl) (hr:fn.results=⟨res⟩:=by rfl) (hd:jX fn.ntmps code=true:=by kernel_rfl) (hl:Nat.ble args.length fn.ntmps=true:=by rfl) (ao:BC args H:=by simp only[go_sem]):FnH P f args H m R:=enter cf di hf hb hr hd hl ao h
/-! The head of a loop. -/
theorem JN {st:LS}:∀{l:List Ev},wN st l->∀e∈l,dX st.env e.t []=some e.s/\e.p=[]
 |⟨t,p,s⟩::r,h,e,he=>by
  rcases List.mem_cons.1 he with rfl |he
  ·exact⟨h.1,h.2.1⟩
  ·exact JN h.2.2 e he
theorem KS {st:LS}:∀{l:List Ev},wN st l->∀{t:Nat} {s:SV},dX l t []=some s->dX st.env t []=some s
 |⟨t',p',s'⟩::r,h,t,s,hl=>by
  simp only[dX] at hl;split at hl
  ·rename_i e;subst e;split at hl
   ·cases hl;exact h.1
   ·cases hl
  ·exact KS h.2.2 hl
theorem Sy {l:List Bx} {k:Nat} (h:dz l k=none):∀b∈l,b.id≠k:=by
 induction l with
 |nil=>intro b hb;cases hb
 |cons x r ih=>
  obtain⟨i',t',p'⟩:=x;simp only[dz] at h;split at h
  ·cases h
  ·rename_i e;intro b hb;rcases List.mem_cons.1 hb with rfl |hb
   ·exact e
   ·exact ih h b hb
theorem KT {st:LS}:∀{l:List Bx},pE st l->(∀b∈l,b∈st.bx)/\(l.map (·.id)).Nodup
 |[],_=>⟨fun b hb=>(by cases hb),List.nodup_nil⟩
 |⟨k,t,cs⟩::r,h=>by
  obtain⟨h1,h2,h3⟩:=h;obtain⟨i1,i2⟩:=KT h3;refine⟨fun b hb=> ?_,?_⟩
  ·rcases List.mem_cons.1 hb with rfl |hb
   ·exact(nN h1).2
   ·exact i1 b hb
  ·simp only[aG,List.nodup_cons];refine⟨fun hm=> ?_,i2⟩;obtain⟨b,hb,e⟩:=List.mem_map.1 hm;exact Sy h2 b hb e
theorem Sw {l:List Vc} {k:Nat} {b:Vc} (h:ka l k=some b):b.id=k/\b∈l:=by
 induction l with
 |nil=>cases h
 |cons x r ih=>
  obtain⟨i',u',e',z',n',x'⟩:=x;simp only[ka] at h;split at h
  ·rename_i e;cases h;exact⟨e,bN ..⟩
  ·exact⟨(ih h).1,bw _ (ih h).2⟩
theorem QJ {l:List Vc} {k:Nat} (h:ka l k=none):∀b∈l,b.id≠k:=by
 induction l with
 |nil=>intro b hb;cases hb
 |cons x r ih=>
  obtain⟨i',u',e',z',n',x'⟩:=x;simp only[ka] at h;split at h
  ·cases h
  ·rename_i e;intro b hb;rcases List.mem_cons.1 hb with rfl |hb
   ·exact e
   ·exact ih h b hb
theorem KR {st:LS}:∀{l:List Vc},pD st l->(∀b∈l,b∈st.vc)/\(l.map (·.id)).Nodup
 |[],_=>⟨fun b hb=>(by cases hb),List.nodup_nil⟩
 |⟨k,u,e,z,n,xs⟩::r,h=>by
  obtain⟨h1,h2,h3⟩:=h;obtain⟨i1,i2⟩:=KR h3;refine⟨fun b hb=> ?_,?_⟩
  ·rcases List.mem_cons.1 hb with rfl |hb
   ·exact(Sw h1).2
   ·exact i1 b hb
  ·simp only[aG,List.nodup_cons];refine⟨fun hm=> ?_,i2⟩;obtain⟨b,hb,e⟩:=List.mem_map.1 hm;exact QJ h2 b hb e
theorem vB {vc:List Vc} (hu:(vc.map (·.id)).Nodup) {k u:Nat}:ba vc k u↔∀b∈vc,b.id=k->u<=b.ver:=by
 induction vc with
 |nil=>simp [ba]
 |cons x r ih=>
  obtain⟨i',u',e',z',n',x'⟩:=x;simp only[aG,List.nodup_cons] at hu;simp only[ba];split
  ·rename_i e;subst e;constructor
   ·intro h b hb e;rcases List.mem_cons.1 hb with rfl |hb
    ·exact h
    ·exact absurd (List.mem_map.2 ⟨b,hb,e⟩) hu.1
   ·exact fun h=>h _ (bN ..) rfl
  ·rename_i e;rw[ih hu.2];constructor
   ·intro h b hb e';rcases List.mem_cons.1 hb with rfl |hb
    ·exact absurd e' e
    ·exact h b hb e'
   ·exact fun h b hb=>h b (bw _ hb)
theorem It {α β:Type} {f:α->β}:∀{l:List α},(l.map f).Nodup->∀x∈l,∀y∈l,f x=f y->x=y
 |a::r,h,x,hx,y,hy,e=>by
  simp only[aG,List.nodup_cons] at h;rcases List.mem_cons.1 hx with rfl |db
  ·rcases List.mem_cons.1 hy with rfl |bK
   ·rfl
   ·exact absurd (List.mem_map.2 ⟨y,bK,e.symm⟩) h.1
  ·rcases List.mem_cons.1 hy with rfl |bK
   ·exact absurd (List.mem_map.2 ⟨x,db,e⟩) h.1
   ·exact It h.2 x db y bK e
theorem Iy {α β γ:Type} {f:α->β} {g:α->γ}:∀{l:List α},(l.map g).Nodup->(∀x∈l,∀y∈l,f x=f y->x=y)->(l.map f).Nodup
 |[],_,_=>List.nodup_nil
 |a::r,h,hi=>by
  simp only[aG,List.nodup_cons] at h ⊢;refine⟨fun hm=> ?_,Iy h.2 fun x hx y hy=>hi x (bw _ hx) y (bw _ hy)⟩;obtain⟨b,hb,e⟩:=List.mem_map.1 hm;have:=hi b (bw _ hb) a (bN ..) e;subst this;exact h.1 (List.mem_map.2 ⟨b,hb,rfl⟩)
theorem G2 {α β γ:Type} {f:α->Option β} {g:α->γ}:∀{l:List α},(l.map g).Nodup->(∀x∈l,∀y∈l,∀b,f x=some b->f y=some b->x=y)->(l.filterMap f).Nodup
 |[],_,_=>List.nodup_nil
 |a::r,h,hi=>by
  simp only[aG,List.nodup_cons] at h;have ih:=G2 (f:=f) h.2 fun x hx y hy=>hi x (bw _ hx) y (bw _ hy)
  rw[List.filterMap_cons];split
  ·exact ih
  ·rename_i b hb;refine List.nodup_cons.2 ⟨fun hm=> ?_,ih⟩;obtain⟨x,hx,e⟩:=List.mem_filterMap.1 hm;have:=hi x (bw _ hx) a (bN ..) b e hb;subst this;exact h.1 (List.mem_map.2 ⟨x,hx,rfl⟩)
theorem JH {nid:Nat} {vc:List Vc}:∀{l:List Ev},zq nid vc l->∀e∈l,fq nid vc e.s
 |⟨t,p,s⟩::r,h,e,he=>by
  rcases List.mem_cons.1 he with rfl |he
  ·exact h.1
  ·exact JH h.2 e he
theorem JG {nid:Nat} {vc:List Vc}:∀{l:List Bx},wM nid vc l->∀b∈l,b.id<nid/\cP nid vc b.cs
 |⟨k,t,cs⟩::r,h,b,hb=>by
  rcases List.mem_cons.1 hb with rfl |hb
  ·exact⟨h.1,h.2.1⟩
  ·exact JG h.2.2 b hb
theorem JF {nid:Nat}:∀{l:List Vc},wL nid l->∀b∈l,b.id<nid
 |⟨k,_,_,_,_,_⟩::r,h,b,hb=>by
  rcases List.mem_cons.1 hb with rfl |hb
  ·exact h.1
  ·exact JF h.2 b hb
section
variable {C:Ctx} {n:Nat} {st ah:LS} {a:Act} {V:Vl} {D:Nat->Nat} {w:World} {P:Program} {c:Cfg}
theorem W2 {m m' fP:Mem} (h:af m m') (h' :m'.le fP):m.le fP:=by
 rcases h with rfl |h
 ·exact h'
 ·exact Mem.le_trans h h'
theorem Sat.weaken (hS:Sat C n st a V D w) (hM:Match st ah) (ao:po ah) (hB:∀b∈C.H0.bx,b.id<ah.nid) (hV:∀b∈C.H0.vc,b.id<ah.nid) (hm:C.m0.le ah.m):Sat C n ah a V D w:=by
 obtain⟨h1,h2,h3,h4,h5⟩:=hM;obtain⟨oG,hbu⟩:=KT h3;obtain⟨xr,hvu⟩:=KR h4;have hW:=hS.w;have ft:=hW.heap.apart;have FX:=List.nodup_append.1 ft;refine⟨⟨hS.f.defers,hS.f.size,fun e he=> ?_,fun t q s hq hl _=> ?_,fun g hg=>by rw[h2] at hg;cases hg⟩,JH ao.1,?_⟩
 ·rw[(JN h1 e he).2];exact nM
 ·have:q=[]:=by
   cases q with
   |nil=>rfl
   |cons x q=>obtain⟨g,hg⟩:=hq x (bN ..);rw[h2] at hg;cases hg
  subst this;exact hS.env t [] s nM (KS h1 hl) rfl
 ·refine⟨⟨fun b hb=>hW.heap.bx b (oG b hb),fun b hb=>hW.heap.vc b (xr b hb),?_,hvu⟩,hW.wf,hW.frm,fun g hg=>hW.own g (EC oG xr g hg),fun b hb=>⟨(hW.baseB b hb).1,hB b hb⟩,
   fun b hb=>⟨(hW.baseV b hb).1,hV b hb,?_⟩,⟨JG ao.2.1,JF ao.2.2⟩,hW.le0,hm,W2 h5 hW.mle⟩
  ·refine List.nodup_append.2 ⟨?_,?_,fun x hx y hy=> ?_⟩
   ·exact Iy hbu fun x hx y hy e=>It FX.1 x (oG x hx) y (oG y hy) e
   ·exact G2 hvu fun x hx y hy b e1 e2=>EE (xr x hx) (xr y hy) e1 e2 FX.2.1
   ·refine FX.2.2 x ?_ y ?_
    ·obtain⟨z,hz,e⟩:=List.mem_map.1 hx;exact List.mem_map.2 ⟨z,oG z hz,e⟩
    ·obtain⟨z,hz,e⟩:=List.mem_filterMap.1 hy;exact List.mem_filterMap.2 ⟨z,xr z hz,e⟩
  ·refine(vB hvu).2 fun x hx e=> ?_
   exact(vB hW.heap.uniq).1 (hW.baseV b hb).2.2 x (xr x hx) e
theorem cq (di:cw c P) {body:Code} {Q:Exit->LS->Prop} {X:Type} (S:X->LS) (I:X->Prop) (μ:X->Nat) (x0:X)
  (hd:jX n body=true) (hn:∀x,I x->st.nid<=(S x).nid) (hm:∀x,I x->af st.m (S x).m) (ao:∀x,po (S x)) (h0:Match st (S x0)) (hI:I x0)
  (round:∀x,I x->cZ (.mk (k:=(c,P,n,body,iC (fun ah=>∃x',Match ah (S x')/\I x' /\μ x' <μ x) Q)) (S x))):jR (.mk (k:=(P,n,.loop body,Q)) st):=by
 rintro C a w ⟨eD,V,D,hS⟩;have hB:∀b∈C.H0.bx,b.id<st.nid:=fun b hb=>(hS.w.baseB b hb).2
 have hV:∀b∈C.H0.vc,b.id<st.nid:=fun b hb=>(hS.w.baseV b hb).2.1
 have Gv:∀x,I x->C.m0.le (S x).m:=fun x hx=>by
  rcases hm x hx with e |h
  ·rw[<- e];exact hS.w.m0
  ·exact Mem.le_trans hS.w.m0 h
 have zf:∀(lj:LS) (a1:Act) (w1:World) (x:X),jq C n lj a1 w1->Match lj (S x)->I x->jq C n (S x) a1 w1:=by
  rintro lj a1 w1 x ⟨_,V1,D1,jt⟩ hM hx;exact⟨hM.2.1,V1,D1,jt.weaken hM (ao x) (fun b hb=>dt (hB b hb) (hn x hx)) (fun b hb=>dt (hV b hb) (hn x hx)) (Gv x hx)⟩
 refine wp_loop_ghost (fun k a w=>∃x,I x/\μ x=k/\jq C n (S x) a w) (μ x0) ⟨x0,hI,rfl,zf _ _ _ _ ⟨eD,V,D,hS⟩ h0 hI⟩ ?_;rintro k a1 w1 ⟨x,hx,rfl,hE⟩;refine wp_mono (gl di hd (round x hx) C a1 w1 hE) ?_;rintro e a2 w2 ⟨cI,hE2,hq⟩;cases e with
 |normal=>
  obtain⟨x',hM,db,aj⟩:=hq;exact⟨μ x',aj,x',db,rfl,zf _ _ _ _ hE2 hM db⟩
 |exit id=>exact⟨cI,hE2,hq⟩
 |goto l=>exact⟨cI,hE2,hq⟩
 |ret=>exact⟨cI,hE2,hq⟩
 |panic ch=>exact⟨cI,hE2,hq⟩
 |outgrown=>exact⟨cI,hE2,hq⟩
end
theorem gC {P:Program} {c:Cfg} {n:Nat} {st:LS} (di:cw c P) {body:Code} {Q:Exit->LS->Prop} {X:Type} (S:X->LS) (I:X->Prop) (μ:X->Nat) (x0:X) (hn:∀x,I x->st.nid<=(S x).nid) (hm:∀x,I x->af st.m (S x).m) (h0:Match st (S x0)) (hI:I x0) (round:∀x,I x->cZ (.mk (k:=(c,P,n,body,iC (fun ah=>∃x',Match ah (S x')/\I x' /\μ x' <μ x) Q)) (S x))) (hd:jX n body=true:=by kernel_rfl) (ao:∀x,po (S x):=by intro _;simp only[go_sem]):jR (.mk (k:=(P,n,.loop body,Q)) st):=cq di S I μ x0 hd hn hm ao h0 hI round
def A.re {γ δ α:Type} {k:γ} (k' :δ):A k α->A k' α
 | .mk a=> .mk a
section
variable {P:Program} {op:BinOp} {t:TypeId} {k:IntKind} {u:Prop->Prop} {K:SV->Prop}
theorem tH {o:Option SV} (h:aA (.mk (k:=K) o)):∃s,K s/\aA (.mk (k:=(· =s)) o):=by
 obtain⟨s,rfl,h⟩:=ax h;exact Exists.intro s (And.intro h rfl)
theorem yb:∀(x:A (k,u,K) Int),arith x->∃s,K s/\arith (x.re (k,u,(· =s))):=by
 rintro⟨n⟩ h;cases k<;>first
  |exact Exists.intro _ (And.intro h.2 (And.intro h.1 rfl))
  |exact Exists.intro _ (And.intro h rfl)
theorem Tx:∀(x:A (op,k,u,K) (Int×Int)),fM x->∃s,K s/\fM (x.re (op,k,u,(· =s))):=by
 rintro⟨a,b⟩ h;cases op;case add=>obtain⟨s,h1,h2⟩:=yb _ h;exact Exists.intro s (And.intro h1 h2)
 case sub=>obtain⟨s,h1,h2⟩:=yb _ h;exact Exists.intro s (And.intro h1 h2)
 case mul=>obtain⟨s,h1,h2⟩:=yb _ h;exact Exists.intro s (And.intro h1 h2)
 case quo=>obtain⟨s,h1,h2⟩:=yb _ h.2;exact Exists.intro s (And.intro h1 (And.intro h.1 h2))
 all_goals first
  |exact Exists.intro _ (And.intro h rfl)
  |exact Exists.intro _ (And.intro h.2 (And.intro h.1 rfl))
theorem Tv:∀(x:A (op,u,K) (List UInt8×List UInt8)),oq x->∃s,K s/\oq (x.re (op,u,(· =s))):=by
 rintro⟨a,b⟩ h;cases op;all_goals first
  |exact h.elim
  |exact Exists.intro _ (And.intro h rfl)
  |exact Exists.intro _ (And.intro h.2 (And.intro h.1 rfl))
theorem Bj:∀(x:A (op,K) Bool),na x->∃s,K s/\na (x.re (op,(fun s0:SV=>s0=s))):=by
 rintro⟨a⟩ h;cases op;all_goals first
  |exact h.elim
  |exact Exists.intro _ (And.intro h rfl)
theorem Tw:∀(x:A (P,op,t,u,K) (SV×SV)),lW x->∃s,K s/\lW (x.re (P,op,t,u,(· =s))):=by
 intro x h;unfold lW at h;split at h
 ·obtain⟨s,h1,h2⟩:=Tx _ h.2;exact Exists.intro s (And.intro h1 (And.intro h.1 h2))
 ·obtain⟨s,h1,h2⟩:=Tv _ h;exact Exists.intro s (And.intro h1 h2)
 ·obtain⟨s,h1,h2⟩:=Bj _ h.2;exact Exists.intro s (And.intro h1 (And.intro h.1 h2))
 ·obtain⟨h1,h2,h3⟩:=h;obtain⟨b,hb,h3⟩:=ax h3;obtain⟨s,h4,h5⟩:=Bj _ h3;exact Exists.intro s (And.intro h4 (And.intro h1 (And.intro h2 (by rw[hb];exact h5))))
 ·obtain⟨h1,h2,h3⟩:=h;obtain⟨b,hb,h3⟩:=ax h3;obtain⟨s,h4,h5⟩:=Bj _ h3;exact Exists.intro s (And.intro h4 (And.intro h1 (And.intro h2 (by rw[hb];exact h5))))
 ·obtain⟨h1,h2,h3⟩:=h;exact Exists.intro _ (And.intro h3 (And.intro h1 (And.intro h2 rfl)))
 ·exact h.elim
theorem Qk:∀(x:A (P,op,t,u,K) SV),se x->∃s,K s/\se (x.re (P,op,t,u,(· =s))):=by
 intro x h;unfold se at h;split at h
 ·obtain⟨s,h1,h2⟩:=Bj _ h.2.2;exact Exists.intro s (And.intro h1 (And.intro h.1 (And.intro h.2.1 h2)))
 ·exact h.elim
theorem Qu {md:PM}:∀(x:A (md,K) (Bool×SV×SV)),qv x->∃s,K s/\qv (x.re (md,(fun s0:SV=>s0=s))):=by
 intro x h;unfold qv at h;split at h;all_goals first
  |exact h.elim
  |exact Exists.intro _ (And.intro h rfl)
theorem RX:∀(x:A (u,K) SV),qI x->∃s,K s/\qI (x.re (u,(fun s0:SV=>s0=s))):=by
 intro x h;unfold qI at h;split at h;all_goals first
  |exact h.elim
  |exact Exists.intro _ (And.intro h rfl)
  |exact Exists.intro _ (And.intro h.2 (And.intro h.1 rfl))
theorem T7 {op:UnOp}:∀(x:A (op,u,K) SV),qW x->∃s,K s/\qW (x.re (op,u,(fun s0:SV=>s0=s))):=by
 intro x h;unfold qW at h;split at h
 ·exact Exists.intro _ (And.intro h rfl)
 ·obtain⟨s,h1,h2⟩:=yb _ h;exact Exists.intro s (And.intro h1 h2)
 ·exact h.elim
theorem Qo:∀(x:A (u,K) (LS×CvK×SV)),nW x->∃s,K s/\nW (x.re (u,(fun s0:SV=>s0=s))):=by
 intro x h;unfold nW at h;split at h
 ·exact Exists.intro _ (And.intro h rfl)
 ·exact Exists.intro _ (And.intro h rfl)
 ·obtain⟨b,hb,l,h1,h2⟩:=ax h;refine Exists.intro _ (And.intro h2 ?_);show aA _;rw[hb];exact⟨l,h1,rfl⟩
 ·obtain⟨l,h1,h2⟩:=h;exact Exists.intro _ (And.intro h2 (Exists.intro l (And.intro h1 rfl)))
 ·exact h.elim
theorem R3:∀(x:A (u,K) (LS×SV×Nat)),ph x->∃s,K s/\ph (x.re (u,(fun s0:SV=>s0=s))):=by
 intro x h;unfold ph at h;split at h
 ·exact Exists.intro _ (And.intro h rfl)
 ·obtain⟨b,hb,h1,h2⟩:=ax h;refine Exists.intro _ (And.intro h2 ?_);show aA _;rw[hb];exact⟨h1,rfl⟩
 ·exact Exists.intro _ (And.intro h.2 (And.intro h.1 rfl))
 ·exact h.elim
theorem R2:∀(x:A (P,u,K) (LS×TypeId×SV×SV)),pg x->∃s,K s/\pg (x.re (P,u,(fun s0:SV=>s0=s))):=by
 intro x h;unfold pg at h;split at h
 ·exact Exists.intro _ (And.intro h.2.2 (And.intro h.1 (And.intro h.2.1 rfl)))
 ·exact Exists.intro _ (And.intro h.2.2 (And.intro h.1 (And.intro h.2.1 rfl)))
 ·obtain⟨b,hb,h0,h1,h2⟩:=ax h;refine Exists.intro _ (And.intro h2 ?_);show aA _;rw[hb];exact⟨h0,h1,rfl⟩
 ·exact h.elim
theorem Ua:∀(x:A (P,t,u,K) (SV×SV)),sW x->∃s,K s/\sW (x.re (P,t,u,(fun s0:SV=>s0=s))):=by
 intro x h;unfold sW at h;split at h
 ·exact Exists.intro _ (And.intro h.2.2 (And.intro h.1 (And.intro h.2.1 rfl)))
 ·exact h.elim
theorem T8:∀(x:A (P,t,u,K) (LS×SV×Option SV×Option SV)),pB x->∃s,K s/\pB (x.re (P,t,u,(fun s0:SV=>s0=s))):=by
 intro x h;unfold pB at h;split at h
 ·obtain⟨h0,h⟩:=h;obtain⟨l,hl,h⟩:=ax h;obtain⟨m,hm,h⟩:=ax h;refine Exists.intro _ (And.intro h.2 ?_);refine And.intro h0 ?_;show aA _;rw[hl];show aA _;rw[hm];exact And.intro h.1 rfl
 ·obtain⟨l,hl,h⟩:=ax h;obtain⟨m,hm,h⟩:=ax h;obtain⟨e,he,h0,h1,h2⟩:=ax h;refine Exists.intro _ (And.intro h2 ?_);show aA _;rw[hl];show aA _;rw[hm];show aA _;rw[he];exact And.intro h0 (And.intro h1 rfl)
 ·obtain⟨l,hl,h⟩:=ax h;obtain⟨m,hm,h⟩:=ax h;obtain⟨e,he,h0,h1,h2⟩:=ax h;refine Exists.intro _ (And.intro h2 ?_);show aA _;rw[hl];show aA _;rw[hm];show aA _;rw[he];exact And.intro h0 (And.intro h1 rfl)
 ·exact h.elim
theorem T9 {m:Mem} {y:Value}:∀(x:A (m,y,u,K) (Option Nat)),uJ x->∃s,K s/\uJ (x.re (m,y,u,(fun s0:SV=>s0=s))):=by
 rintro⟨x⟩ h;cases x with
 |none=>obtain⟨c,h1,h2⟩:=h;exact Exists.intro _ (And.intro h2 (Exists.intro c (And.intro h1 rfl)))
 |some n=>obtain⟨c,h1,h2⟩:=h;exact Exists.intro _ (And.intro h2 (Exists.intro c (And.intro h1 rfl)))
theorem RW {b:Vc} {o:Nat}:∀(x:A (b,o,u,K) (Option Nat)),uk x->∃s,K s/\uk (x.re (b,o,u,(fun s0:SV=>s0=s))):=by
 rintro⟨x⟩ h;cases x with
 |none=>exact Exists.intro _ (And.intro h.2 (And.intro h.1 rfl))
 |some n=>exact Exists.intro _ (And.intro h.2.2 (And.intro h.1 (And.intro h.2.1 rfl)))
theorem Jn {l:List Value} {key:Value}:∀(x:A (l,key,K) (Bool×Option Value)),oa x->∃s,K s/\oa (x.re (l,key,(fun s0:SV=>s0=s))):=by
 intro x h;unfold oa at h;split at h
 ·exact Exists.intro _ (And.intro h rfl)
 ·rename_i z;cases hf:gN l key with
  |none=>exact Exists.intro _ (And.intro (h.2 hf) (And.intro (fun v hv=>by rw[hf] at hv;cases hv) (fun _=>rfl)))
  |some v=>exact Exists.intro _ (And.intro (h.1 v hf) (And.intro (fun v' hv=>by rw[hf] at hv;cases hv;rfl) (fun hv=>by rw[hf] at hv;cases hv)))
 ·rename_i z;cases hf:gN l key with
  |none=>exact Exists.intro _ (And.intro (h.2 hf) (And.intro (fun v hv=>by rw[hf] at hv;cases hv) (fun _=>rfl)))
  |some v=>exact Exists.intro _ (And.intro (h.1 v hf) (And.intro (fun v' hv=>by rw[hf] at hv;cases hv;rfl) (fun hv=>by rw[hf] at hv;cases hv)))
 ·cases h
theorem R0 {c:Bool}:∀(x:A (P,t,c,K) (LS×SV×Option Value)),pf x->∃s,K s/\pf (x.re (P,t,c,(fun s0:SV=>s0=s))):=by
 intro x h;unfold pf at h;split at h
 ·obtain⟨b,hb,dE,ht,hk,h⟩:=ax h;obtain⟨l,hl,h⟩:=ax h;obtain⟨s,h1,h2⟩:=Jn _ h;refine Exists.intro s (And.intro h1 ?_);simp only[A.re,pf,aA,hb,hl,dE,true_and];exact⟨ht,hk,h2⟩
 ·obtain⟨ht,hk,l,hl,h⟩:=h;obtain⟨s,h1,h2⟩:=Jn _ h;exact Exists.intro s (And.intro h1 ⟨ht,hk,l,hl,h2⟩)
 ·cases h
theorem Qm:∀(x:A (P,t,u,K) (LS×SV)),lM x->∃s,K s/\lM (x.re (P,t,u,(fun s0:SV=>s0=s))):=by
 intro x h;unfold lM at h;split at h
 ·obtain⟨b,hb,dE,h⟩:=ax h;obtain⟨ag,eV,h⟩:=ax h;obtain⟨r,hr,h⟩:=ax h;refine Exists.intro _ (And.intro h ?_);simp only[A.re,lM,aA,hb,eV,hr,dE,and_self]
 ·obtain⟨b,hb,h⟩:=ax h;obtain⟨ag,eV,h⟩:=ax h;obtain⟨s,h1,h2⟩:=RW _ h;refine Exists.intro _ (And.intro h1 ?_);show aA _;rw[hb];show aA _;rw[eV];exact h2
 ·obtain⟨ag,eV,h⟩:=ax h;obtain⟨s,h1,h2⟩:=T9 _ h;refine Exists.intro _ (And.intro h1 ?_);show aA _;rw[eV];exact h2
 ·exact h.elim
theorem R4:∀(x:A K (SV×Nat)),qJ x->∃s,K s/\qJ (x.re (fun s0:SV=>s0=s)):=by
 intro x h;unfold qJ at h;split at h
 ·exact tH h
 ·exact tH h
 ·exact h.elim
theorem R1:∀(x:A (P,t,K) (LS×SV)),oc x->∃s,K s/\oc (x.re (P,t,(fun s0:SV=>s0=s))):=by
 intro x h;unfold oc at h;split at h
 ·exact Exists.intro _ (And.intro h.2 (And.intro h.1 rfl))
 ·obtain⟨e,he,h⟩:=ax h;refine Exists.intro _ (And.intro h ?_);show aA _;rw[he];rfl
 ·obtain⟨e,he,h⟩:=ax h;obtain⟨b,hb,h⟩:=ax h;refine Exists.intro _ (And.intro h ?_);show aA _;rw[he];show aA _;rw[hb];rfl
 ·obtain⟨e,he,h⟩:=ax h;refine Exists.intro _ (And.intro h ?_);show aA _;rw[he];rfl
 ·exact h.elim
theorem RY:∀(x:A K (SV×SV)),sE x->∃s,K s/\sE (x.re (fun s0:SV=>s0=s)):=by
 intro x h;unfold sE at h;split at h
 ·exact Exists.intro _ (And.intro h rfl)
 ·exact h.elim
theorem RZ:∀(x:A K (SV×SV)),sF x->∃s,K s/\sF (x.re (fun s0:SV=>s0=s)):=by
 intro x h;unfold sF at h;split at h
 ·exact Exists.intro _ (And.intro h rfl)
 ·exact h.elim
theorem Ql:∀(x:A K (SV×SV×SV×SV)),sj x->∃s,K s/\sj (x.re (fun s0:SV=>s0=s)):=by
 intro x h;unfold sj at h;split at h
 ·exact Exists.intro _ (And.intro h rfl)
 ·exact h.elim
theorem Qj {p:bj} {a b:Operand} {st:LS} {g:Gd}:∀(x:A (p,a,b,st,g,K) PM),qu x->∃s,K s/\qu (x.re (p,a,b,st,g,(fun s0:SV=>s0=s))):=by
 rintro⟨md⟩ h;unfold qu at h;split at h
 ·obtain⟨s,h1,h2⟩:=tH h.2;exact Exists.intro s (And.intro h1 (And.intro h.1 h2))
 ·obtain⟨s,h1,h2⟩:=tH h.2;exact Exists.intro s (And.intro h1 (And.intro h.1 h2))
 ·rename_i q;cases q;obtain⟨h0,h⟩:=h;obtain⟨x,hx,h⟩:=ax h;obtain⟨y,hy,h⟩:=ax h;obtain⟨s,h1,h2⟩:=Qu _ h;refine Exists.intro s (And.intro h1 (And.intro h0 ?_));rw[hx];show aA _;rw[hy];exact h2
theorem Ky {op:Op}:∀(x:A (P,op,K) (LS×bj)),qOp x->∃s,K s/\qOp (x.re (P,op,(fun s0:SV=>s0=s))):=by
 intro x h;unfold qOp at h;split at h
 ·exact tH h
 ·exact tH h
 ·obtain⟨g,hg,h⟩:=ax h;obtain⟨s,h1,h2⟩:=Qj _ h;exact Exists.intro s (And.intro h1 (by simp only[A.re,qOp,aA,hg];exact h2))
 ·obtain⟨x,hx,h⟩:=ax h;obtain⟨s,h1,h2⟩:=RX _ h;exact Exists.intro s (And.intro h1 (by simp only[A.re,qOp,aA,hx];exact h2))
 ·obtain⟨x,hx,h⟩:=ax h;obtain⟨s,h1,h2⟩:=Qk _ h;exact Exists.intro s (And.intro h1 (by simp only[A.re,qOp,aA,hx];exact h2))
 ·rename_i N2 t x' y' ty ah p' b9;obtain⟨x,hx,h⟩:=ax h;obtain⟨y,hy,h⟩:=ax h;obtain⟨s,h1,h2⟩:=Tw _ h;have bK:¬y' = .const .nilIface:=fun e=>by subst e;exact b9 _ _ rfl HEq.rfl
  exact Exists.intro s (And.intro h1 (by simp only[A.re,qOp,aA,hx,hy,bK,false_implies,implies_true];exact h2))
 ·obtain⟨x,hx,h⟩:=ax h;obtain⟨s,h1,h2⟩:=T7 _ h;exact Exists.intro s (And.intro h1 (by simp only[A.re,qOp,aA,hx];exact h2))
 ·obtain⟨x,hx,h⟩:=ax h;obtain⟨s,h1,h2⟩:=Qo _ h;exact Exists.intro s (And.intro h1 (by simp only[A.re,qOp,aA,hx];exact h2))
 ·obtain⟨x,hx,h⟩:=ax h;obtain⟨y,hy,h⟩:=ax h;obtain⟨s,h1,h2⟩:=R3 _ h;exact Exists.intro s (And.intro h1 (by simp only[A.re,qOp,aA,hx,hy];exact h2))
 ·obtain⟨x,hx,h⟩:=ax h;obtain⟨y,hy,h⟩:=ax h;obtain⟨s,h1,h2⟩:=tH h;exact Exists.intro s (And.intro h1 (by simp only[A.re,qOp,aA,hx,hy];exact h2))
 ·obtain⟨x,hx,h⟩:=ax h;obtain⟨y,hy,h⟩:=ax h;obtain⟨z,hz,h⟩:=ax h;obtain⟨s,h1,h2⟩:=R2 _ h;exact Exists.intro s (And.intro h1 (by simp only[A.re,qOp,aA,hx,hy,hz];exact h2))
 ·obtain⟨x,hx,h⟩:=ax h;obtain⟨y,hy,h⟩:=ax h;obtain⟨s,h1,h2⟩:=Ua _ h;exact Exists.intro s (And.intro h1 (by simp only[A.re,qOp,aA,hx,hy];exact h2))
 ·obtain⟨x,hx,h⟩:=ax h;obtain⟨y,hy,h⟩:=ax h;obtain⟨z,hz,h⟩:=ax h;obtain⟨s,h1,h2⟩:=T8 _ h;exact Exists.intro s (And.intro h1 (by simp only[A.re,qOp,aA,hx,hy,hz];exact h2))
 ·obtain⟨x,hx,h⟩:=ax h;obtain⟨s,h1,h2⟩:=Qm _ h;exact Exists.intro s (And.intro h1 (by simp only[A.re,qOp,aA,hx];exact h2))
 ·obtain⟨x,hx,h⟩:=ax h;obtain⟨s,h1,h2⟩:=R4 _ h;exact Exists.intro s (And.intro h1 (by simp only[A.re,qOp,aA,hx];exact h2))
 ·obtain⟨h0,h⟩:=h;obtain⟨z,hz,h⟩:=ax h;obtain⟨cs,dG,h⟩:=ax h;exact Exists.intro _ (And.intro h (by simp only[A.re,qOp,aA,hz,dG];exact And.intro h0 trivial))
 ·obtain⟨x,hx,h⟩:=ax h;obtain⟨s,h1,h2⟩:=R1 _ h;exact Exists.intro s (And.intro h1 (by simp only[A.re,qOp,aA,hx];exact h2))
 ·obtain⟨x,hx,h⟩:=ax h;obtain⟨y,hy,h⟩:=ax h;obtain⟨s,h1,h2⟩:=RY _ h;exact Exists.intro s (And.intro h1 (by simp only[A.re,qOp,aA,hx,hy];exact h2))
 ·obtain⟨x,hx,h⟩:=ax h;obtain⟨y,hy,h⟩:=ax h;obtain⟨s,h1,h2⟩:=R0 _ h;exact Exists.intro s (And.intro h1 (by simp only[A.re,qOp,aA,hx,hy];exact h2))
 ·obtain⟨x,hx,h⟩:=ax h;obtain⟨y,hy,h⟩:=ax h;obtain⟨s,h1,h2⟩:=RZ _ h;exact Exists.intro s (And.intro h1 (by simp only[A.re,qOp,aA,hx,hy];exact h2))
 ·obtain⟨x,hx,h⟩:=ax h;obtain⟨y,hy,h⟩:=ax h;obtain⟨z,hz,h⟩:=ax h;obtain⟨u,hu,h⟩:=ax h;obtain⟨s,h1,h2⟩:=Ql _ h;exact Exists.intro s (And.intro h1 (by simp only[A.re,qOp,aA,hx,hy,hz,hu];exact h2))
 ·exact h.elim
end
section
variable {n:Nat} {st:LS} {P:Program} {c:Cfg}
end
/-! Regions that draw their order, of quiet operations and pure calls. -/
def Fm:OpK->Bool
 | .ac=>false
 |_=>true
section
variable {C:Ctx} {n:Nat} {st:LS} {a:Act} {V:Vl} {D:Nat->Nat} {w:World} {P:Program} {p:bj} {c:Cfg} {ops:Array Oper} {L:Nat->Prop} {i:Nat} {o:Oper}
def Cl (C:Ctx) (bx:List Bx) (vc:List Vc) (nid:Nat) (m:Mem) (V:Vl) (w:World):Prop:=∃V' D',Agree nid vc V V' /\SatW C bx vc nid m V' D' w
theorem SatW.drew {bx:List Bx} {vc:List Vc} {nid:Nat} {m:Mem} (h:SatW C bx vc nid m V D w) (k:Nat):SatW C bx vc nid m V D {w with drawn:=k}:=
 ⟨⟨h.heap.bx,h.heap.vc,h.heap.apart,h.heap.uniq⟩,h.wf,⟨h.frm.os,h.frm.tape,h.frm.output,h.frm.size,h.frm.same⟩,h.own,h.baseB,h.baseV,h.ids,h.le0,h.m0,h.mle⟩
theorem Qx (hF:SatF n st.env st.rho a V) (og:∀e∈st.env,fq st.nid st.vc e.s) {w0:World} (Cj:Cl C st.bx st.vc st.nid st.m V w0)
  (di:cw c P) (hR:RInv ops L st.rho) (lv:¬L i) (ff:ops[i]? =some o) (hd:j7 n o=true) (NG:Fm (eL c o.op)=true) (yX:pathOf st o.guard=some p) {K:LS->Prop} (h:one (.mk (k:=(c,P,i,o,K)) (st,p)))
  {next:Act->Prop} (hn:∀ah a',K ah->SatF n ah.env ah.rho a' V->(∀e∈ah.env,fq st.nid st.vc e.s)->ah.bx=st.bx/\ah.vc=st.vc/\ah.nid=st.nid/\ah.m=st.m->RInv ops (fun k=>L k\/k=i) ah.rho->next a'):
  if Region.wanted o (yielded ops a.tmps) then o.quiet P a (Cl C st.bx st.vc st.nid st.m V) next else next (a.put o.dst undef):=by
 obtain⟨V0,D0,ha0,hW0⟩:=Cj;have yP:∀{V' :Vl} {D' :Nat->Nat} {w' :World},Agree st.nid st.vc V V' ->SatW C st.bx st.vc st.nid st.m V' D' w' ->Sat C n st a V' D' w' :=fun ha hW=>⟨hF.agree og ha,og,hW⟩
 have th:=yP ha0 hW0;obtain⟨hp,hw⟩:=Dv th hR yX;rw[hw];have back:∀{ah:LS} {a' :Act},Sat C n ah a' V0 D0 w0->ah.bx=st.bx/\ah.vc=st.vc/\ah.nid=st.nid/\ah.m=st.m->SatF n ah.env ah.rho a' V/\∀e∈ah.env,fq st.nid st.vc e.s:=by
  intro ah a' dQ he;have hid:∀e∈ah.env,fq st.nid st.vc e.s:=by rw[<- he.2.1,<- he.2.2.1];exact dQ.ids
  exact⟨dQ.f.agree hid (fun k hk=>⟨((ha0 k hk).1).symm,fun u hu=>((ha0 k hk).2 u hu).symm⟩),hid⟩
 simp only[one] at h;unfold zo at h;split at h
 ·rename_i q dead he;simp only[A.mk.injEq,Prod.mk.injEq] at he;obtain⟨hq,hdead,hit⟩:=he;have sO:∀(d:Option Nat) (p:bj) (s:SV),(E.put st d p s).bx=st.bx/\(E.put st d p s).vc=st.vc/\(E.put st d p s).nid=st.nid/\(E.put st d p s).m=st.m:=fun d p s=>by cases d<;>exact⟨rfl,rfl,rfl,rfl⟩
  have Ch:∀(d:Option Nat) (p:bj) (s:SV) (mv:Bool),(jB (E.put st d p s) i d p mv s).bx=st.bx/\(jB (E.put st d p s) i d p mv s).vc=st.vc/\(jB (E.put st d p s) i d p mv s).nid=st.nid/\(jB (E.put st d p s) i d p mv s).m=st.m:=fun d p s mv=>by
   rcases Dj (E.put st d p s) i d p mv s with e |⟨_,_,_,_,e⟩
   ·rw[e];exact sO d p s
   ·rw[e];exact sO d p s
  have MO:∀(d:Option Nat) (p:bj) (s:SV) (mv:Bool),(jC (E.put st d p s) i d p mv).bx=st.bx/\(jC (E.put st d p s) i d p mv).vc=st.vc/\(jC (E.put st d p s) i d p mv).nid=st.nid/\(jC (E.put st d p s) i d p mv).m=st.m:=fun d p s mv=>by
   rcases Dk (E.put st d p s) i d p mv with e |⟨_,_,e⟩
   ·rw[e];exact sO d p s
   ·rw[e];exact sO d p s
  unfold uq at h;split at h
  ·rename_i ah p' q';cases q';have hc:=A0 hdead;rw[hc];simp only[Bool.false_eq_true,if_false];obtain⟨h1,h2⟩:=Fw th hR lv ff hd hit hp hc (kX o.op);obtain⟨h3,h4⟩:=back h1 (MO _ _ _ _);exact hn _ _ h h3 h4 (MO _ _ _ _) h2
  ·rename_i ah p' q';cases q';obtain⟨s,⟨hs,hK⟩,hdet⟩:=Ky _ h;have bO:∀w',Cl C st.bx st.vc st.nid st.m V w' ->bG st.rho p=true->(execOp a.eval o).run P w' = .ok (.value (den V s)) w' :=by
    rintro w' ⟨V',D',ha,hW⟩ hc;obtain⟨s',e,hr⟩:=DJ (yP ha hW) hp (o:=o) rfl hdet;subst e;rw[hr hc,AZ ha hs]
   cases hc:bG st.rho p with
   |true=>
    simp only[if_true];refine⟨den V s,fun w' Aa=> ?_,?_⟩
    ·unfold Oper.quietAt;rw[bO w' Aa hc];exact⟨rfl,rfl⟩
    ·have e0:den V s=den V0 s:=(AZ ha0 hs).symm;obtain⟨h1,h2⟩:=za th hR lv ff hd hit hp hs (v:=den V s) (by rw[hc,e0];rfl) (kX o.op);obtain⟨h3,h4⟩:=back h1 (Ch _ _ _ _);exact hn _ _ hK h3 h4 (Ch _ _ _ _) h2
   |false=>
    simp only[Bool.false_eq_true,if_false];obtain⟨h1,h2⟩:=za th hR lv ff hd hit hp hs (v:=undef) (by rw[hc];rfl) (kX o.op);obtain⟨h3,h4⟩:=back h1 (Ch _ _ _ _);exact hn _ _ hK h3 h4 (Ch _ _ _ _) h2
  ·rename_i F ah p' q';cases q';obtain⟨y,hy,hB,hK⟩:=ax h;cases hc:bG st.rho p with
   |true=>
    simp only[if_true];obtain⟨f,args,ts,ho,hf⟩:=Jx hq;obtain⟨ao,hFF⟩:=di f F hf;rw[ho] at hy;simp only[vL,Option.bind_eq_some_iff] at hy;obtain⟨aO,⟨ss,rk,hvals⟩,hy⟩:=hy;refine⟨y.2,?_,?_⟩
    ·rintro w' ⟨V',D',ha,hW⟩;have dQ:=yP ha hW;have bO:=Eb (w:=w') (a:=a) ho rfl ao;unfold Oper.quietAt;rw[bO];refine⟨rfl,?_⟩;have lP:args.map a.eval=⟨(aO.map SV.v).map (den V')⟩:=by
      apply Array.ext'
      rw[Array.toList_map,tF dQ hp hc rk,Dh hvals];simp only[List.map_map];exact(List.map_id'' (fun x=>rfl) aO).symm
     rw[lP];refine(hFF st.m aO y hy (hB hc) V' w' D' hW.wf hW.mle ⟨fun b hb=>(by cases hb),fun b hb=>(by cases hb),by simp [aE],by simp⟩).mono fun e w2 ⟨r,V2,D2,H',m',he,h1,h2,h3,h4,h5,h6,h7,h8,h9,hr,hH⟩=> ?_
     subst he;subst hr;exact⟨rfl,V',D2,ha,hW.quiet h1 h5 h7⟩
    ·obtain⟨h1,h2⟩:=wD (i:=i) th hR hd hit hp (s:= .v y.2) trivial (v:=y.2) (fun _=>rfl);obtain⟨h3,h4⟩:=back h1 (sO _ _ _);exact hn _ _ hK h3 h4 (sO _ _ _) h2
   |false=>
    simp only[Bool.false_eq_true,if_false];obtain⟨h1,h2⟩:=wD (i:=i) th hR hd hit hp (s:= .v y.2) trivial (v:=undef) (fun e=>by rw[hc] at e;cases e);obtain⟨h3,h4⟩:=back h1 (sO _ _ _);exact hn _ _ hK h3 h4 (sO _ _ _) h2
  ·rw[hq] at NG;cases NG
 ·cases h
theorem H7 (di:cw c P) {C:Ctx} {V:Vl} {w0:World} {bx:List Bx} {vc:List Vc} {nid:Nat} {m:Mem} (Cj:Cl C bx vc nid m V w0) {K:LS->Prop} {Q:Act->Prop}
  (hQ:∀ah a',K (clean ah)->SatF n ah.env ah.rho a' V->(∀e∈ah.env,fq nid vc e.s)->ah.bx=bx/\ah.vc=vc/\ah.nid=nid/\ah.m=m->Q a'):
  ∀(l:List Oper) (i:Nat) (st:LS) (a:Act),zg c P l i K st->SatF n st.env st.rho a V->(∀e∈st.env,fq nid vc e.s)->st.bx=bx/\st.vc=vc/\st.nid=nid/\st.m=m->RInv ops (· <i) st.rho->
   (∀j,l[j]? =ops[i+j]?)->(∀o∈l,j7 n o=true/\Fm (eL c o.op)=true)->wpQuiet P ops (Cl C bx vc nid m V) Q l a
 |[],i,st,a,h,hF,og,he,hR,hl,hd=>hQ _ _ h hF og he
 |o::r,i,st,a,h,hF,og,he,hR,hl,hd=>by
  obtain⟨p,hp,h⟩:=ax h;have ff:ops[i]? =some o:=by have:=hl 0;simpa using this.symm
  obtain⟨rfl,rfl,rfl,rfl⟩:=he;unfold wpQuiet;refine Qx hF og Cj di hR (Nat.lt_irrefl _) ff (hd o (bN ..)).1 (hd o (bN ..)).2 hp h fun ah a' hK GL BS oD rB=> ?_
  exact H7 di Cj hQ r (i+1) ah a' hK GL BS oD (rB.mono fun k hk=>by omega) (fun j=>by have:=hl (j+1);simpa [Nat.add_assoc,Nat.add_comm 1 j] using this) (fun o ho=>hd o (bw _ ho))
theorem vO (di:cw c P) {id:Nat} {l:List Oper} {Q:Exit->LS->Prop} {st:LS} (hm:P.follows .mixedOrders=true) (hB:Region.lexB .any ⟨l⟩=true) (hd:l.all (fun o=>j7 n o&&Fm (eL c o.op))=true)
  (h:xb (.mk (k:=(c,P,0,l,Q .normal)) st)):jR (.mk (k:=(P,n,.region id ⟨l⟩ true,Q)) st):=by
 rintro C a w ⟨eD,V,D,hS⟩;have aU:Cl C st.bx st.vc st.nid st.m V {w with drawn:=w.drawn+1}:=⟨V,D,Agree.refl _ _ _,hS.w.drew _⟩;refine wp_region_quiet (C:=Cl C st.bx st.vc st.nid st.m V) hm hB aU ?_;refine H7 (ops:=⟨l⟩) di aU (K:=Q .normal) ?_ l 0 st a h hS.f hS.ids ⟨rfl,rfl,rfl,rfl⟩ ?_ (fun j=>by simp) (fun o ho=> ?_)
 ·rintro ah a' hK GL BS ⟨e1,e2,e3,e4⟩ w' ⟨V',D',ha,hW⟩;refine⟨clean ah,?_,hK⟩;have dQ:Sat C n ah a' V' D' w' :=⟨GL.agree BS ha,by rw[e2,e3];exact BS,by rw[e1,e2,e3,e4];exact hW⟩;exact Dl dQ
 ·rw[eD];intro g hg;cases hg
 ·have:=List.all_eq_true.1 hd o ho;simpa using this
end
/-! Functions of values, listed. -/
def xh:List (FuncId×(List Value->Option (Prop×Value)))->FuncId->Option (List Value->Option (Prop×Value))
 |[],_=>none
 |(g,F)::r,f=>if g=f then some F else xh r f
def eZ (own:FuncId->Bool) (L:List (FuncId×(List Value->Option (Prop×Value)))):Cfg:=⟨own,fun f=>(xh L f).map fun F _=>F⟩
attribute [go_sem] xh.eq_1 xh.eq_2 eZ.eq_1
theorem pure_nil {P:Program} {own:FuncId->Bool}:cw (eZ own []) P:=fun f F h=>by cases h
theorem pure_cons {P:Program} {own:FuncId->Bool} {L:List (FuncId×(List Value->Option (Prop×Value)))} {g:FuncId} {F:List Value->Option (Prop×Value)} (ao:dp P g=true)
  (h:∀aO y,F aO=some y->y.1->∀m,FnH P g (aO.map SV.v) ⟨[],[]⟩ m (fun r H' _=>r= .v y.2/\H' =⟨[],[]⟩)) (hL:cw (eZ own L) P):cw (eZ own ((g,F)::L)) P:=by
 intro f G hf;by_cases e:g=f
 ·subst e;simp only[eZ,xh,if_true,Option.map_some,cv] at hf;subst hf;exact⟨ao,fun m aO y hy hB=>h aO y hy hB m⟩
 ·simp only[eZ,xh,ae e] at hf;exact hL f G hf
/-! .. and functions of values and of what lies in memory. -/
def xg:List (FuncId×(Mem->List Value->Option (Prop×Value)))->FuncId->Option (Mem->List Value->Option (Prop×Value))
 |[],_=>none
 |(g,F)::r,f=>if g=f then some F else xg r f
def kZ (own:FuncId->Bool) (L:List (FuncId×(Mem->List Value->Option (Prop×Value)))):Cfg:=⟨own,xg L⟩
attribute [go_sem] xg.eq_1 xg.eq_2 kZ.eq_1
theorem rK {P:Program} {own:FuncId->Bool}:cw (kZ own []) P:=fun f F h=>by cases h
theorem fG {P:Program} {own:FuncId->Bool} {L:List (FuncId×(Mem->List Value->Option (Prop×Value)))} {g:FuncId} {F:Mem->List Value->Option (Prop×Value)} (ao:dp P g=true)
  (h:∀m aO y,F m aO=some y->y.1->FnH P g (aO.map SV.v) ⟨[],[]⟩ m (fun r H' _=>r= .v y.2/\H' =⟨[],[]⟩)) (hL:cw (kZ own L) P):cw (kZ own ((g,F)::L)) P:=by
 intro f G hf;by_cases e:g=f
 ·subst e;simp only[kZ,xg,if_true,cv] at hf;subst hf;exact⟨ao,h⟩
 ·simp only[kZ,xg,ae e] at hf;exact hL f G hf
def sR (ops:Array Oper):Nat->Nat->Nat->Bool
 |0,_,_=>false
 |f+1,j,i=>match ops[j]? with
  |some o=>o.after.toList.any fun e=>Region.binds .any e&&(e.on==i||sR ops f e.on i)
  |none=>false
def mB (ops:Array Oper) (j i:Nat):Prop:=∃f,sR ops f j i=true
def Closed (ops:Array Oper) (listed:Array Bool) (i:Nat):Prop:=∀k,listed.getD k false=true->mB ops k i->listed.getD i false=true
section
variable {P:Program} {ops:Array Oper} {Q:Exit->Act->World->Prop} {Cw:World->Prop}
theorem D6 {listed:Array Bool} {i:Nat} (h:listed.getD i true=false):listed.getD i false=false:=by
 rcases Nat.lt_or_ge i listed.size with h' |h'
 ·simp only[Array.getD,h',dite_true] at h ⊢;exact h
 ·simp [Array.getElem?_eq_none h'] at h
theorem OA {listed:Array Bool} {i j:Nat} (hc:Closed ops listed i) (hi:listed.getD i false=false) (hj:j∈Region.ready .any ops listed):¬mB ops j i:=by
 rintro⟨f,hf⟩;obtain⟨_,o,ho,lV⟩:=mem_ready.1 hj;cases f with
 |zero=>cases hf
 |succ f=>
  simp only[sR,ho] at hf;obtain⟨e,he,h⟩:=List.any_eq_true.1 hf;simp only[bB,Bool.or_eq_true,beq_iff_eq] at h;have hl:=lV e (by simpa using he) h.1;rcases h.2 with h2 |h2
  ·rw[h2,hi] at hl;cases hl
  ·have:=hc _ hl ⟨f,h2⟩;rw[hi] at this;cases this
theorem Closed.set {listed:Array Bool} {i j:Nat} (hc:Closed ops listed i) (hj:¬mB ops j i):Closed ops (listed.setIfInBounds j true) i:=fun k hk hd=>by
 by_cases e:j=k
 ·subst e;exact absurd hd hj
 ·rw[getD_set_ne false e] at hk;exact getD_set_true (hc k hk hd)
theorem Closed.done {listed:Array Bool} {i:Nat} (h:listed.getD i false=true):Closed ops listed i:=fun _ _ _=>h
def YW (P:Program) (ops:Array Oper) (Cw:World->Prop) (o:Oper) (v:Value) (a:Act):Prop:=
 (Region.wanted o (yielded ops a.tmps)=true/\∀w,Cw w->(execOp a.eval o).run P w= .ok (.value v) w)\/(Region.wanted o (yielded ops a.tmps)=false/\v=undef)
theorem YW.same {o:Oper} {v:Value} {a a' :Act} (hy:YW P ops Cw o v a) (he:execOp a'.eval o=execOp a.eval o) (hw:Region.wanted o (yielded ops a'.tmps)=Region.wanted o (yielded ops a.tmps)):YW P ops Cw o v a' :=by
 unfold YW at *;rw[he,hw];exact hy
theorem YW.wpOp {i:Nat} {o:Oper} {v:Value} {a:Act} (hi:ops[i]? =some o) (hy:YW P ops Cw o v a) {K:Act->World->Prop} {w:World} (hw:Cw w) (h:K (a.put o.dst v) w):wpOp P ops Q i K a w:=by
 unfold Go.wpOp;simp only[hi];rcases hy with ⟨Gk,hv⟩ |⟨Gk,rfl⟩
 ·simp only[Gk,if_true,Oper.wp,hv w hw,Oper.upon];exact .inl h
 ·simp only[Gk,Bool.false_eq_true,if_false];exact h
theorem PT {j:Nat} {oi oj:Oper} {v:Value} (hj:ops[j]? =some oj) (ft:oi.apart ops oj=true) (hsi:∀cs b,oi.op≠ .select cs b) (Ny:∀cs b,oj.op≠ .select cs b)
  (hQ:∀c a w,¬Q (.panic c) a w) {K:Act->World->Prop} {a:Act} {w:World} (hy:YW P ops Cw oi v a) (h:wpOp P ops Q j K (a.put oi.dst v) w):
  wpOp P ops Q j (fun a' w' =>YW P ops Cw oi v a' /\K (a'.put oi.dst v) w') a w:=by
 obtain⟨h1,h2,h3⟩:=Oper.apart_spec ft;have qL:∀(a:Act),YW P ops Cw oi v a->∀u,YW P ops Cw oi v (a.put oj.dst u):=fun a hy u=>
  hy.same (execOp_put oi hsi a oj.dst u h3) (wanted_put oi a oj.dst u h3)
 have Zb:∀d,YW P ops Cw oi v {a with defers:=d::a.defers}:=fun d=>hy.same rfl rfl
 unfold wpOp at *;simp only[hj] at *;rw[wanted_put oj a oi.dst v h1] at h;split
 ·rename_i hw;simp only[hw,if_true] at h;rcases h with h |⟨Mi,hlets⟩
  case inr=>exact .inr ⟨by unfold Oper.asks at *;rw[execOp_put oj Ny a oi.dst v h1] at Mi;exact Mi,hlets⟩
  refine .inl ?_;unfold Oper.wp at *;rw[execOp_put oj Ny a oi.dst v h1] at h;generalize (execOp a.eval oj).run P w=r at *
  cases r with
  |ok n w' =>
   cases n<;>simp only[Oper.upon] at h ⊢;case value u=>exact⟨qL a hy u,by rw[<- Act.put_comm a v u h2];exact h⟩
   case skip=>exact⟨qL a hy _,by rw[<- Act.put_comm a v undef h2];exact h⟩
   case defer d=>
    refine⟨qL _ (Zb d) _,?_⟩;rw[<- Act.put_comm _ v undef h2,<- Act.put_defers];exact h
   case enter f args=>
    refine Calls.mono h fun e kg he=> ?_
    cases e with
    |returned u=>exact⟨qL a hy u,by rw[<- Act.put_comm a v u h2];exact he⟩
    |panicked c=>exact absurd he (hQ _ _ _)
    |outgrown=>exact he
   case row row args=>exact Rows.mono h fun u kg he=>⟨qL a hy u,by rw[<- Act.put_comm a v u h2];exact he⟩
  |halt x w' =>
   cases x<;>simp only[Oper.upon] at h ⊢;case panic u=>exact absurd h (hQ _ _ _)
 ·rename_i hw;simp only[hw] at h;exact⟨qL a hy _,by rw[<- Act.put_comm a v undef h2];exact h⟩
def nR (P:Program) (ops:Array Oper) (Q:Exit->Act->World->Prop):Nat->(Nat×(World->Prop)->Prop)->Array Bool->Act->World->Prop
 |0,_,listed,a,w=>Region.ready .any ops listed=[]/\Q .normal a w
 |fuel+1,I,listed,a,w=>
  (Region.ready .any ops listed=[]->Q .normal a w)/\
  ∀j∈Region.ready .any ops listed,wpOp P ops Q j (fun a' w' =>(∀x,I x->¬mB ops j x.1->x.2 w')/\nR P ops Q fuel (fun x=>I x/\¬mB ops j x.1) (listed.setIfInBounds j true) a' w') a w
theorem Hy:∀(fuel:Nat) (I:Nat×(World->Prop)->Prop) (listed:Array Bool) (a:Act) (w:World),nR P ops Q fuel I listed a w->wpAny P .any ops Q fuel listed a w
 |0,_,_,_,_,h=>h
 |fuel+1,_,_,_,_,h=>⟨h.1,fun j hj=>wpOp_mono (fun a' w' h' =>Hy fuel _ _ a' w' h'.2) (h.2 j hj)⟩
theorem xH:∀(fuel:Nat) (I J:Nat×(World->Prop)->Prop) (_:∀i,J i->I i) (listed:Array Bool) (a:Act) (w:World),nR P ops Q fuel I listed a w->nR P ops Q fuel J listed a w
 |0,_,_,_,_,_,_,h=>h
 |fuel+1,I,J,hI,_,_,_,h=>⟨h.1,fun j hj=>wpOp_mono (fun a' w' h' =>⟨fun x h1 h2=>h'.1 x (hI x h1) h2,xH fuel _ _ (fun x hx=>⟨hI x hx.1,hx.2⟩) _ a' w' h'.2⟩) (h.2 j hj)⟩
theorem hoist {i:Nat} {oi:Oper} {v:Value} (hi:ops[i]? =some oi) (Cf:∀(j:Nat) (o:Oper) cs b,ops[j]? =some o->o.op≠ .select cs b) (hQ:∀c a w,¬Q (.panic c) a w):
  ∀(fuel:Nat) (I:Nat×(World->Prop)->Prop) (listed:Array Bool) (a:Act) (w:World),
   (∀j oj,ops[j]? =some oj->j≠i->listed.getD j true=false->(∀e∈oj.after,Region.binds .any e=true->e.on≠i)->oi.apart ops oj=true)->
   Closed ops listed i->i∈Region.ready .any ops listed->YW P ops Cw oi v a->Cw w->(∀x,I x->x.2 w)->
   nR P ops Q fuel (fun x=>x=(i,Cw)\/I x) (listed.setIfInBounds i true) (a.put oi.dst v) w->nR P ops Q (fuel+1) I listed a w:=by
 intro fuel;induction fuel with
 |zero=>
  intro I listed a w _ _ hr hy hC hI H;refine⟨fun h=>(by rw[h] at hr;cases hr),fun j hj=> ?_⟩;by_cases hji:j=i
  ·subst hji;exact hy.wpOp hi hC ⟨fun x h1 _=>hI x h1,H⟩
  ·have:=ready_mono hj hji;rw[H.1] at this;cases this
 |succ fuel ih=>
  intro I listed a w BT aU hr hy hC hI H;refine⟨fun h=>(by rw[h] at hr;cases hr),fun j hj=> ?_⟩;by_cases hji:j=i
  ·subst hji;exact hy.wpOp hi hC ⟨fun x h1 _=>hI x h1,xH _ _ _ (fun x hx=> .inr hx.1) _ _ _ H⟩
  ·have h1:=H.2 j (ready_mono hj hji);obtain⟨MI,oj,hoj,lV⟩:=mem_ready.1 hj;have MK:=D6 (mem_ready.1 hr).1;have ew:=OA aU MK hj;have qN:∀e∈oj.after,Region.binds .any e=true->e.on≠i:=fun e he hb heq=>by
    have h1:=lV e he hb;rw[heq,MK] at h1;cases h1
   have h2:=PT hoj (BT j oj hoj hji MI qN) (fun cs b=>Cf i oi cs b hi) (fun cs b=>Cf j oj cs b hoj) hQ hy h1;have W8:∀k ok,ops[k]? =some ok->k≠i->(listed.setIfInBounds j true).getD k true=false->
     (∀e∈ok.after,Region.binds .any e=true->e.on≠i)->oi.apart ops ok=true:=fun k ok hk hki xu oA=>by
    refine BT k ok hk hki ?_ oA;by_cases hjk:j=k
    ·subst hjk;exact MI
    ·rw[getD_set_ne true hjk] at xu;exact xu
   refine wpOp_mono (fun a' w' h3=> ?_) h2;obtain⟨bK,pR,h3⟩:=h3;have abk:=pR (i,Cw) (.inl rfl) ew;have NQ:∀x,I x/\¬mB ops j x.1->x.2 w' :=fun x hx=>pR x (.inr hx.1) hx.2
   refine⟨fun x h1 h2=>NQ x ⟨h1,h2⟩,ih _ (listed.setIfInBounds j true) a' w' W8 (aU.set ew) (ready_mono hr (Ne.symm hji)) bK abk NQ ?_⟩;rw[Array.setIfInBounds_comm _ _ hji];refine xH _ _ _ (fun x hx=> ?_) _ _ _ h3;rcases hx with rfl |hx
   ·exact⟨.inl rfl,ew⟩
   ·exact⟨.inr hx.1,hx.2⟩
end
inductive Plan where
 |done
 |stop
 |hoist (i:Nat) (r:Plan)
 |alt (j:Nat) (ow:List Nat) (r next:Plan)
structure HX where
 i:Nat
 bx:List Bx
 vc:List Vc
 m:Mem
def ov:List Oper->Nat->Option Oper
 |[],_=>none
 |o::_,0=>some o
 |_::r,n+1=>ov r n
def uc (st:LS) (p:bj):List Operand->List Nat->List Nat
 |[],acc=>acc
 |x::r,acc=>rdIds1 st p r acc (bP st p x)
where rdIds1 (st:LS) (p:bj) (r:List Operand) (acc:List Nat):Option SV->List Nat
 |some s=>uc st p r (lf acc [s])
 |none=>uc st p r acc
def jb:Op->List Operand
 | .load _ a=>[a]
 | .convert _ _ a=>[a]
 | .fieldAddr _ a _=>[a]
 | .indexAddr _ a _=>[a]
 | .call {args:=⟨[x]⟩,..}=>[x]
 | .move _=>[]
 | .assign _=>[]
 | .pick _ _ _=>[]
 | .nilCheck _=>[]
 | .binOp _ _ _ _ _=>[]
 | .unOp _ _ _=>[]
 | .field _ _ _=>[]
 | .index _ _ _=>[]
 | .slice _ _ _ _ _=>[]
 | .extract _ _=>[]
 | .build _ _=>[]
 | .lookup _ x _ _=>[x]
 |_=>[]
def mT (ow:List Nat):List HX->List HX
 |[]=>[]
 |⟨i,bx,vc,m⟩::r=>if fy ow i=true then⟨i,bx,vc,m⟩::mT ow r else mT ow r
def uL (st:LS):List HX->Prop
 |[]=>True
 |⟨_,bx,vc,m⟩::r=>pE st bx/\pD st vc/\af m st.m/\uL st r
def Ce {P:Program} {o:Oper} {p:bj} {st:LS} {i:Nat} {K:LS->HX->Prop} (x:A (P,o,p,st,i,K) (OpK×Bool×Bool×List Nat)):Prop:=
 match x with
 | .mk (_,true,false,_)=>K (jC (put st o.dst p (.v undef)) i o.dst p (kX o.op)) ⟨i,[],[],st.m⟩
 | .mk (.qt,false,false,ks)=>qOp (.mk (k:=(P,o.op,fun s=>fq st.nid st.vc s/\K (jB (put st o.dst p s) i o.dst p (kX o.op) s) ⟨i,er ks st.bx,dS ks st.vc,st.m⟩)) (⟨st.env,st.rho,er ks st.bx,dS ks st.vc,st.nid,st.m⟩,p))
 |_=>False
def eM {c:Cfg} {P:Program} {o:Oper} {i:Nat} {K:LS->HX->Prop} (x:A (c,P,o,i,K) (LS×bj)):Prop:=
 match x with
 | .mk (st,p)=>Ce (.mk (k:=(P,o,p,st,i,K)) (eL c o.op,sw st.rho p,gT st.rho o.dst,uc st p (jb o.op) []))
def ug (c:Cfg) (P:Program) (l:List Oper) (K:LS->Prop):Plan->List HX->LS->Prop
 | .done,_,st=>K (clean st)
 | .stop,_,_=>True
 | .hoist i r,I,st=>aA (.mk (k:=fun o:Oper=>aA (.mk (k:=fun p:bj=>eM (.mk (k:=(c,P,o,i,fun ah X=>ug c P l K r (X::I) ah)) (st,p))) (pathOf st o.guard))) (ov l i))
 | .alt j ow r nx,I,st=>aA (.mk (k:=fun o:Oper=>aA (.mk (k:=fun p:bj=>one (.mk (k:=(c,P,j,o,fun ah=>uL ah (mT ow I)/\ug c P l K r (mT ow I) ah)) (st,p))) (pathOf st o.guard))) (ov l j))/\ug c P l K nx I st
def sV {c:Cfg} {P:Program} {l:List Oper} {K:LS->Prop} {pl:Plan} {I:List HX} (x:A (c,P,l,K,pl,I) LS):Prop:=match x with | .mk st=>ug c P l K pl I st
/-! Does the plan fit the region? -/
def chk (ops:Array Oper):Plan->Nat->List Nat->Array Bool->Option (List Nat)->Bool
 | .done,_,_,listed,none=>(Region.ready .any ops listed).isEmpty
 | .hoist i r,f+1,H,listed,none=>Region.free .any ops listed i&&(Region.ready .any ops listed).contains i&&chk ops r f (i::H) (listed.setIfInBounds i true) none
 | .alt j ow r nx,f+1,H,listed,none=>(Region.ready .any ops listed).contains j&&H.all (fun i=>fy ow i||sR ops ops.size j i)&&
   chk ops r f (H.filter (fy ow)) (listed.setIfInBounds j true) none&&chk ops nx (f+1) H listed (some ((Region.ready .any ops listed).filter (· != j)))
 | .alt j ow r nx,f+1,H,listed,some R=>R.contains j&&(Region.ready .any ops listed).contains j&&H.all (fun i=>fy ow i||sR ops ops.size j i)&&
   chk ops r f (H.filter (fy ow)) (listed.setIfInBounds j true) none&&chk ops nx (f+1) H listed (some (R.filter (· != j)))
 | .stop,_,_,_,some R=>R.isEmpty
 |_,_,_,_,_=>false
section
variable {ops:Array Oper}
def AllClosed (ops:Array Oper) (listed:Array Bool):Prop:=∀i,Closed ops listed i
theorem Jm {listed:Array Bool} {j:Nat} (hj:j∈Region.ready .any ops listed):j<listed.size:=by
 have h:=(mem_ready.1 hj).1;rcases Nat.lt_or_ge j listed.size with h' |h'
 ·exact h'
 ·simp [Array.getElem?_eq_none h'] at h
theorem Ks {listed:Array Bool} {j:Nat} (hj:j<listed.size):(listed.setIfInBounds j true).getD j false=true:=by simp [hj]
theorem Qa {listed:Array Bool} {j k:Nat} (h:(listed.setIfInBounds j true).getD k false=true):k=j\/listed.getD k false=true:=by
 by_cases e:j=k
 ·exact .inl e.symm
 ·rw[getD_set_ne false e] at h;exact .inr h
theorem AllClosed.set {listed:Array Bool} {j:Nat} (hc:AllClosed ops listed) (hj:j∈Region.ready .any ops listed):AllClosed ops (listed.setIfInBounds j true):=by
 intro i k hk hd;refine getD_set_true ?_;rcases Qa hk with rfl |hk
 ·obtain⟨_,o,ho,lV⟩:=mem_ready.1 hj;obtain⟨f,hf⟩:=hd;cases f with
  |zero=>cases hf
  |succ f=>
   simp only[sR,ho] at hf;obtain⟨e,he,h⟩:=List.any_eq_true.1 hf;simp only[bB,Bool.or_eq_true,beq_iff_eq] at h;have hl:=lV e (by simpa using he) h.1;rcases h.2 with h2 |h2
   ·rw[<- h2];exact hl
   ·exact hc i _ hl ⟨f,h2⟩
 ·exact hc i k hk hd
theorem ES:∀{l:List Oper} {i:Nat} {o:Oper},ov l i=some o->l[i]? =some o
 |[],_,_,h=>by cases h
 |o::r,0,o',h=>h
 |o::r,n+1,o',h=>by
  simp only[ov] at h;simpa using ES h
end
section
variable {C:Ctx} {n:Nat} {st:LS} {a:Act} {V:Vl} {D:Nat->Nat} {w:World} {P:Program} {p:bj} {c:Cfg} {ops:Array Oper} {L:Nat->Prop} {i:Nat} {o:Oper}
structure SX where
 h:HX
 nid:Nat
 vc:List Vc
 V:Vl
def SX.cl (C:Ctx) (x:SX) (w:World):Prop:=∃V' D',Agree x.nid x.vc x.V V' /\SatW C x.h.bx x.h.vc x.nid x.h.m V' D' w
structure SX.ok (C:Ctx) (st:LS) (V:Vl) (x:SX):Prop where
 step:Step x.nid x.vc st.nid st.vc x.V V
 hd:po ⟨[],[],x.h.bx,x.h.vc,x.nid,x.h.m⟩
 b:∀b∈C.H0.bx,b.id<x.nid
 v:∀b∈C.H0.vc,b.id<x.nid
 m:C.m0.le x.h.m
theorem Du {L:List Nat}:∀{bx:List Bx},∀b∈er L bx,b∈bx
 |[],_,h=>h
 |⟨k,t,cs⟩::r,b,h=>by
  simp only[er] at h;split at h
  ·rcases List.mem_cons.1 h with rfl |h
   ·exact bN ..
   ·exact bw _ (Du b h)
  ·exact bw _ (Du b h)
theorem SatW.pickW (h:SatW C st.bx st.vc st.nid st.m V D w) (ks:List Nat):SatW C (er ks st.bx) (dS ks st.vc) st.nid st.m V D w:=by
 have rn:=(AH ks h.heap).app.1;have hv:∀b∈dS ks st.vc,b∈st.vc:=fun b hb=>(rL hb).1
 have hb:∀b∈er ks st.bx,b∈st.bx:=fun b hb=>Du b hb
 have CJ:∀{k u:Nat},ba st.vc k u->ba (dS ks st.vc) k u:=fun{k u} hh=>(vB rn.uniq).2 fun x hx e=>(vB h.heap.uniq).1 hh x (hv x hx) e
 have aa7:∀s:SV,gU st.nid st.vc s->gU st.nid (dS ks st.vc) s:=fun s hs=>by
  cases s<;>first |exact hs |exact⟨hs.1,CJ hs.2⟩
 have aa6:∀l:List SV,cP st.nid st.vc l->cP st.nid (dS ks st.vc) l:=fun l=>by
  induction l with
  |nil=>exact id
  |cons s r ih=>exact fun hs=>⟨aa7 s hs.1,ih hs.2⟩
 exact⟨rn,h.wf,h.frm,fun g hg=>h.own g (EC hb hv g hg),h.baseB,fun b cR=>⟨(h.baseV b cR).1,(h.baseV b cR).2.1,CJ (h.baseV b cR).2.2⟩,
  ⟨fun b cR=>⟨(h.ids.1 b (hb b cR)).1,aa6 _ (h.ids.1 b (hb b cR)).2⟩,fun b cR=>h.ids.2 b (hv b cR)⟩,h.le0,h.m0,h.mle⟩
theorem KL {nid:Nat} {vc:List Vc}:∀{bx:List Bx},(∀b∈bx,b.id<nid/\cP nid vc b.cs)->wM nid vc bx
 |[],_=>trivial
 |⟨k,t,cs⟩::r,h=>⟨(h ⟨k,t,cs⟩ (bN ..)).1,(h ⟨k,t,cs⟩ (bN ..)).2,KL fun b hb=>h b (bw _ hb)⟩
theorem KK {nid:Nat}:∀{vc:List Vc},(∀b∈vc,b.id<nid)->wL nid vc
 |[],_=>trivial
 |⟨k,_,_,_,_,_⟩::r,h=>⟨h _ (bN ..),KK fun b hb=>h b (bw _ hb)⟩
theorem QQ (hS:Sat C n st a V D w) (hR:RInv ops L st.rho) (lv:¬L i) (ff:ops[i]? =some o) (hd:j7 n o=true) (yX:pathOf st o.guard=some p) {K:LS->HX->Prop} (h:eM (.mk (k:=(c,P,o,i,K)) (st,p))):
  ∃(v:Value) (x:SX) (ah:LS),x.h.i=i/\YW P ops (x.cl C) o v a/\x.cl C w/\x.ok C ah V/\ah.nid=st.nid/\ah.vc=st.vc/\K ah x.h/\Sat C n ah (a.put o.dst v) V D w/\RInv ops (fun k=>L k\/k=i) ah.rho:=by
 obtain⟨hp,hw⟩:=Dv hS hR yX;have MC:∀ks,po ⟨[],[],er ks st.bx,dS ks st.vc,st.nid,st.m⟩:=fun ks=>by
  have:=(hS.w.pickW ks).ids;exact⟨trivial,KL this.1,KK this.2⟩
 have hB:∀b∈C.H0.bx,b.id<st.nid:=fun b hb=>(hS.w.baseB b hb).2
 have hV:∀b∈C.H0.vc,b.id<st.nid:=fun b hb=>(hS.w.baseV b hb).2.1
 simp only[eM] at h;unfold Ce at h;split at h
 ·rename_i ks q;simp only[A.mk.injEq,Prod.mk.injEq] at q;obtain⟨hq,hdead,hit,_⟩:=q;have hc:=A0 hdead;obtain⟨h1,h2⟩:=Fw hS hR lv ff hd hit hp hc (kX o.op);have aU:=hS.w.pickW [];have e1:er [] st.bx=[]:=by
   generalize st.bx=l
   induction l with
   |nil=>rfl
   |cons x r ih=>obtain⟨_,_,_⟩:=x;simp only[er,List.contains_nil,Bool.false_eq_true,if_false];exact ih
  have e2:dS [] st.vc=[]:=by
   generalize st.vc=l
   induction l with
   |nil=>rfl
   |cons x r ih=>obtain⟨_,_,_,_,_,_⟩:=x;simp only[dS,List.contains_nil,Bool.false_eq_true,if_false];exact ih
  rw[e1,e2] at aU;have hh:=MC [];rw[e1,e2] at hh;refine⟨undef,⟨⟨i,[],[],st.m⟩,st.nid,st.vc,V⟩,_,rfl,.inr ⟨by rw[hw];exact hc,rfl⟩,⟨V,D,Agree.refl _ _ _,aU⟩,⟨Step.same vx.1 vx.2 V,hh,hB,hV,hS.w.m0⟩,vx.1,vx.2,h,h1,h2⟩
 ·rename_i ks q;simp only[A.mk.injEq,Prod.mk.injEq] at q;obtain⟨hq,hdead,hit,hks⟩:=q;obtain⟨s,⟨hs,hK⟩,hdet⟩:=Ky _ h;have og:∀e∈st.env,fq st.nid st.vc e.s:=hS.ids;have CJ:∀{k u:Nat},ba st.vc k u->ba (dS ks st.vc) k u:=fun{k u} hh=>
   (vB (hS.w.pickW ks).heap.uniq).2 fun x hx e=>(vB hS.w.heap.uniq).1 hh x (rL hx).1 e
  have yP:∀{V' :Vl} {D' :Nat->Nat} {w' :World},Agree st.nid st.vc V V' ->SatW C (er ks st.bx) (dS ks st.vc) st.nid st.m V' D' w' ->
    Sat C n ⟨st.env,st.rho,er ks st.bx,dS ks st.vc,st.nid,st.m⟩ a V' D' w' :=fun ha hW=>
   ⟨hS.f.agree og ha,fun e he=>JA (aC _) (fun k u _ hh=>CJ hh) (og e he),hW⟩
  have bO:∀w',(SX.cl C ⟨⟨i,er ks st.bx,dS ks st.vc,st.m⟩,st.nid,st.vc,V⟩ w')->bG st.rho p=true->(execOp a.eval o).run P w' = .ok (.value (den V s)) w' :=by
   rintro w' ⟨V',D',ha,hW⟩ hc;obtain⟨s',e,hr⟩:=DJ (yP ha hW) hp (o:=o) rfl hdet;subst e;rw[hr hc,AZ ha hs]
  refine⟨if bG st.rho p=true then den V s else undef,⟨⟨i,er ks st.bx,dS ks st.vc,st.m⟩,st.nid,st.vc,V⟩,_,rfl,?_,⟨V,D,Agree.refl _ _ _,hS.w.pickW ks⟩,⟨Step.same vw.1 vw.2 V,MC ks,hB,hV,hS.w.m0⟩,vw.1,vw.2,hK,za hS hR lv ff hd hit hp hs rfl (kX o.op)⟩;cases hc:bG st.rho p with
  |true=>exact .inl ⟨by rw[hw];exact hc,fun w' Aa=>by simpa using bO w' Aa hc⟩
  |false=>exact .inr ⟨by rw[hw];exact hc,by simp⟩
 ·cases h
theorem KD {st:LS}:∀{I:List HX},uL st I->∀x∈I,pE st x.bx/\pD st x.vc/\af x.m st.m
 |[],_,_,h=>by cases h
 |⟨_,_,_,_⟩::r,h,x,hx=>by
  rcases List.mem_cons.1 hx with rfl |hx
  ·exact⟨h.1,h.2.1,h.2.2.1⟩
  ·exact KD h.2.2.2 x hx
theorem DO {ow:List Nat}:∀{S:List SX},mT ow (S.map (·.h))=(S.filter fun x=>fy ow x.h.i).map (·.h)
 |[]=>rfl
 |x::r=>by
  obtain⟨⟨i,bx,vc,m⟩,nid,dq,V⟩:=x;simp only[aG,mT,List.filter_cons];split
  ·rw[DO];rfl
  ·exact DO
theorem S5 {ow:List Nat} {S:List SX}:(S.filter fun x=>fy ow x.h.i).map (·.h.i)=(S.map (·.h.i)).filter (fy ow):=by
 rw[List.filter_map];rfl
theorem LL {st ah:LS} (e:ah.bx=st.bx):∀{l:List Bx},pE st l->pE ah l
 |[],_=>trivial
 |⟨_,_,_⟩::_,h=>⟨by rw[e];exact h.1,h.2.1,LL e h.2.2⟩
theorem LK {st ah:LS} (e:ah.vc=st.vc):∀{l:List Vc},pD st l->pD ah l
 |[],_=>trivial
 |⟨_,_,_,_,_,_⟩::_,h=>⟨by rw[e];exact h.1,h.2.1,LK e h.2.2⟩
theorem SX.still {x:SX} (hx:x.ok C st V) (hS:Sat C n st a V D w) (h1:pE st x.h.bx) (h2:pD st x.h.vc) (h3:af x.h.m st.m):x.cl C w:=by
 have hF:Sat C n ⟨[],[],st.bx,st.vc,st.nid,st.m⟩ a V D w:=
  ⟨⟨hS.f.defers,hS.f.size,fun e he=>(by cases he),fun t q s _ hl _=>(by cases hl),fun g hg=>(by cases hg)⟩,fun e he=>(by cases he),hS.w⟩
 have hM:Match ⟨[],[],st.bx,st.vc,st.nid,st.m⟩ ⟨[],[],x.h.bx,x.h.vc,x.nid,x.h.m⟩:=by
  refine⟨trivial,rfl,?_,?_,h3⟩
  ·exact LL (st:=st) (ah:=⟨[],[],st.bx,st.vc,st.nid,st.m⟩) rfl h1
  ·exact LK (st:=st) (ah:=⟨[],[],st.bx,st.vc,st.nid,st.m⟩) rfl h2
 exact⟨V,D,hx.step.agr,(hF.weaken hM hx.hd hx.b hx.v hx.m).w⟩
theorem VV (di:cw c P) {l:List Oper} {K:LS->Prop} {Q:Exit->Act->World->Prop} {listed:Array Bool} {S:List SX} {j f:Nat} {ow:List Nat} {r:Plan} (Ci:∀o∈l,j7 n o=true)
  (hj:j∈Region.ready .any ⟨l⟩ listed) (hH:(S.map (·.h.i)).all (fun i=>fy ow i||sR ⟨l⟩ l.length j i)=true)
  (h:aA (.mk (k:=fun o:Oper=>aA (.mk (k:=fun p:bj=>one (.mk (k:=(c,P,j,o,fun ah=>uL ah (mT ow (S.map (·.h)))/\ug c P l K r (mT ow (S.map (·.h))) ah)) (st,p))) (pathOf st o.guard))) (ov l j)))
  (hS:Sat C n st a V D w) (hR:RInv ⟨l⟩ (fun k=>listed.getD k false=true) st.rho) (hX:∀x∈S,x.ok C st V/\x.cl C w)
  (ih:∀ah a' V' D' w',ug c P l K r ((S.filter fun x=>fy ow x.h.i).map (·.h)) ah->Sat C n ah a' V' D' w' ->RInv ⟨l⟩ (fun k=>(listed.setIfInBounds j true).getD k false=true) ah.rho->
   (∀x∈S.filter (fun x=>fy ow x.h.i),x.ok C ah V' /\x.cl C w')->nR P ⟨l⟩ Q f (fun y=>∃x∈S.filter (fun x=>fy ow x.h.i),y=(x.h.i,x.cl C)) (listed.setIfInBounds j true) a' w'):
  wpOp P ⟨l⟩ Q j (fun a' w' =>(∀y,(∃x∈S,y=(x.h.i,x.cl C))->¬mB ⟨l⟩ j y.1->y.2 w')/\nR P ⟨l⟩ Q f (fun y=>(∃x∈S,y=(x.h.i,x.cl C))/\¬mB ⟨l⟩ j y.1) (listed.setIfInBounds j true) a' w') a w:=by
 obtain⟨o,ho,h⟩:=ax h;obtain⟨p,hp,h⟩:=ax h;have uV:l[j]? =some o:=ES ho;have ff:(⟨l⟩:Array Oper)[j]? =some o:=by simpa using uV
 have xu:=D6 (mem_ready.1 hj).1;have qN:∀x∈S,¬mB ⟨l⟩ j x.h.i->fy ow x.h.i=true:=fun x hx ew=>by
  have:=List.all_eq_true.1 hH x.h.i (List.mem_map.2 ⟨x,hx,rfl⟩);rcases Bool.or_eq_true_iff.1 this with h |h
  ·exact h
  ·exact absurd ⟨_,h⟩ ew
 unfold wpOp;simp only[ff];refine Iq hS di hR (by rw[xu];exact Bool.false_ne_true) ff (Ci o (List.mem_of_getElem? uV)) hp h fun ah a' V' D' w' ⟨ND,hK⟩ dQ rB eM=> ?_
 rw[DO] at ND hK;have CY:∀x∈S.filter (fun x=>fy ow x.h.i),x.ok C ah V' /\x.cl C w' :=fun x hx=>by
  have rh:=(hX x (List.mem_filter.1 hx).1).1;have ao:x.ok C ah V' :=⟨rh.step.trans eM,rh.hd,rh.b,rh.v,rh.m⟩;obtain⟨h1,h2,h3⟩:=KD ND x.h (List.mem_map.2 ⟨x,hx,rfl⟩);exact⟨ao,SX.still ao dQ h1 h2 h3⟩
 refine⟨?_,xH _ _ _ ?_ _ _ _ (ih ah a' V' D' w' hK dQ (rB.mono fun k hk=> ?_) CY)⟩
 ·rintro y ⟨x,hx,rfl⟩ ew;exact(CY x (List.mem_filter.2 ⟨hx,qN x hx ew⟩)).2
 ·rintro y ⟨⟨x,hx,rfl⟩,ew⟩;exact⟨x,List.mem_filter.2 ⟨hx,qN x hx ew⟩,rfl⟩
 ·rcases hk with hk |rfl
  ·exact getD_set_true hk
  ·exact Ks (Jm hj)
theorem Pm (di:cw c P) {l:List Oper} {K:LS->Prop} {Q:Exit->Act->World->Prop} (hQ0:∀c a w,¬Q (.panic c) a w) (hQ:∀ah a' w',K ah->jq C n ah a' w' ->Q .normal a' w')
  (Cf:Region.noSelect ⟨l⟩=true) (Ci:∀o∈l,j7 n o=true):
  ∀(pl:Plan) (fuel:Nat) (listed:Array Bool) (rem:Option (List Nat)) (st:LS) (a:Act) (V:Vl) (D:Nat->Nat) (w:World) (S:List SX),
   chk ⟨l⟩ pl fuel (S.map (·.h.i)) listed rem=true->AllClosed ⟨l⟩ listed->ug c P l K pl (S.map (·.h)) st->Sat C n st a V D w->RInv ⟨l⟩ (fun k=>listed.getD k false=true) st.rho->(∀x∈S,x.ok C st V/\x.cl C w)->
   match rem with
   |none=>nR P ⟨l⟩ Q fuel (fun y=>∃x∈S,y=(x.h.i,x.cl C)) listed a w
   |some R=>∀f,fuel=f+1->∀j∈R,wpOp P ⟨l⟩ Q j (fun a' w' =>(∀y,(∃x∈S,y=(x.h.i,x.cl C))->¬mB ⟨l⟩ j y.1->y.2 w')/\nR P ⟨l⟩ Q f (fun y=>(∃x∈S,y=(x.h.i,x.cl C))/\¬mB ⟨l⟩ j y.1) (listed.setIfInBounds j true) a' w') a w:=by
 intro pl;induction pl with
 |done=>
  intro fuel listed rem st a V D w S hc aU h hS hR hX;cases rem with
  |some R=>simp [chk] at hc
  |none=>
   simp only[chk,List.isEmpty_iff] at hc;have hq:=hQ _ _ _ h (Dl hS);cases fuel with
   |zero=>exact⟨hc,hq⟩
   |succ f=>exact⟨fun _=>hq,by rw[hc];intro j hj;cases hj⟩
 |stop=>
  intro fuel listed rem st a V D w S hc aU h hS hR hX;cases rem with
  |none=>simp [chk] at hc
  |some R=>
   simp only[chk,List.isEmpty_iff] at hc;subst hc;intro f _ j hj;cases hj
 |hoist i r ih=>
  intro fuel listed rem st a V D w S hc aU h hS hR hX;cases rem with
  |some R=>cases fuel<;>simp [chk] at hc
  |none=>
   cases fuel with
   |zero=>simp [chk] at hc
   |succ f=>
    simp only[chk,bB] at hc;obtain⟨⟨BT,cW⟩,hc⟩:=hc;have cW:i∈Region.ready .any ⟨l⟩ listed:=by simpa using cW
    obtain⟨o,ho,h⟩:=ax h;obtain⟨p,hp,h⟩:=ax h;have uV:l[i]? =some o:=ES ho;have ff:(⟨l⟩:Array Oper)[i]? =some o:=by simpa using uV
    have xu:=D6 (mem_ready.1 cW).1;obtain⟨v,x,ah,hxi,hy,hclw,ao,hn,hv,hK,dQ,rB⟩:=QQ hS hR (by rw[xu];exact Bool.false_ne_true) ff (Ci o (List.mem_of_getElem? uV)) hp h;refine hoist ff (Region.noSelect_spec Cf) hQ0 f _ listed a w (Region.free_spec ff BT) (aU i) cW hy hclw ?_ ?_
    ·rintro y ⟨z,hz,rfl⟩;exact(hX z hz).2
    ·have:=ih f (listed.setIfInBounds i true) none ah (a.put o.dst v) V D w (x::S) (by simp only[aG,hxi];exact hc) (aU.set cW) hK dQ (rB.mono fun k hk=>by
      rcases hk with hk |rfl
      ·exact getD_set_true hk
      ·exact Ks (Jm cW)) (fun z hz=>by
      rcases List.mem_cons.1 hz with rfl |hz
      ·exact⟨ao,hclw⟩
      ·obtain⟨h1,h2⟩:=hX z hz
       exact⟨⟨by rw[hn,hv];exact h1.step,h1.hd,h1.b,h1.v,h1.m⟩,h2⟩)
     refine xH _ _ _ ?_ _ _ _ this;rintro y (rfl |⟨z,hz,rfl⟩)
     ·exact⟨x,bN ..,by rw[hxi]⟩
     ·exact⟨z,bw _ hz,rfl⟩
 |alt j ow r nx ihr ihn=>
  intro fuel listed rem st a V D w S hc aU h hS hR hX;cases fuel with
  |zero=>cases rem<;>simp [chk] at hc
  |succ f=>
   obtain⟨h,hnx⟩:=h;have key:∀(hj:j∈Region.ready .any ⟨l⟩ listed) (hH:(S.map (·.h.i)).all (fun i=>fy ow i||sR ⟨l⟩ l.length j i)=true) (NN:chk ⟨l⟩ r f ((S.map (·.h.i)).filter (fy ow)) (listed.setIfInBounds j true) none=true),
     wpOp P ⟨l⟩ Q j (fun a' w' =>(∀y,(∃x∈S,y=(x.h.i,x.cl C))->¬mB ⟨l⟩ j y.1->y.2 w')/\nR P ⟨l⟩ Q f (fun y=>(∃x∈S,y=(x.h.i,x.cl C))/\¬mB ⟨l⟩ j y.1) (listed.setIfInBounds j true) a' w') a w:=by
    intro hj hH NN;refine VV di Ci hj hH h hS hR hX fun ah a' V' D' w' hK dQ rB CY=> ?_
    exact ihr f (listed.setIfInBounds j true) none ah a' V' D' w' (S.filter fun x=>fy ow x.h.i) (by rw[S5];exact NN) (aU.set hj) hK dQ rB CY
   cases rem with
   |none=>
    simp only[chk,bB] at hc;obtain⟨⟨⟨h1,h2⟩,h3⟩,h4⟩:=hc;have hj:j∈Region.ready .any ⟨l⟩ listed:=by simpa using h1
    have yW:=ihn (f+1) listed (some _) st a V D w S h4 aU hnx hS hR hX f rfl;refine⟨fun h0=>(by rw[h0] at hj;cases hj),fun k hk=> ?_⟩;by_cases e:k=j
    ·subst e;exact key hj h2 h3
    ·exact yW k (List.mem_filter.2 ⟨hk,by simpa using e⟩)
   |some R=>
    simp only[chk,bB] at hc;obtain⟨⟨⟨⟨h0,h1⟩,h2⟩,h3⟩,h4⟩:=hc;have hj:j∈Region.ready .any ⟨l⟩ listed:=by simpa using h1
    have yW:=ihn (f+1) listed (some _) st a V D w S h4 aU hnx hS hR hX f rfl;rintro f' e k hk;obtain rfl:f=f' :=Nat.succ.inj e;by_cases e:k=j
    ·subst e;exact key hj h2 h3
    ·exact yW k (List.mem_filter.2 ⟨hk,by simpa using e⟩)
theorem bZ (pl:Plan) (di:cw c P) {id:Nat} {l:List Oper} {Q:Exit->LS->Prop} {st:LS} (hm:P.follows .mixedOrders=true)
  (hc:(chk ⟨l⟩ pl l.length [] (Array.replicate l.length false) none&&Region.noSelect ⟨l⟩&&l.all (j7 n))=true)
  (h:sV (.mk (k:=(c,P,l,Q .normal,pl,[])) st)):jR (.mk (k:=(P,n,.region id ⟨l⟩ true,Q)) st):=by
 simp only[bB] at hc;obtain⟨⟨hc,hns⟩,hd⟩:=hc;rintro C a w ⟨eD,V,D,hS⟩;refine wp_mono (Q:=fun e a' w' =>match e with | .normal=>∃ah,jq C n ah a' w' /\Q .normal ah |_=>False) (wp_region_any hm (Hy _ (fun y=>∃x∈([]:List SX),y=(x.h.i,x.cl C)) _ _ _ ?_)) ?_
 ·refine Pm di (K:=Q .normal) (fun _ _ _ h=>h) (fun ah a' w' hq hE=>⟨ah,hE,hq⟩) hns (fun o ho=>List.all_eq_true.1 hd o ho) pl l.length (Array.replicate l.length false) none st a V D _ [] hc ?_ h
   ⟨hS.f,hS.ids,hS.w.drew _⟩ ?_ (fun x hx=>by cases hx)
  ·intro i k hk;exfalso;rcases Nat.lt_or_ge k l.length with h' |h'
   ·simp [h'] at hk
   ·simp [Nat.not_lt.2 h'] at hk
  ·rw[eD];intro g hg;cases hg
 ·intro e a' w' hq;cases e with
  |normal=>exact hq
  |_=>exact False.elim hq
end
section
variable {c:Cfg} {P:Program} {l:List Oper} {K:LS->Prop} {I:List HX} {st:LS}
theorem Rt:sV (.mk (k:=(c,P,l,K,Plan.done,I)) st)=K (clean st):=rfl
theorem Rs:sV (.mk (k:=(c,P,l,K,Plan.stop,I)) st)=True:=rfl
theorem PW {i:Nat} {r:Plan}:sV (.mk (k:=(c,P,l,K,Plan.hoist i r,I)) st)=
  aA (.mk (k:=fun o:Oper=>aA (.mk (k:=fun p:bj=>eM (.mk (k:=(c,P,o,i,fun ah X=>sV (.mk (k:=(c,P,l,K,r,X::I)) ah))) (st,p))) (pathOf st o.guard))) (ov l i)):=rfl
theorem TQ {j:Nat} {ow:List Nat} {r nx:Plan}:sV (.mk (k:=(c,P,l,K,Plan.alt j ow r nx,I)) st)=
  (aA (.mk (k:=fun o:Oper=>aA (.mk (k:=fun p:bj=>one (.mk (k:=(c,P,j,o,fun ah=>uL ah (mT ow I)/\sV (.mk (k:=(c,P,l,K,r,mT ow I)) ah))) (st,p))) (pathOf st o.guard))) (ov l j))/\
   sV (.mk (k:=(c,P,l,K,nx,I)) st)):=rfl
end
theorem WW {x:ByteArray}:(Value.string x).oneCell' =true:=rfl
theorem WY {k:IntKind} {x:Int}:(Value.int k x).oneCell' =true:=rfl
theorem Us {x:Bool}:(Value.bool x).oneCell' =true:=rfl
theorem WX {x:Option Addr}:(Value.pointer x).oneCell' =true:=rfl
theorem Y6 {x:Option Addr} {n c:Nat}:(Value.slice x n c).oneCell' =true:=rfl
attribute [go_sem] WW WY Us WX Y6
attribute [go_sem] eM.eq_1 Ce.eq_1 Ce.eq_2 uc.eq_1 uc.eq_2 uc.rdIds1.eq_1 uc.rdIds1.eq_2 jb.eq_1 jb.eq_2 jb.eq_3 jb.eq_4 jb.eq_5 jb.eq_6 jb.eq_7 jb.eq_8 jb.eq_9 jb.eq_10 jb.eq_11 jb.eq_12 jb.eq_13 jb.eq_14 jb.eq_15 jb.eq_16 jb.eq_17 Rt Rs PW TQ ov.eq_1 ov.eq_2 ov.eq_3 mT.eq_1 mT.eq_2 uL.eq_1 uL.eq_2
theorem least {J:Nat->Prop}:∀n,J n->∃k,J k/\∀j,j<k->¬J j:=by
 intro n;induction n using Nat.strongRecOn with
 |_ n ih=>
  intro h;by_cases hj:∃j,j<n/\J j
  ·obtain⟨j,aj,hJ⟩:=hj;exact ih j aj hJ
  ·exact⟨n,h,fun j aj hJ=>hj ⟨j,aj,hJ⟩⟩
section
variable {P:Program} {a:Act} {w:World} {Q:Exit->Act->World->Prop}
end
section
variable {P:Program} {n:Nat} {c:Cfg} {st:LS}
def Ng (Q:Exit->LS->Prop):Exit->LS->Prop
 | .goto _,_=>False
 |e,st=>Q e st
theorem yk {x:Code} {Q:Exit->LS->Prop} (t:Nat) (e:TypeId) (sz:Nat) (h0:0<sz) (hl:dX st.env t []=some (.v (.slice none 0 0)))
  (h:jR (.mk (k:=(P,n,x,Q)) ⟨⟨t,[],.vec st.nid 0⟩::st.env,st.rho,st.bx,⟨st.nid,0,e,sz,0,[]⟩::st.vc,st.nid+1,st.m⟩)):jR (.mk (k:=(P,n,x,Q)) st):=by
 rintro C a w ⟨eD,V,D,hS⟩;obtain⟨V',ha,hγ,hW⟩:=hS.w.addVc (w' :=w) (hd:=⟨none,0,0⟩) (e:=e) (sz:=sz) (n:=0) (xs:=[]) rfl rfl rfl (aC _) (fun _ _=>rfl) (World.ownsRow_nil w 0 e sz) (fun g hg=>by cases hg) h0 (fun u hu=>by cases hu);have dQ:Sat C n _ a V' D w:=hS.to ha (Nat.le_succ _) (fun k u hk hv=>pX rfl k u hk hv) hW;refine h C a w ⟨eD,V',D,⟨dQ.f.defers,dQ.f.size,fun e' oD=> ?_,fun t' q s' hq lq hc=> ?_,dQ.f.rho⟩,fun e' oD=> ?_,hW⟩
 ·rcases List.mem_cons.1 oD with rfl |oD
  ·exact nM
  ·exact dQ.f.pth e' oD
 ·simp only[dX] at lq;split at lq
  ·rename_i ht;subst ht;split at lq
   ·cases lq;have:=hS.f.env t [] _ nM hl rfl;rw[this];show some (Value.slice none 0 0)=some (Hd.val (V'.γ st.nid 0));rw[hγ];rfl
   ·cases lq
  ·exact dQ.f.env t' q s' hq lq hc
 ·rcases List.mem_cons.1 oD with rfl |oD
  ·exact⟨Nat.lt_succ_self _,by simp [ba]⟩
  ·exact dQ.ids e' oD
end
attribute [go_sem] Ng.eq_1 Ng.eq_2
end Go.Proofs.YtmdokbohofchgaaGreatDoor.E
namespace Go.Proofs
open Go.Shelf
def Tryz.lays137_ren:Go.Shelf.Ren:=⟨fun |137=>269 |217=>286 |266=>288 |n=>n,fun |9=>9 |5=>5 |3=>3 |n=>n,fun |n=>n⟩
theorem Tryz.lays137:Go.Proofs.Lays.n137 Tryz.prog Tryz.lays137_ren:={
 mixed:=by kernel_rfl
 f137:=Tryz.func269.trans (congrArg some (by kernel_rfl))
 f217:=Tryz.func286.trans (congrArg some (by kernel_rfl))
 f266:=Tryz.func288.trans (congrArg some (by kernel_rfl))
 t3:=Tryz.underlying3
 a3:=Tryz.isAgg3
 z3:=Tryz.sizeOf3
 v3:=Tryz.zeroValue3
 t5:=Tryz.underlying5
 a5:=Tryz.isAgg5
 z5:=Tryz.sizeOf5
 v5:=Tryz.zeroValue5
 t9:=Tryz.underlying9
 a9:=Tryz.isAgg9
 z9:=Tryz.sizeOf9
 v9:=Tryz.zeroValue9}
open Go.RowKit in
theorem Tryz.strings_IndexByte (s:ByteArray) (c:Int) (w:World):
  Calls Tryz.prog 269 #[.string s,.int .u8 c] w fun e w' =>e= .returned (.int .i64 (Lib.indexByte s.data.toList c.toNat.toUInt8))/\w' =w:=Any.strings_IndexByte Tryz.lays137 s c w
end Go.Proofs
namespace Go.Proofs.YtmdokbohofchgaaGreatDoor.E
open Go Go.RowKit
attribute [go_sem] or_true or_false true_or false_or cv exists_eq_left exists_eq_left' true_implies true_and and_true Bool.and_true Bool.true_and Bool.or_false Bool.false_or Bool.not_true Bool.not_false Bool.and_false Bool.false_and fv List.nil_append List.append_nil Sq Fg List.getElem?_cons_zero List.getElem?_cons_succ eq_self implies_true false_implies cE decide_eq_false_iff_not bB Bool.or_eq_true Bool.not_eq_true' Bool.and_eq_false_iff Bool.or_eq_false_iff Bool.not_eq_false' SV.v.injEq Value.int.injEq Value.bool.injEq Value.string.injEq List.contains_cons List.contains_nil beq_self_eq_true Nat.max_def Int.toNat_natCast Nat.mul_one Int.toNat_zero List.drop_zero Bx.mk.injEq Vc.mk.injEq List.cons.injEq List.take_length List.getElem?_nil List.getD_cons_zero List.getD_cons_succ not_false_eq_true aC Nat.reduceBEq Nat.reduceAdd Nat.reduceMul Nat.reduceSub Nat.reduceEqDiff Nat.reduceLT Nat.reduceLeDiff Option.map Option.bind List.map List.length reduceCtorEq Option.toList Option.getD List.set List.drop List.take Int.reduceToNat
def cf0:Cfg:=⟨fun _=>false,fun _=>none⟩
theorem xe {P:Program}:cw cf0 P:=fun f F h=>by cases h
def jw (c:Int):Bool:=decide (97<=c)&&decide (c<=122)||decide (65<=c)&&decide (c<=90)||decide (c=95)||decide (c=36)
def qd (c:Int):Bool:=decide (48<=c)&&decide (c<=57)
def zM (F:Int->Bool):List Value->Option (Prop×Value)
 |[.int .u8 c]=>some (True,.bool (F c))
 |_=>none
theorem Se {F:Int->Bool} {l:List Value} {y:Prop×Value} (h:zM F l=some y):∃c,l=[.int .u8 c]/\y=(True,.bool (F c)):=by
 unfold zM at h;split at h
 ·cases h;exact⟨_,rfl,rfl⟩
 ·cases h
theorem abV:cH Tryz.prog 9=some none:=by kernel_rfl
theorem abY:cH Tryz.prog 3=some none:=by kernel_rfl
theorem aax:Tryz.prog.underlying 9=some .string:=by kernel_rfl
attribute [go_sem] abV abY aax zM.eq_1
theorem Zu:eo Tryz.prog 28=some 9:=by kernel_rfl
theorem sz9:aM Tryz.prog 9=1:=by kernel_rfl
theorem by9:iP Tryz.prog 9=16:=by kernel_rfl
theorem Yv:cY Tryz.prog 9=some [.v (.string (bs []))]:=by kernel_rfl
theorem sz3:aM Tryz.prog 3=1:=by kernel_rfl
attribute [go_sem] Zu sz9 by9 Yv sz3
abbrev bb:Cfg:=eZ (fun _=>false) []
theorem aq:cw bb Tryz.prog:=pure_nil
def strs (l:List (List UInt8)):List Value:=l.map fun b=> .string (bs b)
theorem E3 {m:Mem} {a:Option Addr} {n:Nat} {xs:List Value} (h:aw m a n 1 xs) {i:Nat} (hi:i<n):∃hx:i<xs.length,Rd m (bk a i) [xs[i]]/\a≠none:=by
 have hl:xs.length=n:=by rw[h.1,Nat.mul_one]
 refine⟨by omega,?_,?_⟩
 ·obtain⟨ad,rfl,hs,hc⟩:=h.2 (by omega);obtain⟨e1,e2,e3⟩:=kU ad i hs;refine⟨ad.add i,rfl,e3,fun j hj=> ?_⟩;obtain rfl:j=0:=by simp at hj;omega
  obtain⟨h1,h2⟩:=hc i (by omega);refine⟨?_,by rw[e1,e2];exact h2⟩;rw[show(ad.add i).add 0=ad.add i from rfl,h1];simp [hl,hi]
 ·obtain⟨ad,rfl,_⟩:=h.2 (by omega);simp
theorem RL {l:List (List UInt8)} {s:List UInt8} {k:Nat} (h:k<l.length):(l.take (k+1)).contains s=((l.take k).contains s||decide (s=l[k])):=by
 rw[List.take_succ_eq_append_getElem h,Bool.eq_iff_iff];simp only[List.contains_iff_mem,List.mem_append,List.mem_singleton,Bool.or_eq_true,cE]
theorem index_spec (l:List (List UInt8)) (s:List UInt8) (a:Option Addr) (n c:Nat) (m:Mem) (h:aw m a n 1 (strs l)) (hn:n<=4611686018427387904):
  FnH Tryz.prog 185 [.v (.slice a n c),.v (.string (bs s))] ⟨[],[]⟩ m fun r H' _=>(∃i:Int,r= .v (.int .i64 i)/\(decide (0<=i)=l.contains s))/\H' =⟨[],[]⟩:=by
 have hl:l.length=n:=by have:=h.1;simpa [strs] using this
 refine br xe Tryz.func185 ?_
 ·simp only[go_sem];refine gC xe (fun k:Nat=>⟨[⟨0,[],.v (.slice a n c)⟩,⟨1,[],.v (.string (bs s))⟩,⟨7,[],.v (.int .i64 n)⟩,⟨8,[],.v (.int .i64 k)⟩],[],[],[],0,m⟩)
   (fun k=>k<=n/\(l.take k).contains s=false) (fun k=>n - k) 0 (fun _ _=>aC _) (fun _ _=> .inl rfl) ?_ ?_ ?_
  ·simp only[go_sem];rfl
  ·simp
  ·rintro k ⟨hk,hp⟩;simp only[go_sem];refine⟨fun aj=> ?_,fun gj=> ?_⟩
   ·have ru:k<n:=by omega
    obtain⟨hx,hr,b9⟩:=E3 h ru;refine⟨⟨by omega,aj,b9⟩,_,by simpa using hr,?_⟩;have eO:k<l.length:=by omega
    have e:(strs l)[k]= .string (bs l[k]):=by simp [strs]
    have ec:=RL (s:=s) eO;simp only[e];simp only[go_sem];refine⟨fun he=> ?_,fun he=>⟨by unfold az;omega,k+1,by omega,⟨by omega,?_⟩,by omega⟩⟩
    ·have:s∈l:=by rw[he];exact List.getElem_mem eO
     simp [this]
    ·rw[ec,hp];simp [he]
   ·have:l.take k=l:=jS (by omega);rw[this] at hp;rw[hp];rfl
theorem vn (l:List (List UInt8)) (s:List UInt8) (a:Option Addr) (n c:Nat) (m:Mem) (h:aw m a n 1 (strs l)) (hn:n<=4611686018427387904):
  FnH Tryz.prog 98 [.v (.slice a n c),.v (.string (bs s))] ⟨[],[]⟩ m fun r H' _=>r= .v (.bool (l.contains s))/\H' =⟨[],[]⟩:=by
 refine br aq Tryz.func98 ?_
 ·simp only[go_sem];refine ai ((index_spec l s a n c m h hn).mono ?_);rintro r H' m' hm ⟨⟨i,rfl,hi⟩,rfl⟩;simp only[go_sem];exact hi
def vF:List (List UInt8):=[[97,98,115,116,114,97,99,116],[97,115],[99,97,116,99,104],[99,108,97,115,115],[101,108,115,101],[101,120,116,101,110,100,115],[102,105,110,97,108],[105,102],[105,109,112,108,101,109,101,110,116,115],[105,110,116],[105,110,116,101,114,102,97,99,101],[105,115],[108,101,110],[108,111,110,103],[110,101,119],[110,117,108,108],[112,114,105,118,97,116,101],[112,114,111,116,101,99,116,101,100],[112,117,98,108,105,99],[114,101,116,117,114,110],[115,116,97,116,105,99],[115,117,112,101,114],[115,121,110,99],[116,104,105,115],[116,104,114,111,119],[116,114,121],[118,111,105,100],[119,104,105,108,101]]
def Wu:List (List UInt8):=[[62,62,62],[60,60],[62,62],[61,61],[33,61],[60,61],[62,61],[38,38],[124,124],[123],[125],[40],[41],[91],[93],[59],[44],[46],[61],[43],[45],[42],[47],[37],[38],[124],[94],[33],[60],[62]]
theorem Og (m:Mem):FnH Tryz.prog 215 [] ⟨[],[]⟩ m fun r H' m' =>r= .vec 0 0/\H' =⟨[],[⟨0,0,9,1,28,strs vF⟩]⟩/\m' =m:=by
 refine br aq Tryz.func215 ?_
 ·simp only[go_sem];rfl
def iJ (B:List UInt8->Prop) (F:List UInt8->Value):List Value->Option (Prop×Value)
 |[.string a]=>some (B (tl a),F (tl a))
 |_=>none
attribute [go_sem] iJ.eq_1
def wG (P:Program) (f:FuncId) (G:List Value->Option (Prop×Value)):Prop:=∀aO y,G aO=some y->y.1->∀m,FnH P f (aO.map SV.v) ⟨[],[]⟩ m (fun r H' _=>r= .v y.2/\H' =⟨[],[]⟩)
theorem YX {P:Program} {f:FuncId} {F:Int->Bool} (h:∀c m,FnH P f [.v (.int .u8 c)] ⟨[],[]⟩ m fun r H' _=>r= .v (.bool (F c))/\H' =⟨[],[]⟩):wG P f (zM F):=fun aO y hy _ m=>by
 obtain⟨c,rfl,rfl⟩:=Se hy;exact h c m
theorem jZ {P:Program} {f:FuncId} {B:List UInt8->Prop} {F:List UInt8->Value} (h:∀a m,B a->FnH P f [.v (.string (bs a))] ⟨[],[]⟩ m fun r H' _=>r= .v (F a)/\H' =⟨[],[]⟩):wG P f (iJ B F):=fun aO y hy hB m=>by
 unfold iJ at hy;split at hy
 ·rename_i a;cases hy;have:=h (tl a) m hB;rwa [eY] at this
 ·cases hy
def rY (c:Int):Int:=if jw c then 1 else if qd c then 2 else 0
theorem Rb (c:Int):rY c=if 97<=c/\c<=122\/65<=c/\c<=90\/c=95\/c=36 then 1 else if 48<=c/\c<=57 then 2 else 0:=by
 simp [rY,jw,qd,or_assoc]
theorem PE (c:Int) (m:Mem):FnH Tryz.prog 273 [.v (.int .u8 c)] ⟨[],[]⟩ m fun r H' _=>r= .v (.int .i64 (rY c))/\H' =⟨[],[]⟩:=by
 refine br aq Tryz.func273 ?_
 ·simp only[go_sem];rw[Rb];split
  ·omega
  ·split<;>omega
def Cz (F:Int->Value):List Value->Option (Prop×Value)
 |[.int .u8 c]=>some (True,F c)
 |_=>none
attribute [go_sem] Cz.eq_1
theorem WH {P:Program} {f:FuncId} {F:Int->Value} (h:∀c m,FnH P f [.v (.int .u8 c)] ⟨[],[]⟩ m fun r H' _=>r= .v (F c)/\H' =⟨[],[]⟩):wG P f (Cz F):=fun aO y hy _ m=>by
 unfold Cz at hy;split at hy
 ·cases hy;exact h _ m
 ·cases hy
theorem DV (c:Int):rY c=1↔jw c=true:=by
 unfold rY;split
 ·simp_all
 ·split<;>simp_all
theorem IU (c:Int):rY c=2↔¬jw c=true/\qd c=true:=by
 unfold rY;split
 ·simp_all
 ·split<;>simp_all
def eR:Bool->List UInt8->Bool
 |start,[]=> !start
 |start,c::r=>if c.toNat=47/\start=false then eR true r else if jw c.toNat=true\/(qd c.toNat=true/\start=false) then eR false r else false
def ie (s:List UInt8):Bool:=decide (s.length<=64)&&eR true s
abbrev N0:Cfg:=eZ (fun _=>false) [(273,Cz fun c=> .int .i64 (rY c))]
theorem Nc:cw N0 Tryz.prog:=pure_cons (by kernel_rfl) (WH PE) pure_nil
theorem vT {s:List UInt8} {k:Nat} (h:k<s.length):s.drop k=s.getD k 0::s.drop (k+1):=by
 rw[List.drop_eq_getElem_cons h,List.getD_eq_getElem?_getD,List.getElem?_eq_getElem h];rfl
theorem Hn (s:List UInt8) (m:Mem) (hs:s.length<=4611686018427387904):FnH Tryz.prog 227 [.v (.string (bs s))] ⟨[],[]⟩ m fun r H' _=>r= .v (.bool (ie s))/\H' =⟨[],[]⟩:=by
  refine enter N0 Nc Tryz.func227 rfl rfl (by kernel_rfl) rfl ?_ ?_
  · simp only[go_sem]
  · simp only[go_sem]
    refine⟨fun h=> ?_,fun h=> ?_⟩
    · rcases h with rfl |h
      · rfl
      · have:¬s.length<=64:=by omega
        simp [ie,this]
    · refine cq Nc (fun x:Nat×Bool=>⟨[⟨0,[],.v (.string (bs s))⟩,⟨3,[],.v (.bool x.2)⟩,⟨14,[],.v (.int .i64 s.length)⟩,⟨15,[],.v (.int .i64 x.1)⟩],[],[],[],0,m⟩)
        (fun x=>x.1<=s.length/\eR true s=eR x.2 (s.drop x.1)) (fun x=>s.length - x.1) (0,true) (by kernel_rfl) (fun _ _=>aC _) (fun _ _=> .inl rfl) (fun _=> ?_) ?_ ?_ ?_
      · simp only[go_sem]
      · simp only[go_sem]
        rfl
      · simp
      · rintro⟨k,st⟩ ⟨hk,hp⟩
        simp only at hk hp;simp only[go_sem];have hN:ie s=eR true s:=by
          have:s.length<=64:=by omega
          simp [ie,this]
        rw[hN];refine⟨fun aj=> ?_,fun gj=> ?_⟩
        · have eO:k<s.length:=by omega
          rw[vT eO] at hp;simp only[eR] at hp;have hI:az (k+1):=by unfold az;omega
          refine⟨⟨by omega,aj⟩,⟨by omega,aj⟩,fun h1=>⟨hI,(k+1,true),⟨rfl,rfl⟩,⟨eO,?_⟩,by simp only;omega⟩,fun h1=>⟨fun h2=>⟨fun _=>⟨hI,(k+1,false),⟨rfl,rfl⟩,⟨eO,?_⟩,by simp only;omega⟩,fun h3=>absurd h2 h3⟩,
            fun h2=>⟨fun h3=>⟨hI,(k+1,false),⟨rfl,rfl⟩,⟨eO,?_⟩,by simp only;omega⟩,fun h3=> ?_⟩⟩⟩
          · rw[hp,ak ⟨by omega,h1.2⟩]
          · rw[hp,ae (by rintro⟨e,e'⟩;rcases h1 with h1 |h1;· omega
                         · rw[e'] at h1;cases h1),ak (.inl ((DV _).1 h2))]
          · rw[hp,ae (by rintro⟨e,e'⟩;rcases h1 with h1 |h1;· omega
                         · rw[e'] at h1;cases h1),ak (.inr ⟨((IU _).1 h3.1).2,h3.2⟩)]
          · rw[hp,ae (by rintro⟨e,e'⟩;rcases h1 with h1 |h1;· omega
                         · rw[e'] at h1;cases h1),ae]
            rintro(e |⟨e,e'⟩)
            · exact h2 ((DV _).2 e)
            · rcases h3 with h3 |h3
              · exact h3 ((IU _).2 ⟨fun x=>h2 ((DV _).2 x),e⟩)
              · rw[e'] at h3;cases h3
        · rw[hp,List.drop_of_length_le (by omega)]
          rfl
theorem Oq (c:Int) (m:Mem):FnH Tryz.prog 260 [.v (.int .u8 c)] ⟨[],[]⟩ m fun r H' _=>r= .v (.bool (jw c))/\H' =⟨[],[]⟩:=by
 refine br aq Tryz.func260 ?_
 ·simp only[go_sem];rfl
def qz (c:UInt8):Bool:=jw c.toNat||qd c.toNat
def oR:List UInt8->Bool
 |[]=>false
 |c::r=>jw c.toNat&&r.all qz
theorem Fa:∀(p r:List UInt8),(∀c∈p,c.toNat≠47)->eR false (p++r)=(p.all qz&&eR false r)
 |[],r,_=>by simp
 |c::p,r,h=>by
  have h1:=h c (bN ..);have ih:=Fa p r fun x hx=>h x (bw _ hx)
  simp only[fv,eR,List.all_cons,qz];rw[ae (fun e=>h1 e.1)];cases e1:jw c.toNat<;>cases e2:qd c.toNat<;>simp [ih]
theorem Uu (p r:List UInt8) (h:∀c∈p,c.toNat≠47):eR true (p++47::r)=(oR p&&eR true r):=by
 cases p with
 |nil=>simp [eR,oR,jw,qd]
 |cons c p=>
  have h1:=h c (bN ..);have ih:=Fa p (47::r) fun x hx=>h x (bw _ hx)
  simp only[fv,eR,oR];rw[ae (fun e=>h1 e.1),ih];cases e1:jw c.toNat<;>simp [eR]
theorem Uv (p:List UInt8) (h:∀c∈p,c.toNat≠47):eR true p=oR p:=by
 cases p with
 |nil=>rfl
 |cons c p=>
  have h1:=h c (bN ..);have ih:=Fa p [] fun x hx=>h x (bw _ hx)
  rw[List.append_nil] at ih;simp only[eR,oR];rw[ae (fun e=>h1 e.1),ih];cases e1:jw c.toNat<;>simp [eR]
abbrev cf4:Cfg:=eZ (fun _=>false) [(260,zM jw)]
theorem Nb:cw cf4 Tryz.prog:=pure_cons (by kernel_rfl) (YX Oq) pure_nil
theorem Pp (s:List UInt8) (m:Mem) (hs:s.length<=4611686018427387904):FnH Tryz.prog 183 [.v (.string (bs s))] ⟨[],[]⟩ m fun r H' _=>r= .v (.bool (oR s))/\H' =⟨[],[]⟩:=by
 refine br Nb Tryz.func183 ?_
 ·simp only[go_sem];refine gC Nb (fun k:Nat=>⟨[⟨0,[],.v (.string (bs s))⟩,⟨3,[],.v (.int .i64 k)⟩],[],[],[],0,m⟩)
    (fun k=>k<=s.length/\(k=0\/oR s=(s.drop k).all qz)) (fun k=>s.length - k) 0 (fun _ _=>aC _) (fun _ _=> .inl rfl) ?_ ?_ ?_
  ·simp only[go_sem];rfl
  ·simp
  ·rintro k ⟨hk,hp⟩;simp only[go_sem];have ao:∀x:UInt8,qz x=true↔jw x.toNat=true\/¬(x.toNat:Int)<48/\¬57<(x.toNat:Int):=fun x=>by
    simp [qz,qd]
   have iN:k=0->k<s.length->oR s=(jw (s.getD k 0).toNat&&(s.drop (k+1)).all qz):=by
    rintro rfl aj;have:=vT aj;rw[List.drop_zero] at this;rw[this];rfl
   refine⟨fun aj=>⟨⟨by omega,aj⟩,fun _=>⟨by omega,aj⟩,fun _=>⟨by omega,aj⟩,fun h=> ?_,fun h=>⟨by unfold az;omega,k+1,by omega,⟨by omega,.inr ?_⟩,by omega⟩⟩,fun gj=> ?_⟩
   ·have eO:k<s.length:=by omega
    rcases Nat.eq_zero_or_pos k with h0 |h0
    ·rw[iN h0 eO,h.1];rfl
    ·rcases hp with hp |hp
     ·omega
     ·rw[hp,vT eO,List.all_cons];have:qz (s.getD k 0)=false:=by
       rw[Bool.eq_false_iff];intro e;rcases(ao _).1 e with e |e
       ·rw[e] at h;cases h.1
       ·omega
      rw[this];rfl
   ·have eO:k<s.length:=by omega
    rcases Nat.eq_zero_or_pos k with h0 |h0
    ·rw[iN h0 eO];have:jw (s.getD k 0).toNat=true:=by
      rcases h with h |h
      ·exact h
      ·omega
     rw[this];rfl
    ·rcases hp with hp |hp
     ·omega
     ·rw[hp,vT eO,List.all_cons]
      have:qz (s.getD k 0)=true:=(ao _).2 (by
       rcases h with h |h
       ·exact .inl h
       ·exact .inr ⟨h.1.2,h.2⟩)
      rw[this];rfl
   ·rcases Nat.eq_zero_or_pos s.length with h0 |h0
    ·rw[List.eq_nil_of_length_eq_zero h0];rfl
    ·rcases hp with hp |hp
     ·omega
     ·rw[hp,List.drop_of_length_le (by omega)];simpa using h0
def gn (s:List UInt8) (c:Int):Nat->Int
 |0=> -1
 |k+1=>if((s.getD k 0).toNat:Int)=c then k else gn s c k
theorem lastIdx_spec (s:List UInt8) (c:Int) (m:Mem) (hs:s.length<=4611686018427387904):FnH Tryz.prog 289 [.v (.string (bs s)),.v (.int .u8 c)] ⟨[],[]⟩ m fun r H' _=>r= .v (.int .i64 (gn s c s.length))/\H' =⟨[],[]⟩:=by
 refine br aq Tryz.func289 ?_
 ·simp only[go_sem];refine⟨by unfold az;omega,?_⟩;refine gC aq (fun k:Nat=>⟨[⟨0,[],.v (.string (bs s))⟩,⟨1,[],.v (.int .u8 c)⟩,⟨5,[],.v (.int .i64 (k - 1))⟩],[],[],[],0,m⟩)
    (fun k=>k<=s.length/\gn s c s.length=gn s c k) (fun k=>k) s.length (fun _ _=>aC _) (fun _ _=> .inl rfl) ?_ ?_ ?_
  ·simp only[go_sem]
  ·simp
  ·rintro k ⟨hk,hp⟩;simp only[go_sem];refine⟨fun h0=>⟨⟨h0,by omega⟩,fun h=> ?_,fun h=>⟨by unfold az;omega,k - 1,by omega,⟨by omega,?_⟩,by omega⟩⟩,fun h=> ?_⟩
   ·obtain⟨k,rfl⟩:∃j,k=j+1:=⟨k - 1,by omega⟩;have e:((k+1:Nat):Int) - 1=k:=by omega
    rw[e,Int.toNat_natCast] at h;rw[e];rw[hp];simp only[gn];rw[ak h]
   ·obtain⟨k,rfl⟩:∃j,k=j+1:=⟨k - 1,by omega⟩;have e:((k+1:Nat):Int) - 1=k:=by omega
    rw[e,Int.toNat_natCast] at h;rw[hp];simp only[gn];rw[ae h];rfl
   ·obtain rfl:k=0:=by omega
    rw[hp];rfl
theorem Ox (s:List UInt8) (m:Mem) (hs:s.length<=4611686018427387904):FnH Tryz.prog 280 [.v (.string (bs s))] ⟨[],[]⟩ m fun r H' _=>r= .v (.int .i64 (gn s 47 s.length))/\H' =⟨[],[]⟩:=by
 refine br aq Tryz.func280 ?_
 ·simp only[go_sem];refine⟨by unfold az;omega,?_⟩;refine gC aq (fun k:Nat=>⟨[⟨0,[],.v (.string (bs s))⟩,⟨3,[],.v (.int .i64 (k - 1))⟩],[],[],[],0,m⟩)
    (fun k=>k<=s.length/\gn s 47 s.length=gn s 47 k) (fun k=>k) s.length (fun _ _=>aC _) (fun _ _=> .inl rfl) ?_ ?_ ?_
  ·simp only[go_sem]
  ·simp
  ·rintro k ⟨hk,hp⟩;simp only[go_sem];refine⟨fun h0=>⟨⟨h0,by omega⟩,fun h=> ?_,fun h=>⟨by unfold az;omega,k - 1,by omega,⟨by omega,?_⟩,by omega⟩⟩,fun h=> ?_⟩
   ·obtain⟨k,rfl⟩:∃j,k=j+1:=⟨k - 1,by omega⟩;have e:((k+1:Nat):Int) - 1=k:=by omega
    rw[e,Int.toNat_natCast] at h;rw[e];rw[hp];simp only[gn];rw[ak h]
   ·obtain⟨k,rfl⟩:∃j,k=j+1:=⟨k - 1,by omega⟩;have e:((k+1:Nat):Int) - 1=k:=by omega
    rw[e,Int.toNat_natCast] at h;rw[hp];simp only[gn];rw[ae h];rfl
   ·obtain rfl:k=0:=by omega
    rw[hp];rfl
theorem Of (s:List UInt8) (c:Int) (m:Mem) (hs:s.length<=4611686018427387904):FnH Tryz.prog 287 [.v (.string (bs s)),.v (.int .u8 c)] ⟨[],[]⟩ m fun r H' _=>r= .v (.int .i64 (gn s c s.length))/\H' =⟨[],[]⟩:=by
 refine br aq Tryz.func287 ?_
 ·simp only[go_sem];refine ai ((lastIdx_spec s c m hs).mono ?_);rintro r H' m' hm ⟨rfl,rfl⟩;simp only[go_sem]
theorem O0 (s:List UInt8) (m:Mem) (hs:s.length<=4611686018427387904):FnH Tryz.prog 274 [.v (.string (bs s))] ⟨[],[]⟩ m fun r H' _=>r= .v (.int .i64 (gn s 47 s.length))/\H' =⟨[],[]⟩:=by
 refine br aq Tryz.func274 ?_
 ·simp only[go_sem];refine ai ((Of s 47 m hs).mono ?_);rintro r H' m' hm ⟨rfl,rfl⟩;simp only[go_sem]
theorem AV (s:List UInt8) (c:Int):∀k,-1<=gn s c k/\gn s c k<k
 |0=>⟨by simp [gn],by simp [gn]⟩
 |k+1=>by
  obtain⟨h1,h2⟩:=AV s c k;simp only[gn];split<;>omega
def rO (s:List UInt8):List UInt8:=s.drop (gn s 47 s.length+1).toNat
theorem Oy (s:List UInt8) (m:Mem) (hs:s.length<=4611686018427387904):FnH Tryz.prog 228 [.v (.string (bs s))] ⟨[],[]⟩ m fun r H' _=>r= .v (.string (bs (rO s)))/\H' =⟨[],[]⟩:=by
 refine br aq Tryz.func228 ?_
 ·simp only[go_sem];refine ai ((O0 s m hs).mono ?_);rintro r H' m' hm ⟨rfl,rfl⟩;simp only[go_sem];obtain⟨h1,h2⟩:=AV s 47 s.length;refine⟨by unfold az;omega,⟨by omega,by omega,by omega⟩,?_⟩;rfl
theorem Oj (s:List UInt8) (m:Mem) (hs:s.length<=4611686018427387904):FnH Tryz.prog 247 [.v (.string (bs s))] ⟨[],[]⟩ m fun r H' _=>r= .v (.string (bs (rO s)))/\H' =⟨[],[]⟩:=by
 refine br aq Tryz.func247 ?_
 ·simp only[go_sem];refine ai ((Ox s m hs).mono ?_);rintro r H' m' hm ⟨rfl,rfl⟩;simp only[go_sem];obtain⟨h1,h2⟩:=AV s 47 s.length;refine⟨by unfold az;omega,⟨by omega,by omega,by omega⟩,?_⟩;rfl
theorem Tf {s:List UInt8} {f k:Nat} (hf:f<=k) (hk:k<=s.length):s.drop f=(s.take k).drop f++s.drop k:=by
 conv=>lhs;rw[<- List.take_append_drop k s]
 rw[List.drop_append_of_le_length (by rw[List.length_take];omega)]
theorem RR {s:List UInt8} {f k:Nat} (hf:f<=k) (hk:k<s.length):(s.take (k+1)).drop f=(s.take k).drop f++[s.getD k 0]:=by
 rw[List.take_succ_eq_append_getElem hk,List.drop_append_of_le_length (by rw[List.length_take];omega),List.getD_eq_getElem?_getD,List.getElem?_eq_getElem hk];rfl
abbrev cf5:Cfg:=eZ (fun _=>false) [(183,iJ (fun s=>s.length<=4611686018427387904) fun s=> .bool (oR s))]
theorem Na:cw cf5 Tryz.prog:=pure_cons (by kernel_rfl) (jZ fun s m h=>Pp s m h) pure_nil
theorem G8 (s:List UInt8) (m:Mem) (hs:s.length<=4611686018427387904):FnH Tryz.prog 83 [.v (.string (bs s))] ⟨[],[]⟩ m fun r H' _=>r= .v (.bool (ie s))/\H' =⟨[],[]⟩:=by
 refine br Na Tryz.func83 ?_
 ·simp only[go_sem];refine⟨fun h=> ?_,fun h=> ?_⟩
  ·have:¬s.length<=64:=by omega
   simp [ie,this]
  ·refine gC Na (fun x:Nat×Nat=>⟨[⟨0,[],.v (.string (bs s))⟩,⟨3,[],.v (.int .i64 x.1)⟩,⟨4,[],.v (.int .i64 x.2)⟩],[],[],[],0,m⟩)
    (fun x=>x.1<=x.2/\x.2<=s.length/\(∀c∈(s.take x.2).drop x.1,c.toNat≠47)/\ie s=eR true (s.drop x.1)) (fun x=>s.length - x.2) (0,0) (fun _ _=>aC _) (fun _ _=> .inl rfl) ?_ ?_ ?_
   ·simp only[go_sem];exact⟨rfl,rfl⟩
   ·have:s.length<=64:=by omega
    simp [ie,this]
   ·rintro⟨f,k⟩ ⟨hf,hk,oA,hp⟩;simp only at hf hk oA hp;simp only[go_sem];have hlen:∀l:List UInt8,(l.take k).length<=k:=fun l=>by rw[List.length_take];omega
    refine⟨fun aj=> ?_,fun gj=> ?_⟩
    ·have eO:k<s.length:=by omega
     have hI:az (k+1):=by unfold az;omega
     refine⟨⟨by omega,aj⟩,fun h47=> ?_,fun h47=>⟨hI,(f,k+1),⟨rfl,rfl⟩,⟨by simp only;omega,eO,?_,hp⟩,by simp only;omega⟩⟩
     ·have e47:s.getD k 0=47:=by
       have:(s.getD k 0).toNat=47:=by omega
       exact UInt8.toNat_inj.1 this
      have rn:ie s=(oR ((s.take k).drop f)&&eR true (s.drop (k+1))):=by
       rw[hp,Tf hf hk,vT eO,e47];exact Uu _ _ oA
      refine⟨⟨by omega,by omega,by omega⟩,by simp only[gI,List.length_take];omega,fun h=> ?_,fun h=>⟨hI,hI,(k+1,k+1),⟨rfl,rfl⟩,⟨aC _,eO,?_,?_⟩,by simp only;omega⟩⟩
      ·rw[rn,h];rfl
      ·rw[List.drop_of_length_le (by simp;omega)];intro c hc;cases hc
      ·rw[rn,h];rfl
     ·simp only;rw[RR hf eO];intro c hc;rcases List.mem_append.1 hc with hc |hc
      ·exact oA c hc
      ·rw[List.mem_singleton.1 hc];omega
    ·obtain rfl:k=s.length:=by omega
     refine⟨⟨by omega,by omega,by omega⟩,by simp only[gI,List.length_take];omega,?_⟩;rw[hp];have:=Uv _ oA;rw[List.take_length] at this;exact this.symm
theorem LI:∀(s:List UInt8) (b:Bool),eR b s=true->s=[]\/((s.getD (s.length - 1) 0).toNat≠47/\eR b s=true)
 |[],_,_=> .inl rfl
 |c::r,b,h=>by
  refine .inr ⟨?_,h⟩;simp only[eR] at h;cases r with
  |nil=>
   intro e;have e:c.toNat=47:=e;rw[e] at h;cases b<;>simp [eR,jw,qd] at h
  |cons d r=>
   have go:∀b',eR b' (d::r)=true->((c::d::r).getD ((c::d::r).length - 1) 0).toNat≠47:=fun b' hb=>by
    rcases LI (d::r) b' hb with e |e
    ·cases e
    ·simpa using e.1
   split at h
   ·exact go _ h
   ·split at h
    ·exact go _ h
    ·cases h
theorem P9 {s:List UInt8} (h:ie s=true):0<(rO s).length:=by
 simp only[ie,bB] at h;rcases LI s true h.2 with rfl |⟨e,_⟩
 ·simp [eR] at h
 ·have hl:0<s.length:=by
   cases s with
   |nil=>simp [eR] at h
   |cons c r=>simp
  unfold rO;rw[gI];obtain⟨n,hn⟩:∃n,s.length=n+1:=⟨s.length - 1,by omega⟩;rw[hn] at e ⊢;simp only[Nat.add_sub_cancel] at e;have h2:=AV s 47 n;have:gn s 47 (n+1)=gn s 47 n:=by
   simp only[gn];rw[ae (by omega)]
  rw[this];omega
def iD (s:List UInt8):Bool:=ie s&&decide (65<=((rO s).getD 0 0).toNat)&&decide (((rO s).getD 0 0).toNat<=90)
abbrev BL (s:List UInt8):Prop:=s.length<=4611686018427387904
abbrev cf6:Cfg:=eZ (fun _=>false) [(227,iJ BL fun s=> .bool (ie s)),(83,iJ BL fun s=> .bool (ie s)),(228,iJ BL fun s=> .string (bs (rO s))),(247,iJ BL fun s=> .string (bs (rO s)))]
theorem M9:cw cf6 Tryz.prog:=pure_cons (by kernel_rfl) (jZ Hn) (pure_cons (by kernel_rfl) (jZ G8) (pure_cons (by kernel_rfl) (jZ Oy) (pure_cons (by kernel_rfl) (jZ Oj) pure_nil)))
theorem AM (s:List UInt8) (m:Mem) (hs:BL s):FnH Tryz.prog 141 [.v (.string (bs s))] ⟨[],[]⟩ m fun r H' _=>r= .v (.bool (iD s))/\H' =⟨[],[]⟩:=by
 refine br M9 Tryz.func141 ?_
 ·simp only[go_sem];refine⟨hs,fun h=>by simp [iD,h],fun h=>⟨hs,⟨by omega,by have:=P9 h;omega⟩,?_⟩⟩;rw[iD,h,Bool.true_and];have e1:∀n:Nat,decide ((65:Int)<=n)=decide (65<=n):=fun n=>by rw[decide_eq_decide];omega
  have e2:∀n:Nat,decide ((n:Int)<=90)=decide (n<=90):=fun n=>by rw[decide_eq_decide];omega
  rw[e1,e2]
theorem L3 {P:Program} {f:FuncId} {args:List Value} {m:Mem} {R:Value->Prop} (h:∀w D,Wf w D->m.le ⟨w,D⟩->Calls P f ⟨args⟩ w fun e w' =>∃y,e= .returned y/\R y/\Below w.heap.size w w'):
  FnH P f (args.map SV.v) ⟨[],[]⟩ m fun r H' m' =>(∃y,r= .v y/\R y)/\H' =⟨[],[]⟩/\m' =m:=by
 intro V w D eg hle hH;have ha:(args.map SV.v).map (den V)=args:=by rw[List.map_map];exact List.map_id'' (fun _=>rfl) args
 rw[ha];refine(h w D eg hle).mono ?_;rintro e w' ⟨y,rfl,hy,hb⟩;have aj:∀b,0<D b->b<w.heap.size:=fun b hb=>by
  rcases Nat.lt_or_ge b w.heap.size with h |h
  ·exact h
  ·have:=eg b h;omega
 have MG:Mem.le ⟨w,D⟩ ⟨w',D⟩:=fun b=>⟨aC _,fun h0=>⟨aj b h0,oK (hb.block b (aj b h0))⟩⟩
 exact⟨.v y,V,D,⟨[],[]⟩,m,rfl,fun b ls=>eg b (cQ hb.size ls),⟨fun b hb=>(by cases hb),fun b hb=>(by cases hb),by simp [aE],by simp⟩,fun b hb=>(by cases hb),fun b hb=>(by cases hb),
  ⟨hb.os,hb.tape,hb.output,hb.size,fun b ls _=>⟨hb.block b ls,rfl⟩⟩,fun b hb=>(by simp [aE] at hb),MG,fun b=>⟨aC _,fun h=>⟨((hle b).2 h).1,oK rfl⟩⟩,Mem.le_trans hle MG,⟨y,rfl,hy⟩,rfl,rfl⟩
theorem yN {m m' :Mem} {a:Option Addr} {n sz:Nat} {xs:List Value} (hle:m.le m') (h:aw m a n sz xs):aw m' a n sz xs:=by
 refine⟨h.1,fun h0=> ?_⟩;obtain⟨ad,rfl,hs,hc⟩:=h.2 h0;refine⟨ad,rfl,hs,fun j hj=> ?_⟩;obtain⟨h1,h2⟩:=hc j hj;obtain⟨e1,e2,e3⟩:=kU ad j hs;have hx:xs[j]? =some (xs[j]'(by rw[h.1];exact hj)):=List.getElem?_eq_getElem _;exact⟨(AO hle e3 (by rw[e1,e2];exact h2) (h1.trans hx)).trans hx.symm,dt h2 (hle _).1⟩
theorem Mq {m m' :Mem} {x:Value} {cs:List Value} (hle:m.le m') (h:Rd m x cs):Rd m' x cs:=by
 obtain⟨ad,rfl,hs,hc⟩:=h;refine⟨ad,rfl,hs,fun j hj=> ?_⟩;obtain⟨h1,h2⟩:=hc j hj;obtain⟨e1,e2,e3⟩:=kU ad j hs;have hx:cs[j]? =some (cs[j]'hj):=List.getElem?_eq_getElem _;exact⟨(AO hle e3 (by rw[e1,e2];exact h2) (h1.trans hx)).trans hx.symm,dt h2 (hle _).1⟩
def opsL:List (List UInt8):=[[124,124],[38,38],[124],[94],[38],[61,61],[33,61],[60],[60,61],[62],[62,61],[60,60],[62,62],[62,62,62],[43],[45],[42],[47],[37]]
def Glob (m:Mem):Prop:=(∀w D,m.le ⟨w,D⟩->(∃k,w.cell? ⟨1,0,none⟩=some (.int .i64 k))/\True)/\
 ∃ad c,Rd m (.pointer (some ⟨0,0,none⟩)) [.slice (some ad) 19 c]/\19<=c/\aw m (some ad) 19 1 (strs opsL)
theorem Glob.up {m m' :Mem} (h:Glob m) (hm:m.le m'):Glob m' :=
 ⟨fun w D hw=>h.1 w D (Mem.le_trans hm hw),h.2.elim fun ad h=>h.elim fun c h=>⟨ad,c,Mq hm h.1,h.2.1,yN hm h.2.2⟩⟩
theorem Ob (s:List UInt8) (c:Int) (m:Mem):FnH Tryz.prog 269 [.v (.string (bs s)),.v (.int .u8 c)] ⟨[],[]⟩ m fun r H' _=>r= .v (.int .i64 (Lib.indexByte s c.toNat.toUInt8))/\H' =⟨[],[]⟩:=by
 refine(L3 (args:=[.string (bs s),.int .u8 c]) (R:=fun y=>y= .int .i64 (Lib.indexByte s c.toNat.toUInt8)) fun w D eg hle=> ?_).mono ?_
 ·refine(Tryz.strings_IndexByte (bs s) c w).mono ?_;rintro e w' ⟨rfl,rfl⟩;exact⟨_,rfl,rfl,Below.refl _ _⟩
 ·rintro r H' m' hm ⟨⟨y,rfl,rfl⟩,h1,h2⟩;exact⟨rfl,h1⟩
theorem abw:oI Tryz.prog 3 5= .int .u8:=by kernel_rfl
attribute [go_sem] abw
structure Tk where
 k:Int
 s:List UInt8
 n:Int
 at_:Int
abbrev Tk.cells (t:Tk):List SV:=[.v (.int .i64 t.k),.v (.string (bs t.s)),.v (.int .i64 t.n),.v (.int .i64 t.at_)]
def MN:List UInt8:=[48,49,50,51,52,53,54,55,56,57,97,98,99,100,101,102]
theorem sz5:aM Tryz.prog 5=1:=by kernel_rfl
theorem by5:iP Tryz.prog 5=1:=by kernel_rfl
theorem Yw:cY Tryz.prog 5=some [.v (.int .u8 0)]:=by kernel_rfl
theorem abW:cH Tryz.prog 5=some none:=by kernel_rfl
attribute [go_sem] sz5 by5 Yw abW
theorem abv:oI Tryz.prog 5 3= .int .i64:=by kernel_rfl
attribute [go_sem] abv
def abn (c:UInt8):List UInt8:=
 if c.toNat=34\/c.toNat=92 then[92,c] else if c.toNat=10 then[92,110] else if c.toNat<32\/126<c.toNat then[92,120,MN.getD (c.toNat / 16) 0,MN.getD (c.toNat % 16) 0] else[c]
def S9 (s:List UInt8):List UInt8:=34::(s.map abn).flatten++[34]
def abm (t:Tk):Option (List UInt8):=
 if t.k=1 then(if t.n=0/\ie t.s=true/\vF.contains t.s=false then some (Lib.replaceAll t.s [47] [58,58]) else none)
 else if t.k=2 then(if t.n=0/\vF.contains t.s=true then some t.s else none)
 else if t.k=3 then(if(t.s=[]/\0<=t.n)/\t.n<2147483648 then some (Lib.itoa t.n) else none)
 else if t.k=4 then(if t.s=[]/\0<=t.n then some (Lib.itoa t.n++[76]) else none)
 else if t.k=5 then(if t.n=0/\t.s.length<=1024 then some (S9 t.s) else none)
 else if t.k=6 then(if t.n=0/\Wu.contains t.s=true then some t.s else none)
 else none
def Mj:List Tk->Option (List (List UInt8))
 |[]=>some []
 |t::r=>match abm t with |none=>none |some x=>match Mj r with |none=>none |some y=>some (x::y)
def Zc (ts:List Tk):List UInt8×Int:=
 if 5000<ts.length then([],5) else
  match Mj ts with
  |none=>([],1)
  |some l=>if 20000<(Lib.join l [32]).length then([],8) else(Lib.join l [32],0)
theorem dM {m:Mem} {a:Option Addr} {n sz:Nat} {xs:List Value} (h:aw m a n sz xs) {i:Nat} (hi:i<n):Rd m (bk a (i * sz)) ((xs.drop (i * sz)).take sz)/\a≠none:=by
 have hl:=h.1;have hm:(i+1) * sz<=n * sz:=Nat.mul_le_mul_right _ hi;rw[Nat.succ_mul] at hm;obtain⟨ad,rfl,hs,hc⟩:=h.2 (by omega);refine⟨?_,by simp⟩;obtain⟨e1,e2,e3⟩:=kU ad (i * sz) hs;refine⟨ad.add (i * sz),rfl,e3,fun j hj=> ?_⟩;rw[List.length_take,gI] at hj;obtain⟨h1,h2⟩:=hc (i * sz+j) (by omega);obtain⟨f1,f2,f3⟩:=kU (ad.add (i * sz)) j e3;obtain⟨g1,g2,g3⟩:=kU ad (i * sz+j) hs;have Ak:(ad.add (i * sz)).add j=ad.add (i * sz+j):=by
  cases hA:(ad.add (i * sz)).add j;cases hB:ad.add (i * sz+j);rw[hA] at f1 f2 f3;rw[hB] at g1 g2 g3;simp only at f1 f2 f3 g1 g2 g3;rw[f1,f2,f3,g1,g2,g3,e1,e2,Nat.add_assoc]
 refine⟨?_,by rw[e1,e2,Nat.add_assoc];exact h2⟩;rw[Ak,h1,List.getElem?_take_of_lt (by omega),List.getElem?_drop]
theorem Vp {k:IntKind} {n:Int} {x:Value} (h:kI (.v (.int k n)) (.v x)=true):∃a,x= .int k a:=by
 cases x<;>simp only[kI] at h;case int k' a=>exact⟨a,by have:=of_decide_eq_true h;subst this;rfl⟩
 all_goals cases h
theorem Vo {s:ByteArray} {x:Value} (h:kI (.v (.string s)) (.v x)=true):∃a,x= .string a:=by
 cases x<;>simp only[kI] at h;case string a=>exact⟨a,rfl⟩
 all_goals cases h
theorem eq_int {k:IntKind} {a:Int} {y:Value} {e:Bool} (h:kE (.v (.int k a)) (.v y)=some e):∃b,y= .int k b/\e=decide (a=b):=by
 cases y<;>simp only[kE] at h;case int k' b=>
  split at h
  ·rename_i hk;subst hk;exact⟨b,rfl,(Option.some.inj h).symm⟩
  ·cases h
 all_goals cases h
theorem XX {a:ByteArray} {y:Value} {e:Bool} (h:kE (.v (.string a)) (.v y)=some e):∃b,y= .string b/\e=decide (tl a=tl b):=by
 cases y<;>simp only[kE] at h;case string b=>exact⟨b,rfl,(Option.some.inj h).symm⟩
 all_goals cases h
theorem QU {z:SV} {zs:List SV} {xs:List Value} (h:jn (z::zs) (xs.map .v)=true):∃x r,xs=x::r/\kI z (.v x)=true/\jn zs (r.map .v)=true:=by
 cases xs with
 |nil=>simp [jn] at h
 |cons x r=>simp only[aG,jn,bB] at h;exact⟨x,r,rfl,h.1,h.2⟩
theorem S3 {xs:List Value} (h:jn [] (xs.map .v)=true):xs=[]:=by
 cases xs with
 |nil=>rfl
 |cons x r=>simp [jn] at h
theorem PG {x:Value} {xs ys:List Value} {b:Bool} (h:gm ((x::xs).map .v) (ys.map .v)=some b):∃y r e e',ys=y::r/\kE (.v x) (.v y)=some e/\gm (xs.map .v) (r.map .v)=some e' /\b=(e&&e'):=by
 cases ys with
 |nil=>simp [gm] at h
 |cons y r=>
  simp only[aG,gm,Option.bind_eq_some_iff,Option.map_eq_some_iff] at h;obtain⟨e,he,e',oD,rfl⟩:=h;exact⟨y,r,e,e',rfl,he,oD,rfl⟩
theorem Rc {ys:List Value} {b:Bool} (h:gm [] (ys.map .v)=some b):ys=[]/\b=true:=by
 cases ys with
 |nil=>simp only[List.map_nil,gm,cv] at h;exact⟨rfl,h.symm⟩
 |cons y r=>simp [gm] at h
def kindOk (P:Program) (t:TypeId):SV->Bool
 | .v (.int _ _)=>match P.underlying t with |some (.int _)=>true |_=>false
 | .v (.string _)=>match P.underlying t with |some .string=>true |_=>false
 | .v (.bool _)=>match P.underlying t with |some .bool=>true |_=>false
 |_=>false
def Cq (P:Program):Nat->List SV->List Field->Bool
 |_,[],[]=>true
 |off,z::zs,f::fs=>f.name != "_" &&decide (f.offset=off)&&decide (cH P f.type=some none)&&kindOk P f.type z&&Cq P (off+1) zs fs
 |_,_,_=>false
theorem O3 {P:Program} {t:TypeId} {z:SV} {x y:Value} {e:Bool} {w:World} (d:Nat) (hk:kindOk P t z=true) (hf:kI z (.v x)=true) (he:kE (.v x) (.v y)=some e):
  (Op.equalIn (d+1) t x y).run P w= .ok e w:=by
 cases z with
 |v z=>
  cases z with
  |int k n=>
   obtain⟨a,rfl⟩:=Vp hf;obtain⟨b,rfl,rfl⟩:=eq_int he;simp only[kindOk] at hk;split at hk
   ·rename_i k' hu;rw[run_equalIn_int w d t k k' a b hu,Bool.beq_eq_decide_eq]
   ·cases hk
  |string n=>
   obtain⟨a,rfl⟩:=Vo hf;obtain⟨b,rfl,rfl⟩:=XX he;simp only[kindOk] at hk;split at hk
   ·rename_i hu;rw[run_equalIn_string w d t a b hu,vC,vC,Bool.beq_eq_decide_eq]
   ·cases hk
  |bool n=>
   cases x<;>simp only[kI] at hf;case bool a=>
    cases y<;>simp only[kE] at he;case bool b=>
     cases he;simp only[kindOk] at hk;split at hk
     ·rename_i hu;rw[run_equalIn_bool' w d t a b hu]
     ·cases hk
    all_goals cases he
   all_goals cases hf
  |_=>cases hk
 |_=>cases hk
theorem Jk {P:Program} {d:Nat} {w:World} {cs ds:List Value}:∀{fs:List Field} {zs:List SV} {off:Nat} {us vs:List Value} {b:Bool},
  Cq P off zs fs=true->jn zs (us.map .v)=true->gm (us.map .v) (vs.map .v)=some b->cs.drop off=us->ds.drop off=vs->(Op.eqFields (d+1) ⟨cs⟩ ⟨ds⟩ fs).run P w= .ok b w
 |[],zs,off,us,vs,b,h,hf,he,hu,hv=>by
  cases zs with
  |nil=>
   cases S3 hf;rw[List.map_nil] at he;obtain⟨_,rfl⟩:=Rc he;rfl
  |cons z zs=>cases h
 |f::fs,zs,off,us,vs,b,h,hf,he,hu,hv=>by
  cases zs with
  |nil=>cases h
  |cons z zs=>
   simp only[Cq,bB,cE,bne_iff_ne] at h;obtain⟨⟨⟨⟨h1,h2⟩,h3⟩,h4⟩,h5⟩:=h;obtain⟨x,us',rfl,g1,g2⟩:=QU hf;obtain⟨y,iI,e,e',rfl,g3,g4,rfl⟩:=PG he;have hx:cs[off]? =some x:=by
    have:=congrArg (fun l:List Value=>l[0]?) hu;simpa using this
   have hy:ds[off]? =some y:=by
    have:=congrArg (fun l:List Value=>l[0]?) hv;simpa using this
   have Ad:cs.drop (off+1)=us' :=by
    have:=congrArg (List.drop 1) hu;rw[List.drop_drop] at this;simpa [Nat.add_comm] using this
   have Ac:ds.drop (off+1)=iI:=by
    have:=congrArg (List.drop 1) hv;rw[List.drop_drop] at this;simpa [Nat.add_comm] using this
   subst h2;simp only[Op.eqFields,ak h1,Sem.run_bind,Ea h3 (show _ from hx),Ea h3 (show _ from hy),Result.andThen_ok,O3 d h4 g1 g3];cases e with
   |false=>simp
   |true=>
    simp only[Bool.not_true,Bool.false_eq_true,if_false,Bool.true_and];exact Jk h5 g2 g4 Ad Ac
theorem Lh {P:Program} {t:TypeId} {zs:List SV} {fs:List Field} (hz:cY P t=some zs) (hg:P.eqGuardType P.depth t=false) (hu:P.underlying t=some (.struct (P.fieldsOf t))) (hp:P.stoodInHeld t=false)
  (GC:(P.fieldsOf t).toList=fs) (h:Cq P 0 zs fs=true):wZ P t:=by
 intro xs ys b w o o' op he hf;rw[hz] at hf;refine⟨run_eqGuard_agg w op t o o' _ _ hg,?_⟩;show(Op.equalIn (9999+1) t _ _).run _ w=_;rw[run_equalIn_struct w 9999 t _ _ hu hp,GC];exact Jk (d:=9998) h hf he rfl rfl
end Go.Proofs.YtmdokbohofchgaaGreatDoor.E

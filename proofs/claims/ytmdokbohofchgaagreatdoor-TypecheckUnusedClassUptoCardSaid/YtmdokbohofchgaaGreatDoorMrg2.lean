/- Several texts in one. -/
import Derived.Laws.MakeOwn
import Derived.Deep.LoopGhost
import Derived.Deep.Quiet
import Derived.ScopeJumps
import Derived.Shelf.Small.Strs
import Derived.Shelf.Strings.Search1
import Derived.Shelf.Strings.LastIndex
import Derived.Shelf.Strings.Prefix
import Derived.Shelf.Slices.Turned
import Derived.Ground.PaProg
import Derived.Shelf.Path.Small
import Derived.Lib.ItoaNum
import Derived.Lib.ReplaceLaws
import Derived.Lib.Replace
import Derived.Test.YtmdokbohofchgaaGreatDoorProg
import Derived.Lib.Join
import Derived.Laws.StructEq
import Derived.Test.YtmdokbohofchgaaGreatDoorMrg1
set_option linter.unusedSimpArgs false
set_option linter.unusedVariables false
set_option maxHeartbeats 4000000
set_option maxRecDepth 20000
namespace Go.Proofs.YtmdokbohofchgaaGreatDoor.E
open Go
theorem mu {V:Vl}:∀{cs:List SV},eP cs=true->∀v∈cs.map (aH V),v.oneCell' =true
 | .v x::r,h,v,hv=>by
  simp only[eP,bw] at h;simp only[aG] at hv;rcases List.mem_cons.1 hv with rfl |hv
  ·exact h.1
  ·exact mu h.2 v hv
 | .box k o::r,h,v,hv=>by
  simp only[aG] at hv;rcases List.mem_cons.1 hv with rfl |hv
  ·rfl
  ·exact mu (cs:=r) h v hv
 | .vec k o::r,h,v,hv=>by
  simp only[aG] at hv;rcases List.mem_cons.1 hv with rfl |hv
  ·rfl
  ·exact mu (cs:=r) h v hv
 | .vp k u o::r,h,v,hv=>by
  simp only[aG] at hv;rcases List.mem_cons.1 hv with rfl |hv
  ·rfl
  ·exact mu (cs:=r) h v hv
 | .vo k u o z::r,h,v,hv=>by
  simp only[aG] at hv;rcases List.mem_cons.1 hv with rfl |hv
  ·rfl
  ·exact mu (cs:=r) h v hv
 | .mp k::r,h,v,hv=>by
  simp only[aG] at hv;rcases List.mem_cons.1 hv with rfl |hv
  ·rfl
  ·exact mu (cs:=r) h v hv
 | .mv f k o::r,h,v,hv=>by
  simp only[aG] at hv;rcases List.mem_cons.1 hv with rfl |hv
  ·rfl
  ·exact mu (cs:=r) h v hv
 | .sl k n c::r,h,v,hv=>by
  simp only[aG] at hv;rcases List.mem_cons.1 hv with rfl |hv
  ·rfl
  ·exact mu (cs:=r) h v hv
 | .cl f ks::r,h,v,hv=>by
  simp only[aG] at hv;rcases List.mem_cons.1 hv with rfl |hv
  ·rfl
  ·exact mu (cs:=r) h v hv
 | .agg cs::r,h,v,hv=>by simp [eP] at h
 | .tup cs::r,h,v,hv=>by simp [eP] at h
theorem OW {V:Vl} {s:SV} {x:Value} (h:plain s=some x):aH V s=x:=by
 cases s<;>simp only[plain,cn] at h<;>first |exact h |cases h
theorem Ae {V:Vl}:∀{cs:List SV} {l:List Value},jJ cs=some l->cs.map (aH V)=l
 |[],l,h=>by simp only[jJ,cn] at h;subst h;rfl
 |s::r,l,h=>by
  simp only[jJ,Option.bind_eq_some_iff,Option.map_eq_some_iff] at h;obtain⟨x,hx,l',hl,rfl⟩:=h;simp only[aG];rw[OW hx,Ae hl]
theorem DS:∀(l cs:List SV) (off:Nat),off+l.length<=cs.length->iA cs off l=cs.take off++l++cs.drop (off+l.length)
 |[],cs,off,_=>by simp [iA]
 |c::r,cs,off,h=>by
  simp only[cQ] at h;simp only[iA];rw[DS r (cs.set off c) (off+1) (by simp;omega)];have h1:(cs.set off c).take (off+1)=cs.take off++[c]:=by
   rw[List.take_set,List.take_succ_eq_append_getElem (by omega)];rw[List.set_append_right _ _ (by simp [Nat.min_le_left])];simp [List.length_take,Nat.min_eq_left (by omega:off<=cs.length)]
  have h2:(cs.set off c).drop (off+1+r.length)=cs.drop (off+1+r.length):=List.drop_set_of_lt (by omega);rw[h1,h2];simp [Nat.add_assoc,Nat.add_comm 1]
theorem DM {V:Vl} {g:Nat}:∀{l:List Vc} {x b:Vc},x∈l->b∈l->(V.γ x.id x.ver).blk=some g->(V.γ b.id b.ver).blk=some g->(l.filterMap fun b=>(V.γ b.id b.ver).blk).Nodup->x=b
 |y::r,x,b,hx,hb,hxg,gC,hf=>by
  simp only[List.filterMap_cons] at hf;rcases List.mem_cons.1 hx with e1 |cW<;>rcases List.mem_cons.1 hb with e2 |kW
  ·exact e1.trans e2.symm
  ·subst e1;rw[hxg] at hf;exact absurd (List.mem_filterMap.2 ⟨b,kW,gC⟩) (List.nodup_cons.1 hf).1
  ·subst e2;rw[gC] at hf;exact absurd (List.mem_filterMap.2 ⟨x,cW,hxg⟩) (List.nodup_cons.1 hf).1
  ·refine DM cW kW hxg gC ?_;split at hf
   ·exact hf
   ·exact(List.nodup_cons.1 hf).2
section
variable {C:Ctx} {n:Nat} {st:LS} {a:Act} {V:Vl} {D:Nat->Nat} {w:World} {P:Program} {p:ba}
theorem Sat.to (hS:Sat C n st a V D w) {eU:List Bx} {df:List Vc} {eB:Nat} {m' :Mem} {V' :Vl} {D' :Nat->Nat} {w' :World} (ha:Agree st.nid st.vc V V') (hn:st.nid<=eB)
  (hv:∀k u,k<st.nid->aY st.vc k u->aY df k u) (hW:SatW C eU df eB m' V' D' w'):Sat C n ⟨st.env,st.rho,eU,df,eB,m'⟩ a V' D' w' :=
 ⟨hS.f.agree hS.ids ha,fun e he=>Iv hn hv (hS.ids e he),hW⟩
theorem SatW.pub (h:SatW C st.bx st.vc st.nid st.m V D w) {k u:Nat} {b:Vc} (hb:cq st.vc k u=some b):
  ∃(a:Option Addr) (c:Nat) (m1:Mem) (D' :Nat->Nat),st.m.le m1/\b.n<=c/\ax m1 a b.n b.sz b.xs/\(V.γ k u).val= .slice a b.n c/\SatW C st.bx st.vc st.nid m1 V D' w:=by
 obtain⟨rfl,rfl,hm⟩:=xH hb;obtain⟨bQ,hD,eQ,jX⟩:=h.heap.vc b hm;obtain⟨hn,hl,_⟩:=ry bQ;let D' :Nat->Nat:=fun x=>if(V.γ b.id b.ver).blk=some x then b.n * b.sz else D x
 have hDD:∀x,D x<=D' x:=fun x=>by
  show D x<=if _ then _ else _
  split
  ·rename_i e;exact hD x e
  ·exact aA _
 have dX:Wf w D' :=fun x hx=>by
  show(if _ then _ else _)=0;split
  ·rename_i e;have:=(DX bQ e).2;omega
  ·exact h.wf x hx
 have hle:Mem.le ⟨w,D⟩ ⟨w,D'⟩:=Mem.le_same h.wf (fun x _=>⟨hDD x,fun _=>rfl⟩);have yl:Mem.le ⟨w,D'⟩ ⟨w,D'⟩:=Mem.le_refl ⟨w,D'⟩ dX;have Zu:∀g,g∈aE V ⟨st.bx,st.vc⟩->(V.γ b.id b.ver).blk≠some g->D' g=D g:=fun g _ cv=>aa cv
 refine⟨(V.γ b.id b.ver).a,(V.γ b.id b.ver).c,⟨w,D'⟩,D',Mem.le_trans h.mle hle,?_,⟨hl,fun h0=> ?_⟩,by unfold Hd.val;rw[hn],?_⟩
 ·rcases bQ.2 with ⟨_,hz⟩ |⟨g,cap,cur,hv,_,_,hc,_⟩
  ·omega
  ·simp only[Hd.val,Value.slice.injEq] at hv;omega
 ·rcases bQ.2 with ⟨_,hz⟩ |⟨g,cap,cur,hv,_,hh,hc,_,dy,htk⟩
  ·omega
  ·simp only[Hd.val,Value.slice.injEq] at hv;refine⟨⟨g,0,none⟩,hv.1,rfl,fun j hj=> ?_⟩;have FI:(V.γ b.id b.ver).blk=some g:=by unfold Hd.blk;rw[hv.1];rfl
   refine⟨?_,?_⟩
   ·rw[zT];simp only[World.cell?,hh,Option.isSome_none,Bool.false_eq_true,if_false];rw[<- htk,List.getElem?_take,ai hj,Array.getElem?_toList]
   ·show 0+j<D' g;have:D' g=b.n * b.sz:=ai FI;omega
 ·refine⟨⟨fun x hx=> ?_,fun x hx=> ?_,h.heap.apart,h.heap.uniq⟩,dX,h.frm.trans (S:=fun x=>(V.γ b.id b.ver).blk=some x) ⟨rfl,rfl,rfl,aA _,fun x _ hx=>⟨rfl,aa hx⟩⟩ (fun x hx=>h.own x (by
   simp only[aE,List.mem_append,List.mem_filterMap]
   exact .inr ⟨b,hm,hx⟩)),h.own,h.baseB,h.baseV,h.ids,Mem.le_trans h.le0 hle,Mem.le_trans h.m0 (Mem.le_trans h.mle hle),yl⟩
  ·obtain⟨h1,h2⟩:=h.heap.bx x hx;refine⟨h1,?_⟩;rw[Zu _ (by simp only[aE,List.mem_append,List.mem_map];exact .inl ⟨x,hx,rfl⟩)]
   ·exact h2
   ·intro e;have ff:=h.heap.apart;unfold aE at ff;exact(List.nodup_append.1 ff).2.2 _ (List.mem_map.2 ⟨x,hx,rfl⟩) _ (List.mem_filterMap.2 ⟨b,hm,e⟩) rfl
  ·obtain⟨h1,h2,h3,h4⟩:=h.heap.vc x hx;refine⟨h1,fun g hg=> ?_,h3,h4⟩;show(if _ then _ else _)<=_;split
   ·rename_i e;have hxb:x=b:=by
     have ff:=h.heap.apart;unfold aE at ff;have hf:=(List.nodup_append.1 ff).2.1;exact DM hx hm hg e hf
    rw[hxb];exact aA _
   ·exact h2 g hg
theorem kC:∀(l:List SV) (K:List SV->LS->Prop) (m:Mem) (D:Nat->Nat),jr l K ⟨st.env,st.rho,st.bx,st.vc,st.nid,m⟩->SatW C st.bx st.vc st.nid m V D w->
  ∃l' m1 D1,K l' ⟨st.env,st.rho,st.bx,st.vc,st.nid,m1⟩/\SatW C st.bx st.vc st.nid m1 V D1 w/\l'.map (aH V)=l.map (aH V)/\(∀x∈l',∀cs,x= .agg cs-> .agg cs∈l)
 |[],K,m,D,h,hW=>⟨[],m,D,h,hW,rfl,fun _ h=>by cases h⟩
 |s::r,K,m,D,h,hW=>by
  cases s with
  |vec k u=>
   simp only[jr] at h;obtain⟨b,hb,h⟩:=ay h;obtain⟨ad,c,m1,D',h1,h2,h3,h4,h5⟩:=SatW.pub (st:=⟨st.env,st.rho,st.bx,st.vc,st.nid,m⟩) hW hb;obtain⟨l',m2,D2,e1,e2,e3,e4⟩:=kC r _ m1 D' (h ad c m1 h1 h2 h3) h5;refine⟨_,m2,D2,e1,e2,?_,fun x hx cs e=> ?_⟩
   ·simp only[aG];rw[e3];congr 1
    exact h4.symm
   ·rcases List.mem_cons.1 hx with rfl |hx
    ·cases e
    ·exact bt _ (e4 x hx cs e)
  |v x=>
   obtain⟨l',m2,D2,e1,e2,e3,e4⟩:=kC r _ m D h hW
   exact⟨_,m2,D2,e1,e2,by simp only[aG,e3],fun y hy cs e=>by
    rcases List.mem_cons.1 hy with rfl |hy
    ·cases e
    ·exact bt _ (e4 y hy cs e)⟩
  |box k o=>
   obtain⟨l',m2,D2,e1,e2,e3,e4⟩:=kC r _ m D h hW
   exact⟨_,m2,D2,e1,e2,by simp only[aG,e3],fun y hy cs e=>by
    rcases List.mem_cons.1 hy with rfl |hy
    ·cases e
    ·exact bt _ (e4 y hy cs e)⟩
  |vp k u o=>
   obtain⟨l',m2,D2,e1,e2,e3,e4⟩:=kC r _ m D h hW
   exact⟨_,m2,D2,e1,e2,by simp only[aG,e3],fun y hy cs e=>by
    rcases List.mem_cons.1 hy with rfl |hy
    ·cases e
    ·exact bt _ (e4 y hy cs e)⟩
  |vo k u o z=>
   obtain⟨l',m2,D2,e1,e2,e3,e4⟩:=kC r _ m D h hW
   exact⟨_,m2,D2,e1,e2,by simp only[aG,e3],fun y hy cs e=>by
    rcases List.mem_cons.1 hy with rfl |hy
    ·cases e
    ·exact bt _ (e4 y hy cs e)⟩
  |mp k=>
   obtain⟨l',m2,D2,e1,e2,e3,e4⟩:=kC r _ m D h hW
   exact⟨_,m2,D2,e1,e2,by simp only[aG,e3],fun y hy cs e=>by
    rcases List.mem_cons.1 hy with rfl |hy
    ·cases e
    ·exact bt _ (e4 y hy cs e)⟩
  |mv f k o=>
   obtain⟨l',m2,D2,e1,e2,e3,e4⟩:=kC r _ m D h hW
   exact⟨_,m2,D2,e1,e2,by simp only[aG,e3],fun y hy cs e=>by
    rcases List.mem_cons.1 hy with rfl |hy
    ·cases e
    ·exact bt _ (e4 y hy cs e)⟩
  |sl k n c=>
   obtain⟨l',m2,D2,e1,e2,e3,e4⟩:=kC r _ m D h hW
   exact⟨_,m2,D2,e1,e2,by simp only[aG,e3],fun y hy cs e=>by
    rcases List.mem_cons.1 hy with rfl |hy
    ·cases e
    ·exact bt _ (e4 y hy cs e)⟩
  |cl f ks=>
   obtain⟨l',m2,D2,e1,e2,e3,e4⟩:=kC r _ m D h hW
   exact⟨_,m2,D2,e1,e2,by simp only[aG,e3],fun y hy cs e=>by
    rcases List.mem_cons.1 hy with rfl |hy
    ·cases e
    ·exact bt _ (e4 y hy cs e)⟩
  |agg cs=>
   obtain⟨l',m2,D2,e1,e2,e3,e4⟩:=kC r _ m D h hW
   exact⟨_,m2,D2,e1,e2,by simp only[aG,e3],fun y hy bh e=>by
    rcases List.mem_cons.1 hy with rfl |hy
    ·rw[e];exact bL ..
    ·exact bt _ (e4 y hy bh e)⟩
  |tup l0=>
   obtain⟨l',m2,D2,e1,e2,e3,e4⟩:=kC r _ m D h hW
   exact⟨_,m2,D2,e1,e2,by simp only[aG,e3],fun y hy cs e=>by
    rcases List.mem_cons.1 hy with rfl |hy
    ·cases e
    ·exact bt _ (e4 y hy cs e)⟩
end
section
variable {C:Ctx} {n:Nat} {st:LS} {a:Act} {V:Vl} {D:Nat->Nat} {w:World} {P:Program} {p:ba} {c:Cfg}
theorem mg:∀(l:List SV) (K:List SV->LS->Prop) (m:Mem) (D:Nat->Nat),yf l K ⟨st.env,st.rho,st.bx,st.vc,st.nid,m⟩->SatW C st.bx st.vc st.nid m V D w->
  ∃l' m1 D1,K l' ⟨st.env,st.rho,st.bx,st.vc,st.nid,m1⟩/\SatW C st.bx st.vc st.nid m1 V D1 w/\l'.map (den V)=l.map (den V)
 |[],K,m,D,h,hW=>⟨[],m,D,h,hW,rfl⟩
 |s::r,K,m,D,h,hW=>by
  cases s with
  |agg cs=>
   obtain⟨bh,m1,D1,e1,e2,e3,_⟩:=kC (st:=st) cs _ m D h hW;obtain⟨l',m2,D2,f1,f2,f3⟩:=mg r _ m1 D1 e1 e2;exact⟨_,m2,D2,f1,f2,by simp only[aG,f3,D7,e3]⟩
  |vec k u=>
   simp only[yf,jr] at h;obtain⟨b,hb,h⟩:=ay h;obtain⟨ad,cp,m1,D',h1,h2,h3,h4,h5⟩:=SatW.pub (st:=⟨st.env,st.rho,st.bx,st.vc,st.nid,m⟩) hW hb;obtain⟨l',m2,D2,f1,f2,f3⟩:=mg r _ m1 D' (h ad cp m1 h1 h2 h3) h5;refine⟨_,m2,D2,f1,f2,?_⟩;simp only[aG,fh,List.nil_append,f3];congr 1
   exact h4.symm
  |v x=>
   obtain⟨l',m2,D2,f1,f2,f3⟩:=mg r _ m D h hW;exact⟨_,m2,D2,f1,f2,by simp only[aG,fh,List.nil_append,f3]⟩
  |box k o=>
   obtain⟨l',m2,D2,f1,f2,f3⟩:=mg r _ m D h hW;exact⟨_,m2,D2,f1,f2,by simp only[aG,fh,List.nil_append,f3]⟩
  |vp k u o=>
   obtain⟨l',m2,D2,f1,f2,f3⟩:=mg r _ m D h hW;exact⟨_,m2,D2,f1,f2,by simp only[aG,fh,List.nil_append,f3]⟩
  |vo k u o z=>
   obtain⟨l',m2,D2,f1,f2,f3⟩:=mg r _ m D h hW;exact⟨_,m2,D2,f1,f2,by simp only[aG,fh,List.nil_append,f3]⟩
  |mp k=>
   obtain⟨l',m2,D2,f1,f2,f3⟩:=mg r _ m D h hW;exact⟨_,m2,D2,f1,f2,by simp only[aG,fh,List.nil_append,f3]⟩
  |mv f k o=>
   obtain⟨l',m2,D2,f1,f2,f3⟩:=mg r _ m D h hW;exact⟨_,m2,D2,f1,f2,by simp only[aG,fh,List.nil_append,f3]⟩
  |sl k n c=>
   obtain⟨l',m2,D2,f1,f2,f3⟩:=mg r _ m D h hW;exact⟨_,m2,D2,f1,f2,by simp only[aG,fh,List.nil_append,f3]⟩
  |cl f ks=>
   obtain⟨l',m2,D2,f1,f2,f3⟩:=mg r _ m D h hW;exact⟨_,m2,D2,f1,f2,by simp only[aG,fh,List.nil_append,f3]⟩
  |tup l0=>
   obtain⟨l',m2,D2,f1,f2,f3⟩:=mg r _ m D h hW;exact⟨_,m2,D2,f1,f2,by simp only[aG,fh,List.nil_append,f3]⟩
theorem sU (hS:Sat C n st a V D w) (hp:dV st.rho p) (hc:bC st.rho p=true):∀{l:List Operand} {ss:List SV},oU st p l=some ss->l.map a.eval=ss.map (den V)
 |[],ss,h=>by simp only[oU,cn] at h;subst h;rfl
 |x::r,ss,h=>by
  simp only[oU,Option.bind_eq_some_iff,Option.map_eq_some_iff] at h;obtain⟨s,hs,ss',hr,rfl⟩:=h;simp only[aG,cr hS hp hc hs,sU hS hp hc hr]
theorem Dr {o:Oper} {fo:Operand} {args:Array Operand} {ts:Array TypeId} {f:FuncId} (ho:o.op= .call {callee:= .value fo,args,argTypes:=ts}) (hf:a.eval fo= .func (.func f) #[] #[]) (ao:de P f=true):
  (execOp a.eval o).run P w= .ok (.enter f (args.map a.eval)) w:=by
 unfold de at ao;split at ao
 ·rename_i fn ep;simp only[bw,Bool.not_eq_true'] at ao;have hb:fn.body.isNone=false:=by cases h:fn.body<;>simp_all
  simp only[execOp,ho,resolve,hf,Deferred.ofValue,Sem.run_bind,Sem.run_pure,Result.andThen_ok,invoke,callFunc,run_program,ep,ao.1,hb,Bool.false_eq_true,if_false];simp
 ·cases ao
theorem OF {o:Oper} {fo:Operand} {args:Array Operand} {ts:Array TypeId} {f:FuncId} {x:Value} (ho:o.op= .call {callee:= .value fo,args,argTypes:=ts}) (hf:a.eval fo= .func (.func f) #[x] #[]) (ao:de P f=true):
  (execOp a.eval o).run P w= .ok (.enter f (#[x]++args.map a.eval)) w:=by
 unfold de at ao;split at ao
 ·rename_i fn ep;simp only[bw,Bool.not_eq_true'] at ao;have hb:fn.body.isNone=false:=by cases h:fn.body<;>simp_all
  simp only[execOp,ho,resolve,hf,Deferred.ofValue,Sem.run_bind,Sem.run_pure,Result.andThen_ok,invoke,callFunc,run_program,ep,ao.1,hb,Bool.false_eq_true,if_false];simp
 ·cases ao
theorem OG {o:Oper} {fo:Operand} {args:Array Operand} {ts:Array TypeId} {f:FuncId} {cs:Array Value} (ho:o.op= .call {callee:= .value fo,args,argTypes:=ts}) (hf:a.eval fo= .func (.func f) #[] cs) (ao:de P f=true):
  (execOp a.eval o).run P w= .ok (.enter f (args.map a.eval++cs)) w:=by
 unfold de at ao;split at ao
 ·rename_i fn ep;simp only[bw,Bool.not_eq_true'] at ao;have hb:fn.body.isNone=false:=by cases h:fn.body<;>simp_all
  simp only[execOp,ho,resolve,hf,Deferred.ofValue,Sem.run_bind,Sem.run_pure,Result.andThen_ok,invoke,callFunc,run_program,ep,ao.1,hb,Bool.false_eq_true,if_false];simp
 ·cases ao
theorem Gw (hS:Sat C n st a V D w) {f:FuncId} {ss:List SV} {K:SV->LS->Prop} {R:Ending->World->Prop} (h:yr (.mk (k:=(P,f,K)) (st,ss)))
  (hn:∀s af V' D' w',K s af->af.rho=st.rho->Sat C n af a V' D' w' ->Step st.nid st.vc af.nid af.vc V V' ->R (.returned (den V' s)) w'):Calls P f ⟨ss.map (den V)⟩ w R:=by
 simp only[yr,EC] at h;obtain⟨bg,h⟩:=h;simp only[Cq,FnH] at h;have hW:=hS.w;have ZH:HSat (im (pM st.bx (kM [] ss)) V) D w (dU st (pM st.bx (kM [] ss))):=(zY _ hW.heap).app.1.into bg.2.2.2;have:=h (im (pM st.bx (kM [] ss)) V) w D hW.wf hW.mle ZH;rw[I2 bg.2.2.1] at this;refine this.mono fun e w2 ⟨r,V2,D2,H',m',he,h1,h2,h3,h4,h5,h6,h7,h8,h9,hback,hK⟩=> ?_
 obtain⟨V3,a1,a2,a3,a4⟩:=hW.call (r:=r) ⟨bg.1,bg.2.1,trivial,bg.2.2.2⟩ hback h1 h2 h3 h4 h5 h6 h7 h8 h9;subst he;rw[<- a2];exact hn _ _ V3 D2 w2 hK rfl (hS.to a1 (Nat.le_add_right _ _) a4 a3) ⟨a1,Nat.le_add_right _ _,a4⟩
theorem CG (hS:Sat C n st a V D w) {f:FuncId} {ss:List SV} {b:Bool} {K:SV->LS->Prop} {R:Ending->World->Prop} (h:vM (.mk (k:=(P,f,st,ss,K)) b))
  (hn:∀s af V' D' w',K s af->af.rho=st.rho->Sat C n af a V' D' w' ->Step st.nid st.vc af.nid af.vc V V' ->R (.returned (den V' s)) w'):Calls P f ⟨ss.map (den V)⟩ w R:=by
 cases b with
 |true=>exact Gw hS h hn
 |false=>
  obtain⟨l',m1,D1,e1,e2,e3⟩:=mg (st:=st) ss _ st.m D h hS.w;rw[<- e3];exact Gw (st:=⟨st.env,st.rho,st.bx,st.vc,st.nid,m1⟩) ⟨hS.f,hS.ids,e2⟩ e1 hn
theorem zS (hS:Sat C n st a V D w) {tx:TypeId} {sz:Nat} {y:SV} {K:Nat->List Value->Prop} (eQ:0<sz) (h:oN (.mk (k:=(P,tx,sz,K)) (st,y))):∃m news,K m news/\Src P sz tx (den V y) m news w:=by
 unfold oN at h;split at h
 ·rename_i af k u q;simp only[A.mk.injEq,Prod.mk.injEq] at q;obtain⟨rfl,rfl⟩:=q;obtain⟨e,he,h⟩:=ay h;obtain⟨b,hb,rfl,hK⟩:=ay h;refine⟨_,_,hK,?_⟩;obtain⟨hv,rfl,rfl⟩:=pU hS hb;obtain⟨hn,hl,hx⟩:=ry hv.1;show Src P b.sz tx (Hd.val _) b.n b.xs w;rcases Nat.eq_zero_or_pos b.n with h0 |h0
  ·have r7:b.xs=[]:=List.eq_nil_of_length_eq_zero (by rw[hl,h0,Nat.zero_mul]);unfold Hd.val;rw[hn,h0,r7];cases ha:(V.γ b.id b.ver).a with
   |none=>exact Src.ofNil w (iJ he) _
   |some ad=>exact Src.ofSlice w (iJ he) ad 0 _ [] (by simp) (fun j u hu=>by simp at hu) (fun u hu=>by cases hu)
  ·obtain⟨g,hg,hc⟩:=hx h0;unfold Hd.val;rw[hn,hg];exact Src.ofSlice w (iJ he) ⟨g,0,none⟩ b.n _ b.xs hl (fun j u hu=>by rw[zT];exact hc j u hu) hv.2.2.2
 ·rename_i af x m cp q;simp only[A.mk.injEq,Prod.mk.injEq] at q;obtain⟨rfl,rfl⟩:=q;obtain⟨e,he,xs,h1,h2,hK⟩:=ay h;refine⟨_,_,hK,?_⟩;show Src P sz tx (.slice x m cp) m xs w;rcases Nat.eq_zero_or_pos m with h0 |h0
  ·subst h0;have r7:xs=[]:=List.eq_nil_of_length_eq_zero (by rw[h1.1,Nat.zero_mul]);subst r7;cases x with
   |none=>exact Src.ofNil w (iJ he) _
   |some ad=>exact Src.ofSlice w (iJ he) ad 0 _ [] (by simp) (fun j u hu=>by simp at hu) (fun u hu=>by cases hu)
  ·obtain⟨ad,rfl,hc⟩:=KJ hS.mle h1 h0;exact Src.ofSlice w (iJ he) ad m _ xs h1.1 hc h2
 ·rename_i af s q;simp only[A.mk.injEq,Prod.mk.injEq] at q;obtain⟨rfl,rfl⟩:=q;obtain⟨h1,rfl,hK⟩:=h;refine⟨_,_,hK,?_⟩;rw[vq];exact Src.ofString w h1 s
 ·cases h
theorem AT {b:Vc} {n:Nat} {xs:List Value}:(fD b n xs).id=b.id/\(fD b n xs).ver=b.ver+1:=by cases b;exact⟨rfl,rfl⟩
theorem Dt {k:Nat}:∀(bx:List Bx),(gN bx k).Sublist bx
 |[]=>List.Sublist.refl _
 |⟨k',t',c'⟩::r=>by
  simp only[gN];split
  ·exact .cons _ (List.Sublist.refl _)
  ·exact .cons_cons _ (Dt r)
theorem Hf {k:Nat} {b:Bx}:∀{bx:List Bx},dt bx k=some b->bx.Perm (b::gN bx k)
 |[],h=>by cases h
 |⟨k',t',c'⟩::r,h=>by
  simp only[dt] at h;simp only[gN];split at h
  ·rename_i e;cases h;rw[ai e]
  ·rename_i e;rw[aa e];exact((Hf h).cons _).trans (List.Perm.swap _ _ _)
theorem AO {k:Nat} {b:Bx} {cs:List SV}:∀{bx:List Bx},dt bx k=some b->dt (fS bx k cs) k=some ⟨k,b.ty,cs⟩/\gN (fS bx k cs) k=gN bx k
 |[],h=>by cases h
 |⟨k',t',c'⟩::r,h=>by
  simp only[dt] at h;split at h
  ·rename_i e;cases h;subst e;simp [fS,dt,gN]
  ·rename_i e;simp only[fS,aa e,dt,gN];exact⟨(AO h).1,by rw[(AO h).2]⟩
theorem HT {V:Vl} {bx eU:List Bx} {vc:List Vc} (hp:bx.Perm eU):(aE V ⟨bx,vc⟩).Perm (aE V ⟨eU,vc⟩):=by
 unfold aE;exact(hp.map _).append_right _
theorem SatW.remBx {C:Ctx} {bx:List Bx} {vc:List Vc} {nid:Nat} {m:Mem} {V:Vl} {D:Nat->Nat} {w:World} (h:SatW C bx vc nid m V D w) (k:Nat):SatW C (gN bx k) vc nid m V D w:=by
 have hs:=Dt (k:=k) bx;have oB:(aE V ⟨gN bx k,vc⟩).Sublist (aE V ⟨bx,vc⟩):=by
  unfold aE;exact(hs.map _).append (List.Sublist.refl _)
 exact⟨⟨fun b hb=>h.heap.bx b (hs.subset hb),h.heap.vc,h.heap.apart.sublist oB,h.heap.uniq⟩,h.wf,h.frm,fun b hb=>h.own b (oB.subset hb),h.baseB,h.baseV,⟨fun b hb=>h.ids.1 b (hs.subset hb),h.ids.2⟩,h.le0,h.m0,h.mle⟩
theorem SatW.moveBx {C:Ctx} {bx:List Bx} {vc:List Vc} {nid:Nat} {m:Mem} {V:Vl} {D:Nat->Nat} {w:World} (h:SatW C bx vc nid m V D w) {k:Nat} {b:Bx} (hb:dt bx k=some b):
  ∃V',Agree nid vc V V' /\V'.β nid=V.β k/\SatW C (⟨nid,b.ty,b.cs⟩::gN bx k) vc (nid+1) m V' D w:=by
 obtain⟨hk,hm⟩:=nG hb;have hs:=Dt (k:=k) bx;have hp:=Hf hb;refine⟨{V with β:=fun j=>if j=nid then V.β k else V.β j},zZ V _,ai rfl,?_⟩;have ha:=zZ (nid:=nid) (vc:=vc) V (V.β k);have hold:=h.keepH (w' :=w) ha (fun _ _=>rfl);have er:aE {V with β:=fun j=>if j=nid then V.β k else V.β j} ⟨⟨nid,b.ty,b.cs⟩::gN bx k,vc⟩=aE V ⟨b::gN bx k,vc⟩:=by
  unfold aE;simp only[aG,if_true];rw[hk,List.map_congr_left fun x hx=>(ha x.id (h.ids.1 x (hs.subset hx)).1).1]
 have Lh:(aE V ⟨bx,vc⟩).Perm (aE V ⟨b::gN bx k,vc⟩):=HT hp;refine⟨⟨fun x hx=> ?_,hold.vc,by rw[er];exact(Lh.nodup_iff).1 h.heap.apart,h.heap.uniq⟩,h.wf,h.frm,fun x hx=> ?_,fun x hx=> ?_,fun x hx=> ?_,⟨fun x hx=> ?_,fun x hx=>Nat.lt_succ_of_lt (h.ids.2 x hx)⟩,h.le0,h.m0,h.mle⟩
 ·rcases List.mem_cons.1 hx with rfl |hx
  ·obtain⟨⟨o,h1,h2⟩,h3⟩:=h.heap.bx b hm;rw[hk] at h1 h3;refine⟨⟨o,?_,?_⟩,?_⟩
   ·show w.heap[(if nid=nid then V.β k else V.β nid)]? =_;rw[ai rfl];exact h1
   ·show gL b.ty (b.cs.map (aH _)) o;rw[sV ha (h.ids.1 b hm).2];exact h2
   ·show D (if nid=nid then V.β k else V.β nid)=0;rw[ai rfl];exact h3
  ·exact hold.bx x (hs.subset hx)
 ·rw[er] at hx;exact h.own x (Lh.mem_iff.2 hx)
 ·obtain⟨h1,h2⟩:=h.baseB x hx;exact⟨((ha x.id h2).1).trans h1,Nat.lt_succ_of_lt h2⟩
 ·obtain⟨h1,h2,h3⟩:=h.baseV x hx;exact⟨fun u hu=>h1 u hu,Nat.lt_succ_of_lt h2,h3⟩
 ·rcases List.mem_cons.1 hx with rfl |hx
  ·exact⟨Nat.lt_succ_self _,nD (Nat.le_succ _) (fun _ _ _ h=>h) (h.ids.1 b hm).2⟩
  ·exact⟨Nat.lt_succ_of_lt (h.ids.1 x (hs.subset hx)).1,nD (Nat.le_succ _) (fun _ _ _ h=>h) (h.ids.1 x (hs.subset hx)).2⟩
theorem AY {nid:Nat} {vc:List Vc}:∀l:List Value,cL nid vc (l.map .v)
 |[]=>trivial
 |_::r=>⟨trivial,AY r⟩
theorem DZ {nid:Nat} {vc:List Vc}:∀{a b:List SV},cL nid vc a->cL nid vc b->cL nid vc (a++b)
 |[],_,_,h=>h
 |_::_,_,ha,hb=>⟨ha.1,DZ ha.2 hb⟩
theorem Iw {nid:Nat} {vc:List Vc}:∀{a:List SV} {i:Nat},cL nid vc a->cL nid vc (a.take i)
 |_,0,_=>trivial
 |[],_+1,_=>trivial
 |_::_,i+1,h=>⟨h.1,Iw (i:=i) h.2⟩
theorem lx {V:Vl} (l:List Value):(l.map SV.v).map (aH V)=l:=by
 induction l with
 |nil=>rfl
 |cons x r ih=>simp only[aG,ih];rfl
theorem Ig {k:Nat}:∀(vc:List Vc),(gM vc k).Sublist vc
 |[]=>List.Sublist.refl _
 |⟨k',u',e',z',n',x'⟩::r=>by
  simp only[gM];split
  ·exact .cons _ (List.Sublist.refl _)
  ·exact .cons_cons _ (Ig r)
theorem H3 {k u:Nat}:∀{vc:List Vc},(∀b∈vc,b.id≠k)->aY vc k u
 |[],_=>trivial
 |⟨k',u',e',z',n',x'⟩::r,h=>by
  simp only[aY];rw[aa (h _ (bL ..))];exact H3 fun b hb=>h b (bt _ hb)
theorem wV {k k' u' :Nat}:∀{vc:List Vc},(vc.map (·.id)).Nodup->aY vc k' u' ->aY (gM vc k) k' u'
 |[],_,_=>trivial
 |⟨k0,u0,e0,z0,n0,x0⟩::r,en,h=>by
  simp only[aG,List.nodup_cons] at en;simp only[aY] at h;simp only[gM];split
  ·by_cases hk:k0=k'
   ·exact H3 fun b hb e=>en.1 (by rw[hk,<- e];exact List.mem_map.2 ⟨b,hb,rfl⟩)
   ·rw[aa hk] at h;exact h
  ·simp only[aY];by_cases hk:k0=k'
   ·rw[ai hk] at h ⊢;exact h
   ·rw[aa hk] at h ⊢;exact wV en.2 h
theorem IJ {k u n:Nat} {b:Vc} {xs:List Value}:∀{vc:List Vc},cq vc k u=some b->b.id=k->b.ver=u->∃x,cq (gq vc k (fD b n xs)) k (u+1)=some x/\x.n=n/\x.sz=b.sz/\x.xs=xs
 |[],h,_,_=>by cases h
 |⟨k0,u0,e0,z0,n0,x0⟩::r,h,h1,h2=>by
  simp only[cq] at h;simp only[gq];split at h
  ·rename_i e;rw[ai e];obtain⟨bi,bv,be,bz,bn,bx⟩:=b;dsimp only at h1 h2;subst h1;subst h2;exact⟨⟨bi,bv+1,be,bz,n,xs⟩,by simp [fD,cq],rfl,rfl,rfl⟩
  ·rename_i e;rw[aa e];simp only[cq,aa e];exact IJ h h1 h2
theorem He {k u n:Nat} {b:Vc} {xs:List Value}:∀{vc:List Vc},cq vc k u=some b->b.id=k->gM (gq vc k (fD b n xs)) k=gM vc k
 |[],h,_=>by cases h
 |⟨k0,u0,e0,z0,n0,x0⟩::r,h,h1=>by
  simp only[cq] at h;simp only[gq];split at h
  ·rename_i e;rw[ai e];obtain⟨bi,bv,be,bz,bn,bx⟩:=b;dsimp only at h1;subst h1;simp only[fD,gM,ai e,if_true]
  ·rename_i e;rw[aa e];simp only[gM,aa e];rw[He h h1]
theorem SatW.remVc {C:Ctx} {bx:List Bx} {vc:List Vc} {nid:Nat} {m:Mem} {V:Vl} {D:Nat->Nat} {w:World} (h:SatW C bx vc nid m V D w) (k:Nat):SatW C bx (gM vc k) nid m V D w:=by
 have hs:=Ig (k:=k) vc;have oB:(aE V ⟨bx,gM vc k⟩).Sublist (aE V ⟨bx,vc⟩):=by
  unfold aE;exact(List.Sublist.refl _).append (hs.filterMap _)
 have hv:∀k' u',k' <nid->aY vc k' u' ->aY (gM vc k) k' u' :=fun k' u' _=>wV h.heap.uniq
 exact⟨⟨h.heap.bx,fun b hb=>h.heap.vc b (hs.subset hb),h.heap.apart.sublist oB,h.heap.uniq.sublist (hs.map _)⟩,h.wf,h.frm,fun b hb=>h.own b (oB.subset hb),h.baseB,
  fun b hb=>⟨(h.baseV b hb).1,(h.baseV b hb).2.1,wV h.heap.uniq (h.baseV b hb).2.2⟩,⟨fun b hb=>⟨(h.ids.1 b hb).1,nD (aA _) hv (h.ids.1 b hb).2⟩,fun b hb=>h.ids.2 b (hs.subset hb)⟩,h.le0,h.m0,h.mle⟩
theorem SatW.nidS {C:Ctx} {bx:List Bx} {vc:List Vc} {nid:Nat} {m:Mem} {V:Vl} {D:Nat->Nat} {w:World} (h:SatW C bx vc nid m V D w):SatW C bx vc (nid+1) m V D w:=
 ⟨h.heap,h.wf,h.frm,h.own,fun b hb=>⟨(h.baseB b hb).1,Nat.lt_succ_of_lt (h.baseB b hb).2⟩,fun b hb=>⟨(h.baseV b hb).1,Nat.lt_succ_of_lt (h.baseV b hb).2.1,(h.baseV b hb).2.2⟩,
  ⟨fun b hb=>⟨Nat.lt_succ_of_lt (h.ids.1 b hb).1,nD (Nat.le_succ _) (fun _ _ _ h=>h) (h.ids.1 b hb).2⟩,fun b hb=>Nat.lt_succ_of_lt (h.ids.2 b hb)⟩,h.le0,h.m0,h.mle⟩
theorem R2 {m:Mem} {a:Option Addr} {n sz o:Nat} {xs:List Value} (h:ax m a n sz xs) (ho:o<=n) (c:Nat) (hc:n<=c):ax m (if c=o then a else a.map (·.add (o * sz))) (n - o) sz (xs.drop (o * sz)):=by
 refine⟨by rw[gh,h.1,<- Nat.sub_mul],fun h0=> ?_⟩;rw[aa (by omega)];obtain⟨ad,rfl,hs,hr⟩:=h.2 (by omega);obtain⟨g,f,sp⟩:=ad;dsimp only at hs;subst hs;refine⟨⟨g,f+o * sz,none⟩,by rw[Option.map_some,mz],rfl,fun j hj=> ?_⟩;have an:o * sz+j<n * sz:=by
  have h1:o * sz+(n - o) * sz=n * sz:=by rw[<- Nat.add_mul];congr 1;omega
  omega
 have:=hr (o * sz+j) an;rw[mz] at this ⊢;rw[List.getElem?_drop,Nat.add_assoc];exact⟨this.1,by have:=this.2;dsimp only at this ⊢;omega⟩
theorem NV (hS:Sat C n st a V D w) {t tx e ty:TypeId} {s y:SV} {K:SV->LS->Prop} (he:eb P t=some e) (h:rW (.mk (k:=(P,e,tx,y,K)) (st,s))):
  ∃r af V' D' w',(Builtin.append_ #[t,tx] ty #[den V s,den V y]).run P w= .ok (den V' r) w' /\K r af/\af.rho=st.rho/\Sat C n af a V' D' w' /\Step st.nid st.vc af.nid af.vc V V' :=by
 unfold rW at h;split at h
 ·rename_i af k u q;simp only[A.mk.injEq,Prod.mk.injEq] at q;obtain⟨rfl,rfl⟩:=q;obtain⟨b,hb,h1,h2,h3,h⟩:=ay h;obtain⟨z,hz,h4,h⟩:=ay h;obtain⟨m,news,⟨gI,hK⟩,hsrc⟩:=zS hS h3 h;obtain⟨i,hi,hisz,hiby⟩:=xI h3;obtain⟨zv,hzv,kS⟩:=AL hi hz;obtain⟨hv,jG,hbv⟩:=pU hS hb;have bQ:=hv.1;rw[jG,hbv,h1,h2,<- hisz] at bQ;rw[<- hisz] at hsrc;obtain⟨h',w',bK,hown',gJ⟩:=Aa (ty:=ty) (iJ he) hi hzv (by rw[kS,h4,hisz]) bQ hsrc (by rw[hiby];exact gI);have pD:=hv.2.2;have jX:∀y' ∈b.xs++news,y'.oneCell' =true:=fun y' hy=>(List.mem_append.1 hy).elim (pD.2 y') (hsrc.one y')
  have hU:=hS.w.updVc (w' :=w') (n:=b.n+m) (hd:=h') (xs:=b.xs++news) hb (Nat.mul_le_mul_right _ (Nat.le_add_right _ _))
   (by rcases gJ with ⟨rfl,_⟩ |⟨g,cur,fr,_,_,_,rfl,_⟩ |⟨cc,_,rfl⟩<;>rfl)
   (by rcases gJ with ⟨rfl,_⟩ |⟨g,cur,fr,_,_,_,rfl,_⟩ |⟨cc,_,rfl⟩<;>rfl)
   (by rcases gJ with ⟨rfl,_⟩ |⟨g,cur,fr,_,_,_,rfl,_⟩ |⟨cc,_,rfl⟩<;>rfl)
   (by rcases gJ with ⟨rfl,_⟩ |⟨g,cur,fr,_,_,_,rfl,_⟩ |⟨cc,_,rfl⟩<;>simp)
   (fun x hx cv=>by
    rcases gJ with ⟨rfl,_⟩ |⟨g,cur,fr,_,hg,_,rfl,_⟩ |⟨cc,_,rfl⟩
    ·rfl
    ·exact setRow_other w g x _ (fun e=>cv (e▸hg))
    ·exact sS w.drew _ x hx)
   (fun x hx=>by
    rcases gJ with ⟨rfl,_⟩ |⟨g,cur,fr,_,hg,tR,rfl,hsame⟩ |⟨cc,_,rfl⟩
    ·exact oE rfl
    ·rw[hg] at hx;obtain rfl:g=x:=Option.some.inj hx;rw[tR,setRow_heap w g cur _ e _ tR];exact⟨_,_,_,rfl,fun j hj=>hsame j (by rw[hisz,<- h1];exact hj)⟩
    ·exact oE (sS w.drew _ x (DX bQ hx).2))
   (by rw[h1,h2,<- hisz];exact hown')
   (fun x hx=>by
    rcases gJ with ⟨rfl,rfl⟩ |⟨g,cur,fr,eo,hg,_,rfl,_⟩ |⟨cc,eo,rfl⟩
    ·exact .inl hx
    ·rw[eo] at hx;cases hx;exact .inl hg
    ·rw[eo] at hx;cases hx;exact .inr (aA _))
   jX
  obtain⟨V',ha,hγ,hW⟩:=hU;have BZ:∀k' u',k' <st.nid->aY st.vc k' u' ->aY (gq st.vc k (fD b (b.n+m) (b.xs++news))) k' u' :=fun k' u' _=>CI hb (by rw[AT.1];exact jG) (by rw[AT.2,hbv];exact Nat.le_succ _) k' u'
  refine⟨_,_,V',D,w',?_,hK,rfl,hS.to ha (aA _) BZ hW,⟨ha,aA _,BZ⟩⟩;rw[show den V' (.vec k (u+1))=h'.val from by show Hd.val _=_;rw[hγ]];exact bK
 ·rename_i af k ne c q;simp only[A.mk.injEq,Prod.mk.injEq] at q;obtain⟨rfl,rfl⟩:=q;obtain⟨b,hb,gT,hem,h3,⟨er,pz,kA⟩,h⟩:=ay h;obtain⟨z,hz,h4,h⟩:=ay h;obtain⟨m,news,⟨gI,hK⟩,hsrc⟩:=zS hS h3 h;obtain⟨i,hi,hisz,hiby⟩:=xI h3;obtain⟨zv,hzv,kS⟩:=AL hi hz;obtain⟨hk,hm⟩:=nG hb;obtain⟨⟨o,ho,jB⟩,FO⟩:=hS.heap.bx b hm;rw[hk] at ho;have Mq:b.ty<gn:=by rw[gT];exact hem
  have ER:=xz Mq jB;subst ER;rw[gT] at ho;rw[<- hisz] at hsrc er;have ao:=(hS.w.ids.1 b hm).2;have bq:(b.cs.map (aH V)).length=c * i.size:=by rw[List.length_map,er]
  have bQ:w.ownsRow 0 e i.size (Hd.val ⟨some ⟨V.β k,0,none⟩,ne,c⟩) ne ((b.cs.map (aH V)).take (ne * i.size)):=
   ⟨by rw[List.length_take,bq];exact Nat.min_eq_left (Nat.mul_le_mul_right _ pz),.inr ⟨V.β k,c,_,rfl,aF _,ho,pz,kA,by simp only[List.size_toArray];exact bq,rfl⟩⟩
  obtain⟨h',w',bK,hown',gJ⟩:=Aa (ty:=ty) (iJ he) hi hzv (by rw[kS,h4,hisz]) bQ hsrc (by rw[hiby];exact gI);have fin:∀(g c' :Nat) (cur:Array Value),h' =⟨some ⟨g,0,none⟩,ne+m,c'⟩->ne+m<=c' ->c' <=maxLen->cur.size=c' * i.size->cur.toList.take ((ne+m) * i.size)=(b.cs.map (aH V)).take (ne * i.size)++news->
    (∃V',Agree st.nid st.vc V V' /\V'.β st.nid=g/\SatW C (⟨st.nid,e,b.cs.take (ne * aK P e)++(news.map .v++(cur.toList.drop ((ne+m) * i.size)).map .v)⟩::gN st.bx k) st.vc (st.nid+1) st.m V' D w')->
    ∃r af V' D' w',(Builtin.append_ #[t,tx] ty #[den V (.sl k ne c),den V y]).run P w= .ok (den V' r) w' /\K r af/\af.rho=st.rho/\Sat C n af a V' D' w' /\Step st.nid st.vc af.nid af.vc V V' :=by
   intro g c' cur hh qQ uI uH FH hex;obtain⟨V',ha,hβ,hW⟩:=hex;refine⟨_,_,V',D,w',?_,hK c' _ qQ uI ?_,rfl,hS.to ha (Nat.le_succ _) (fun _ _ _ h=>h) hW,⟨ha,Nat.le_succ _,fun _ _ _ h=>h⟩⟩
   ·rw[show den V' (.sl st.nid (ne+m) c')=h'.val from by rw[hh];show Value.slice (some ⟨V'.β st.nid,0,none⟩) _ _=_;rw[hβ];rfl];exact bK
   ·rw[gh,Array.length_toList,uH,<- hisz,<- Nat.sub_mul]
  have ab6:((b.cs.map (aH V)).take (ne * i.size)).length=ne * i.size:=by rw[List.length_take,bq];exact Nat.min_eq_left (Nat.mul_le_mul_right _ pz)
  have yP:∀rest:List Value,(b.cs.take (ne * aK P e)++(news.map SV.v++rest.map SV.v)).map (aH V)=(b.cs.map (aH V)).take (ne * i.size)++news++rest:=fun rest=>by
   rw[List.map_append,List.map_append,lx,lx,List.map_take,<- hisz,List.append_assoc]
  have Lj:∀rest:List Value,cL st.nid st.vc (b.cs.take (ne * aK P e)++(news.map SV.v++rest.map SV.v)):=fun rest=>DZ (Iw ao) (DZ (AY _) (AY _))
  have hh' :∃g c' cur,h' =⟨some ⟨g,0,none⟩,ne+m,c'⟩/\ne+m<=c' /\c' <=maxLen/\cur.size=c' * i.size/\cur.toList.take ((ne+m) * i.size)=(b.cs.map (aH V)).take (ne * i.size)++news/\w'.heap[g]? =some (.cells cur e (0,0)):=by
   rcases hown'.2 with ⟨hv,h0⟩ |⟨g,cap,cur,hv,_,hg,q1,q2,q3,q4⟩
   ·exfalso;have hn:h'.a=none:=by
     simp only[Hd.val,Value.slice.injEq] at hv;exact hv.1
    have uK:h'.blk=none:=by unfold Hd.blk;rw[hn];rfl
    rcases gJ with ⟨_,rfl⟩ |⟨g,_,_,hg,_⟩ |⟨_,hg,_⟩
    ·cases hn
    ·rw[uK] at hg;cases hg
    ·rw[uK] at hg;cases hg
   ·obtain⟨ha,hn,hc⟩:=h';simp only[Hd.val,Value.slice.injEq] at hv;obtain⟨rfl,rfl,rfl⟩:=hv;exact⟨g,_,cur,rfl,q1,q2,q3,q4,hg⟩
  obtain⟨g,c',cur,hh,qQ,uI,uH,FH,hg⟩:=hh';refine fin g c' cur hh qQ uI uH FH ?_;have tR:cur=⟨(b.cs.map (aH V)).take (ne * i.size)++news++cur.toList.drop ((ne+m) * i.size)⟩:=by
   rw[<- FH,List.take_append_drop]
  have EP:gL b.ty ((b.cs.take (ne * aK P e)++(news.map SV.v++(cur.toList.drop ((ne+m) * i.size)).map SV.v)).map (aH V)) (.cells cur e (0,0)):=by
   rw[yP,<- gT];have:=wS (vs:=(b.cs.map (aH V)).take (ne * i.size)++news++cur.toList.drop ((ne+m) * i.size)) Mq;rwa [<- tR] at this
  have same:g=V.β k->w'.os=w.os->w'.tape=w.tape->w'.output=w.output->w'.heap.size=w.heap.size->(∀x,x≠V.β k->w'.heap[x]? =w.heap[x]?)->
    ∃V',Agree st.nid st.vc V V' /\V'.β st.nid=g/\SatW C (⟨st.nid,e,b.cs.take (ne * aK P e)++(news.map .v++(cur.toList.drop ((ne+m) * i.size)).map .v)⟩::gN st.bx k) st.vc (st.nid+1) st.m V' D w' :=fun e0 e1 e2 e3 e4 e6=>by
   have hW:=hS.w.setOb hb (Lj _) EP e1 e2 e3 e4 (by rw[<- e0];exact hg) e6;obtain⟨V',ha,hβ,nl⟩:=hW.moveBx (AO hb).1;rw[(AO hb).2] at nl;dsimp only at nl;rw[gT] at nl;exact⟨V',ha,by rw[hβ,e0],nl⟩
  rcases gJ with ⟨rfl,rfl⟩ |⟨g2,cur1,cur2,uD,nk,hg3,rfl,hsame⟩ |⟨cc,uD,rfl⟩
  ·have e0:g=V.β k:=by
    have:=congrArg Hd.a hh;simp only[cn,Addr.mk.injEq] at this;exact this.1.symm
   exact same e0 rfl rfl rfl rfl fun _ _=>rfl
  ·have e0:g=V.β k:=by
    rw[hh] at uD;cases uD;cases nk;rfl
   have e2:g2=V.β k:=by cases nk;rfl
   subst e2;exact same e0 rfl rfl rfl (size_setRow _ _ _) fun x hx=>setRow_other w _ x _ hx
  ·have e0:g=w.heap.size:=by
    rw[hh] at uD;cases uD;rfl
   have qv:(w.drew.alloc (.cells cc e)).heap[w.heap.size]? =some (.cells cc e):=heap_alloc_new w.drew _;rw[e0,qv] at hg;have lV:Obj.cells cc e= .cells cur e (0,0):=Option.some.inj hg;rw[lV];have hW1:SatW C (gN st.bx k) st.vc st.nid st.m V D w.drew:=by
    have h:=hS.w.remBx k;exact⟨⟨h.heap.bx,h.heap.vc,h.heap.apart,h.heap.uniq⟩,h.wf,⟨h.frm.os,h.frm.tape,h.frm.output,h.frm.size,h.frm.same⟩,h.own,h.baseB,h.baseV,h.ids,h.le0,h.m0,h.mle⟩
   rw[gT] at EP;obtain⟨V',ha,hβ,nl⟩:=hW1.addBx EP (Lj _);exact⟨V',ha,by rw[hβ,e0];rfl,nl⟩
 ·rename_i af k u o z q;simp only[A.mk.injEq,Prod.mk.injEq] at q;obtain⟨rfl,rfl⟩:=q;obtain⟨b,hb,h1,hzz,h2,h3,ho,hh⟩:=ay h;subst hzz;obtain⟨z0,hz,h4,hh⟩:=ay hh;obtain⟨m,news,⟨gI,hK⟩,hsrc⟩:=zS hS h3 hh;obtain⟨i,hi,hisz,hiby⟩:=xI h3;obtain⟨zv,hzv,kS⟩:=AL hi hz;obtain⟨hv,jG,hbv⟩:=pU hS hb;have bQ:=hv.1;rw[jG,hbv,h1,h2,<- hisz] at bQ;rw[<- hisz] at hsrc;obtain⟨v,w',bK,gJ⟩:=MJ (ty:=ty) (iJ he) hi hzv (by rw[kS,h4,hisz]) bQ ho hsrc (by rw[hiby];exact gI);have pD:=hv.2.2;have jX:∀y' ∈b.xs++news,y'.oneCell' =true:=fun y' hy=>(List.mem_append.1 hy).elim (pD.2 y') (hsrc.one y')
  have XF:∀y' ∈b.xs.drop (o * i.size)++news,y'.oneCell' =true:=fun y' hy=>(List.mem_append.1 hy).elim (fun h=>pD.2 y' (List.mem_of_mem_drop h)) (hsrc.one y')
  rw[show den V (.vo k u o (aK P e))=gA (V.γ k u).a (V.γ k u).c o (V.γ k u).n i.size from by rw[hisz];rfl];rcases gJ with ⟨h',zt,hown',hsame⟩ |⟨h',zt,hown',cc,eo,zq⟩
  ·have hU:=hS.w.updVc (w' :=w') (n:=b.n+m) (hd:=h') (xs:=b.xs++news) hb (Nat.mul_le_mul_right _ (Nat.le_add_right _ _))
    (by rcases hsame with ⟨rfl,_⟩ |⟨g,cur,fr,_,_,_,rfl,_⟩<;>rfl)
    (by rcases hsame with ⟨rfl,_⟩ |⟨g,cur,fr,_,_,_,rfl,_⟩<;>rfl)
    (by rcases hsame with ⟨rfl,_⟩ |⟨g,cur,fr,_,_,_,rfl,_⟩<;>rfl)
    (by rcases hsame with ⟨rfl,_⟩ |⟨g,cur,fr,_,_,_,rfl,_⟩<;>simp)
    (fun x hx cv=>by
     rcases hsame with ⟨rfl,_⟩ |⟨g,cur,fr,_,hg,_,rfl,_⟩
     ·rfl
     ·exact setRow_other w g x _ (fun e=>cv (e▸hg)))
    (fun x hx=>by
     rcases hsame with ⟨rfl,_⟩ |⟨g,cur,fr,_,hg,tR,rfl,hsame⟩
     ·exact oE rfl
     ·rw[hg] at hx;obtain rfl:g=x:=Option.some.inj hx;rw[tR,setRow_heap w g cur _ e _ tR]
      exact⟨_,_,_,rfl,fun j hj=>hsame j (by rw[hisz,<- h1];exact hj)⟩)
    (by rw[h1,h2,<- hisz];exact hown')
    (fun x hx=>by
     rcases hsame with ⟨rfl,rfl⟩ |⟨g,cur,fr,eo,hg,_,rfl,_⟩
     ·exact .inl hx
     ·rw[eo] at hx;cases hx;exact .inl hg)
    jX
   obtain⟨V',ha,hγ,hW⟩:=hU;have BZ:∀k' u',k' <st.nid->aY st.vc k' u' ->aY (gq st.vc k (fD b (b.n+m) (b.xs++news))) k' u' :=fun k' u' _=>CI hb (by rw[AT.1];exact jG) (by rw[AT.2,hbv];exact Nat.le_succ _) k' u'
   have iG:∃x,cq (gq st.vc k (fD b (b.n+m) (b.xs++news))) k (u+1)=some x/\x.n=b.n+m/\x.sz=b.sz/\x.xs=b.xs++news:=IJ hb jG hbv;obtain⟨x,hx,ot,pw,zn⟩:=iG;obtain⟨a',c',m1,D',p1,p2,p3,p4,p5⟩:=SatW.pub (st:=⟨st.env,st.rho,st.bx,gq st.vc k (fD b (b.n+m) (b.xs++news)),st.nid,st.m⟩) hW hx;rw[ot,pw,zn,h1] at p3;rw[ot] at p2 p4;rw[hγ] at p4;simp only[Hd.val,Value.slice.injEq] at p4;obtain⟨q1,q2,q3⟩:=p4;have hR:=R2 p3 (by omega:o<=b.n+m) c' p2;have B9:b.n+m - o=b.n - o+m:=by omega
   rw[B9,List.drop_append_of_le_length (by rw[bQ.1,hisz];exact Nat.mul_le_mul_right _ ho)] at hR;have kX:=(SatW.remVc p5 k).nidS;have vZ:∀k' u',k' <st.nid->aY st.vc k' u' ->aY (gM (gq st.vc k (fD b (b.n+m) (b.xs++news))) k) k' u' :=fun k' u' pA h=>wV hW.heap.uniq (BZ k' u' pA h)
   have hre:gM (gq st.vc k (fD b (b.n+m) (b.xs++news))) k=gM st.vc k:=He hb jG;rw[hre] at kX vZ;refine⟨_,_,V',D',w',?_,hK _ (c' - o) m1 p1 (by omega) hR,rfl,hS.to ha (Nat.le_succ _) vZ kX,⟨ha,Nat.le_succ _,vZ⟩⟩;rw[bK,zt,q1,q2,q3];show Result.ok (gA a' c' o (b.n+m) i.size) w' = .ok (.slice _ _ _) w';unfold gA;rw[hisz,B9]
  ·subst zq;obtain⟨V',ha,hγ,hW⟩:=hS.w.addVc (w' :=w.drew.alloc (.cells cc e)) (hd:=h') rfl rfl rfl (by simp) (fun x hx=>sS w.drew _ x hx) hown' (fun x hx=>by rw[eo] at hx;cases hx;exact aA _) (by rw[hisz];exact h3) XF;obtain⟨a',c',m1,D',p1,p2,p3,p4,p5⟩:=SatW.pub (st:=⟨st.env,st.rho,st.bx,⟨st.nid,0,e,i.size,b.n - o+m,b.xs.drop (o * i.size)++news⟩::st.vc,st.nid+1,st.m⟩) (k:=st.nid) (u:=0) (b:=⟨st.nid,0,e,i.size,b.n - o+m,b.xs.drop (o * i.size)++news⟩) hW (by simp [cq]);rw[hγ] at p4;have kX:=SatW.remVc (SatW.remVc p5 st.nid) k;rw[show gM (⟨st.nid,0,e,i.size,b.n - o+m,b.xs.drop (o * i.size)++news⟩::st.vc) st.nid=st.vc from by simp [gM]] at kX;have vZ:∀k' u',k' <st.nid->aY st.vc k' u' ->aY (gM st.vc k) k' u' :=fun k' u' pA h=>wV hS.w.heap.uniq h
   dsimp only at p2 p3;rw[hisz] at p3;refine⟨_,_,V',D',_,?_,hK a' c' m1 p1 p2 p3,rfl,hS.to ha (Nat.le_succ _) vZ kX,⟨ha,Nat.le_succ _,vZ⟩⟩;rw[bK,zt,p4];rfl
 ·rename_i af q;simp only[A.mk.injEq,Prod.mk.injEq] at q;obtain⟨rfl,rfl⟩:=q;obtain⟨h3,h⟩:=h;obtain⟨z,hz,h4,h⟩:=ay h;obtain⟨m,news,⟨gI,hK⟩,hsrc⟩:=zS hS h3 h;obtain⟨i,hi,hisz,hiby⟩:=xI h3;obtain⟨zv,hzv,kS⟩:=AL hi hz;rw[<- hisz] at hsrc;have bQ:w.ownsRow 0 e i.size (Hd.val ⟨none,0,0⟩) 0 []:=World.ownsRow_nil w 0 e i.size;obtain⟨h',w',bK,hown',gJ⟩:=Aa (ty:=ty) (iJ he) hi hzv (by rw[kS,h4,hisz]) bQ hsrc (by rw[hiby,Nat.zero_add];exact gI);rw[Nat.zero_add,List.nil_append,hisz] at hown';obtain⟨V',ha,hγ,hW⟩:=hS.w.addVc (w' :=w') (hd:=h')
   (by rcases gJ with ⟨rfl,_⟩ |⟨g,cur,fr,_,_,_,rfl,_⟩ |⟨cc,_,rfl⟩<;>rfl)
   (by rcases gJ with ⟨rfl,_⟩ |⟨g,cur,fr,_,_,_,rfl,_⟩ |⟨cc,_,rfl⟩<;>rfl)
   (by rcases gJ with ⟨rfl,_⟩ |⟨g,cur,fr,_,_,_,rfl,_⟩ |⟨cc,_,rfl⟩<;>rfl)
   (by rcases gJ with ⟨rfl,_⟩ |⟨g,cur,fr,_,_,_,rfl,_⟩ |⟨cc,_,rfl⟩<;>simp)
   (fun x hx=>by
    rcases gJ with ⟨rfl,_⟩ |⟨g,cur,fr,_,hg,_,rfl,_⟩ |⟨cc,_,rfl⟩
    ·rfl
    ·cases hg
    ·exact sS w.drew _ x hx)
   hown'
   (fun x hx=>by
    rcases gJ with ⟨rfl,rfl⟩ |⟨g,cur,fr,eo,hg,_,rfl,_⟩ |⟨cc,eo,rfl⟩
    ·cases hx
    ·cases hg
    ·rw[eo] at hx;cases hx;exact aA _)
   h3 hsrc.one
  refine⟨_,_,V',D,w',?_,hK,rfl,hS.to ha (Nat.le_succ _) (fun k u hk hv=>pG rfl k u hk hv) hW,⟨ha,Nat.le_succ _,fun k u hk hv=>pG rfl k u hk hv⟩⟩;rw[show den V' (.vec st.nid 0)=h'.val from by show Hd.val _=_;rw[hγ]];exact bK
 ·cases h
end
theorem GL (z:List Value) (h:0<z.length):∀len:Nat,(List.range (len * z.length)).map (fun i=>z[i % z.length]!)=(List.replicate len z).flatten
 |0=>by simp
 |len+1=>by
  rw[Nat.succ_mul,List.range_add,List.map_append,GL z h len,List.replicate_succ',List.flatten_append];congr 1
  simp only[List.map_map,List.flatten_cons,List.flatten_nil,List.append_nil];apply List.ext_getElem?
  intro j;simp only[List.getElem?_map,Function.comp];rcases Nat.lt_or_ge j z.length with hj |hj
  ·rw[List.getElem?_range hj,List.getElem?_eq_getElem hj];simp only[Option.map_some,cn,Function.comp];rw[Nat.add_comm,Nat.add_mul_mod_self_right,Nat.mod_eq_of_lt hj];simp [List.getElem!_eq_getElem?_getD,List.getElem?_eq_getElem hj]
  ·rw[List.getElem?_eq_none (by simpa using hj),List.getElem?_eq_none hj];rfl
theorem Hw (z:List Value) (len:Nat) (h:0<z.length):(Array.range (len * z.length)).map (fun i=>(⟨z⟩:Array Value)[i % (⟨z⟩:Array Value).size]!)=⟨(List.replicate len z).flatten⟩:=by
 apply Array.ext'
 rw[<- GL z h len];simp
theorem Rn {α β:Type} (f:α->β) (z:List α) (len:Nat):((List.replicate len z).flatten).map f=(List.replicate len (z.map f)).flatten:=by
 induction len with
 |zero=>rfl
 |succ k ih=>simp only[List.replicate_succ,List.flatten_cons,List.map_append,ih]
theorem DE (z:List Value) (len:Nat):((List.replicate len z).flatten).length=len * z.length:=by
 induction len with
 |zero=>simp
 |succ k ih=>simp only[List.replicate_succ,List.flatten_cons,aZ,ih,Nat.succ_mul];omega
theorem Po (z:List Value) {l c:Nat} (h:l<=c):((List.replicate c z).flatten).take (l * z.length)=(List.replicate l z).flatten:=by
 obtain⟨d,rfl⟩:=Nat.exists_eq_add_of_le h;rw[<- List.replicate_append_replicate,List.flatten_append,<- DE z l];exact List.take_left
theorem Rm {z:List Value} {len:Nat} {u:Value} (h:u∈(List.replicate len z).flatten):u∈z:=by
 obtain⟨l,hl,hu⟩:=List.mem_flatten.1 h;rw[List.mem_replicate] at hl;exact hl.2▸hu
theorem Iy {nid:Nat} {vc:List Vc} {c:SV} (hc:gQ nid vc c):∀(cs:List SV) (off:Nat),cL nid vc cs->cL nid vc (cs.set off c)
 |[],_,h=>h
 |_::_,0,h=>⟨hc,h.2⟩
 |_::cs,off+1,h=>⟨h.1,Iy hc cs off h.2⟩
theorem Ix {nid:Nat} {vc:List Vc}:∀(l cs:List SV) (off:Nat),cL nid vc l->cL nid vc cs->cL nid vc (iA cs off l)
 |[],_,_,_,h=>h
 |_::r,_,_,hl,h=>Ix r _ _ hl.2 (Iy hl.1 _ _ h)
section
variable {C:Ctx} {n:Nat} {st:LS} {a:Act} {V:Vl} {D:Nat->Nat} {w:World} {P:Program} {p:ba} {c:Cfg}
theorem Ip {sz:Nat} {st:LS} {p:ba} {z:List SV} (hz:z.length=sz):∀(l:List (Nat×Operand)) (i k:Nat) (pre cs:List SV),pQ sz st p i l=some cs->pre.length=i * sz->cs.length=k * sz->0<sz->
  lu sz st p l (pre++(List.replicate k z).flatten)=some (pre++cs)
 |[],i,k,pre,cs,h,hp,hk,h0=>by
  simp only[pQ,cn] at h;subst h;have:k=0:=by
   rcases Nat.eq_zero_or_pos k with h |h
   ·exact h
   ·have:=Nat.mul_pos h h0;simp only[mb] at hk;omega
  subst this;simp [lu]
 |(j,x)::r,i,k,pre,cs,h,hp,hk,h0=>by
  simp only[pQ] at h;split at h
  ·rename_i e;subst e;simp only[Option.bind_eq_some_iff] at h;obtain⟨l,hl,h⟩:=h;split at h
   ·rename_i fe;obtain⟨bh,dy,rfl⟩:=Option.map_eq_some_iff.1 h;have Mk:0<k:=by
     rcases Nat.eq_zero_or_pos k with h |h
     ·subst h;simp only[aZ,Nat.zero_mul] at hk;omega
     ·exact h
    obtain⟨k',rfl⟩:∃k',k=k' +1:=⟨k - 1,by omega⟩;have gS:(List.replicate (k' +1) z).flatten=z++(List.replicate k' z).flatten:=by rw[List.replicate_succ,List.flatten_cons]
    have pA:bh.length=k' * sz:=by
     rw[Nat.add_mul] at hk;simp only[aZ,fe] at hk;omega
    simp only[lu];have hb:((bM st p x).bind iL)=some l:=by simpa [Option.bind_eq_some_iff] using hl
    rw[hb];simp only[Option.bind_some];rw[ai fe,ai (by rw[aZ,hp,gS,aZ,hz];omega)];rw[gS,DS _ _ _ (by rw[aZ,hp,aZ,hz,fe];omega)];have e1:(pre++(z++(List.replicate k' z).flatten)).take (j * sz)=pre:=by rw[<- hp];exact List.take_left' rfl
    have e2:(pre++(z++(List.replicate k' z).flatten)).drop (j * sz+l.length)=(List.replicate k' z).flatten:=by
     rw[<- List.append_assoc];exact List.drop_left' (by rw[aZ,hp,hz,fe])
    rw[e1,e2,Ip hz r (j+1) k' (pre++l) bh dy (by rw[aZ,hp,fe,Nat.add_mul];omega) pA h0,List.append_assoc]
   ·cases h
  ·cases h
theorem QH {sz len:Nat} {st:LS} {p:ba} {z:List SV} {parts:List (Nat×Operand)} {cs:List SV} (hz:z.length=sz) (h0:0<sz) (h:xV sz st p parts len z (pQ sz st p 0 parts)=some cs):lu sz st p parts (List.replicate len z).flatten=some cs:=by
 cases hs:pQ sz st p 0 parts with
 |none=>rw[hs] at h;exact h
 |some bh=>
  rw[hs] at h;simp only[xV] at h;split at h
  ·rename_i hl;cases h;have:=Ip hz parts 0 len [] _ hs (by simp) hl h0;simpa using this
  ·exact h
theorem F8 (hS:Sat C n st a V D w) (hp:dV st.rho p) (hc:bC st.rho p=true) {sz:Nat}:
  ∀(parts:List (Nat×Operand)) (cs bh:List SV),lu sz st p parts cs=some bh->
   Instr.fill (fun i=>some (i * sz,sz)) ⟨cs.map (aH V)⟩ (parts.map fun x=>(x.1,a.eval x.2))=some ⟨bh.map (aH V)⟩/\bh.length=cs.length
 |[],cs,bh,h=>by simp only[lu,cn] at h;subst h;exact⟨rfl,rfl⟩
 |(i,x)::r,cs,bh,h=>by
  simp only[lu] at h;obtain⟨l,hl,h⟩:=qW h;obtain⟨s,hs,hl⟩:=qW hl;split at h
  ·rename_i eQ;split at h
   ·rename_i lK;have sK:=cr hS hp hc hs;have bq:=zU (V:=V) hl;have yk:(a.eval x).cells.size=l.length:=by rw[sK,bq];simp
    obtain⟨ih,ihl⟩:=F8 hS hp hc r _ bh h;refine⟨?_,by rw[ihl,Ic]⟩;simp only[aG,Instr.fill]
    rw[aa (by
     simp only[yk,List.size_toArray,List.length_map,Bool.or_eq_true,cS,not_or,Decidable.not_not]
     exact⟨by simpa using eQ,by omega⟩)]
    have EA:((a.eval x).cells.zipIdx.foldl (fun(cs:Array Value) (y:Value×Nat)=>cs.setIfInBounds (i * sz+y.2) y.1) ⟨cs.map (aH V)⟩)=⟨(iA cs (i * sz) l).map (aH V)⟩:=by
     rw[sK,bq,<- Array.foldl_toList];have:=DB (V:=V) l cs (i * sz) 0;simp only[Nat.add_zero] at this;rw[<- this];simp [Array.toList_zipIdx]
    rw[<- ih,<- EA]
   ·cases h
  ·cases h
theorem MM (hS:Sat C n st a V D w) (hp:dV st.rho p) (hc:bC st.rho p=true) {t e:TypeId} {len:Nat} {parts:Array (Nat×Operand)} {z cs:List SV}
    (he:eb P t=some e) (hz:cU P e=some z) (pv:z.length=aK P e) (h0:0<aK P e) (Lu:len * aK P e<=16777216) (h:lu (aK P e) st p parts.toList (List.replicate len z).flatten=some cs):
    (Instr.buildSlice t len (parts.map fun x=>(x.1,a.eval x.2))).run P w= .ok (.slice (some ⟨w.heap.size,0,none⟩) len len) (w.alloc (.cells ⟨cs.map (aH V)⟩ e))/\cs.length=len * aK P e:=by
  obtain⟨vJ,hlen⟩:=F8 hS hp hc _ _ _ h;have vI:cs.length=len * aK P e:=by
    rw[hlen];have:((List.replicate len z).flatten).length=len * z.length:=by
      induction len with
      |zero=>simp
      |succ k _=>simp
    rw[this,pv]
  refine⟨?_,vI⟩;obtain⟨zv,hzv,hzc⟩:=CH (V:=V) (w:=w) hz;have KA:(parts.map fun x=>(x.1,a.eval x.2)).toList=parts.toList.map fun x=>(x.1,a.eval x.2):=by simp
  simp only[Instr.buildSlice,Sem.run_bind,run_underlying (iJ he),Result.andThen_ok,vg h0]
  rw[aa (by have:(2:Nat) ^ 24=16777216:=by decide
            omega)]
  rcases Nat.eq_zero_or_pos len with hl |hl
  · subst hl
    simp only[Nat.zero_mul,Array.range_zero',List.replicate_zero,List.flatten_nil] at h vJ ⊢;have dy:cs=[]:=List.eq_nil_of_length_eq_zero (by simpa using vI);subst dy;simp only[if_true,Sem.run_pure,Result.andThen_ok,KA,Sem.run_bind];simp only[List.map_nil] at vJ;have:(#[]:Array Nat).map (fun i=>(#[]:Array Value)[i % (#[]:Array Value).size]!)= #[]:=by simp
    rw[this];rw[vJ];simp [newRow]
  · have cv:¬len * aK P e=0:=by have:=Nat.mul_pos hl h0;omega
    rw[aa cv];simp only[Sem.run_bind,Sem.run_pure,Result.andThen_ok,hzv,hzc,KA];have XI:(Array.range (len * aK P e)).map (fun i=>(⟨z.map (aH V)⟩:Array Value)[i % (⟨z.map (aH V)⟩:Array Value).size]!)=⟨((List.replicate len z).flatten).map (aH V)⟩:=by
      have:=Hw (z.map (aH V)) len (by simp;omega);simp only[List.length_map,pv] at this;rw[this,Rn]
    rw[XI,vJ];simp [newRow]
theorem pT {o:Oper} {v:Value} {w' :World} {next:Act->World->Prop} {Q:Exit->Act->World->Prop} (h:(execOp a.eval o).run P w= .ok (.value v) w') (hn:next (a.put o.dst v) w'):o.wp P a w next Q:=by
 unfold Oper.wp;rw[h];exact hn
theorem HY {o:Oper} {w' :World} {next:Act->World->Prop} {Q:Exit->Act->World->Prop} (h:(execOp a.eval o).run P w= .ok .skip w') (hn:next (a.put o.dst undef) w'):o.wp P a w next Q:=by
 unfold Oper.wp;rw[h];exact hn
theorem Pf (hS:Sat C n st a V D w) (hp:dV st.rho p) (hc:bC st.rho p=true) {o:Oper} {op:Op} (ho:o.op=op) {K:SV->LS->Prop} (h:kz (.mk (k:=(c,P,op,K)) (st,p)))
  {next:Act->World->Prop} {Q:Exit->Act->World->Prop} (hn:∀s af V' D' w',K s af->af.rho=st.rho->Sat C n af a V' D' w' ->Step st.nid st.vc af.nid af.vc V V' ->next (a.put o.dst (den V' s)) w'):o.wp P a w next Q:=by
 unfold kz at h;split at h
 ·rename_i t af p' q;cases q;obtain⟨cs,hz,dw,ao,hK⟩:=ay h;obtain⟨zv,hzv,hzc⟩:=CH (V:=V) (w:=w) hz;obtain⟨V',ha,hβ,hW⟩:=hS.w.addBx (t:=t) (wS dw) ao;have bK:(Instr.alloc t true (.tuple #[])).run P w= .ok (.pointer (some ⟨w.heap.size,0,none⟩)) (w.alloc (.cells ⟨cs.map (aH V)⟩ t)):=by
   simp [Instr.alloc,hzv,newVar,newRow,hzc]
  refine pT (v:= .pointer (some ⟨w.heap.size,0,none⟩)) (by simp only[execOp,ho];exact gF bK) ?_;have:=hn _ _ V' D _ hK rfl (hS.to ha (Nat.le_succ _) (fun _ _ _ h=>h) hW) ⟨ha,Nat.le_succ _,fun _ _ _ h=>h⟩;rwa [vk,hβ] at this
 ·rename_i t x af p' q;cases q;obtain⟨cs,dy,dw,ao,hK⟩:=ay h;obtain⟨s,hs,dy⟩:=qW dy;obtain⟨V',ha,hβ,hW⟩:=hS.w.addBx (t:=t) (wS dw) ao;have bq:=zU (V:=V) dy;have bK:(Instr.box t (den V s)).run P w= .ok (.pointer (some ⟨w.heap.size,0,none⟩)) (w.alloc (.cells ⟨cs.map (aH V)⟩ t)):=by
   simp [Instr.box,newVar,newRow,bq]
  refine pT (v:= .pointer (some ⟨w.heap.size,0,none⟩)) (by simp only[execOp,ho,cr hS hp hc hs];exact gF bK) ?_;have:=hn _ _ V' D _ hK rfl (hS.to ha (Nat.le_succ _) (fun _ _ _ h=>h) hW) ⟨ha,Nat.le_succ _,fun _ _ _ h=>h⟩;rwa [vk,hβ] at this
 ·rename_i t x y af p' q;cases q;obtain⟨sx,hx,h1⟩:=ay h;obtain⟨cs,dy,h2⟩:=ay h1;obtain⟨sy,hy,dy⟩:=qW dy;clear h h1;unfold By at h2;split at h2
  ·rename_i af k off q;simp only[A.mk.injEq,Prod.mk.injEq] at q;obtain⟨rfl,rfl⟩:=q;obtain⟨b,hb,dw,h0,eQ,jX,ao,lK,hK⟩:=ay h2;obtain⟨jG,cN⟩:=nG hb;obtain⟨ob,qv,jB⟩:=(hS.heap.bx b cN).1;have ER:=xz dw jB;subst ER;rw[jG] at qv;have ab8:(cs.map (aH V))=cs.map (aH V):=rfl
   have hW:=hS.w.setBx (cs:=iA b.cs off cs) hb dw (by
    have pD:=(hS.w.ids.1 b cN).2
    exact Ix cs b.cs off ao pD)
   have bq:=zU (V:=V) dy;have eG:=run_storeCells_at P (V.β k) off b.ty (cs.map (aH V)) 0 ⟨b.cs.map (aH V)⟩ w qv (by simp;exact lK) (mu jX);have bK:(Instr.storeAt t (.pointer (some ⟨V.β k,off,none⟩)) (den V sy)).run P w= .ok () (w.setRow (V.β k) ⟨(iA b.cs off cs).map (aH V)⟩):=by
    have yk:(den V sy).cells.size=aK P t:=by rw[bq];simpa using eQ
    simp only[Instr.storeAt,Instr.sureAddr,Sem.run_bind,Sem.run_pure,Result.andThen_ok,storeVar,vg h0];rw[aa (by rw[yk];simp)];rw[bq];rw[DS _ _ _ lK];simp only[Nat.add_zero] at eG;simp only[List.map_append,List.map_take,List.map_drop];rw[<- List.length_map (f:=aH V)];exact eG
   refine HY (w' :=w.setRow (V.β k) ⟨(iA b.cs off cs).map (aH V)⟩) (by
    simp only[execOp,ho,cr hS hp hc hx,cr hS hp hc hy,vk,Sem.run_bind,bK,Result.andThen_ok,Sem.run_pure]) ?_
   exact hn _ _ V D _ hK rfl (hS.to (Agree.refl _ _ _) (aA _) (fun _ _ _ h=>h) hW) ⟨Agree.refl _ _ _,aA _,fun _ _ _ h=>h⟩
  ·cases h2
 ·rename_i t len parts af p' q;cases q;obtain⟨e,he,h⟩:=ay h;obtain⟨z,hz,pv,h0,Lu,h⟩:=ay h;obtain⟨cs,dy,h⟩:=ay h;have dy:=QH pv h0 dy;obtain⟨l',m1,D1,e1,e2,e3,_⟩:=kC (st:=st) cs _ st.m D h hS.w;obtain⟨l,hl,jX,hK⟩:=ay e1;have gB:=Ae (V:=V) hl;obtain⟨bK,hclen⟩:=MM hS hp hc he hz pv h0 Lu dy;rw[<- e3,gB] at bK;have nj:l.length=len * aK P e:=by
   rw[<- gB,e3,List.length_map,hclen]
  obtain⟨V',ha,hγ,hW⟩:=SatW.addVc (w' :=w.alloc (.cells ⟨l⟩ e)) (hd:=⟨some ⟨w.heap.size,0,none⟩,len,len⟩) (e:=e) (sz:=aK P e) (n:=len) (xs:=l) e2 rfl rfl rfl (by simp) (fun b hb=>sS w _ b hb)
   ⟨nj,.inr ⟨w.heap.size,len,⟨l⟩,rfl,aF _,heap_alloc_new w _,aA _,by
    have:len<=len * aK P e:=Nat.le_mul_of_pos_right _ h0
    simp only[maxLen];omega,by simpa using nj,by rw[<- nj];simp⟩⟩
   (fun g hg=>by simp only[Hd.blk,Option.map_some,cn] at hg;omega) h0
   (fun u hu=>by rw[<- gB] at hu;exact mu jX u hu)
  refine pT (v:= .slice (some ⟨w.heap.size,0,none⟩) len len) (by simp only[execOp,ho];exact gF bK) ?_;have:=hn _ _ V' D1 _ hK rfl (Sat.to (st:=⟨st.env,st.rho,st.bx,st.vc,st.nid,m1⟩) ⟨hS.f,hS.ids,e2⟩ ha (Nat.le_succ _) (fun k u hk hv=>pG rfl k u hk hv) hW) ⟨ha,Nat.le_succ _,fun k u hk hv=>pG rfl k u hk hv⟩;rwa [show den V' (.vec st.nid 0)= .slice (some ⟨w.heap.size,0,none⟩) len len from by show Hd.val _=_;rw[hγ];rfl] at this
 ·rename_i x y t tx af p' q;cases q;obtain⟨sx,hx,h⟩:=ay h;obtain⟨sy,hy,h⟩:=ay h;obtain⟨e,he,h⟩:=ay h;obtain⟨r,af,V',D',w',bK,hK,ev,dz,ha⟩:=NV (ty:=o.type) hS he h;rw[<- cr hS hp hc hx,<- cr hS hp hc hy] at bK
  refine pT (v:=den V' r) (by
   simp only[execOp,ho,resolve,Sem.run_bind,Sem.run_pure,Result.andThen_ok,invoke,builtin]
   simp only[List.map_toArray,aG,List.map_nil,bK,Result.andThen_ok]) (hn _ _ V' D' w' hK ev dz ha)
 ·rename_i t l cp af p' q;cases q;obtain⟨sl,hl,h1⟩:=ay h;obtain⟨sc,bN,h2⟩:=ay h1;obtain⟨e,he,h3⟩:=ay h2;obtain⟨z,hz,h4⟩:=ay h3;clear h h1 h2 h3;obtain⟨zs,kS,hz⟩:=qW hz;unfold BV at h4;split at h4
  ·rename_i af kl l' kc c' q;simp only[A.mk.injEq,Prod.mk.injEq] at q;obtain⟨rfl,rfl,rfl⟩:=q;obtain⟨zz,Fx,gI,pv,h0,jX,hK⟩:=h4;obtain⟨i,hi,hisz,hiby⟩:=xI h0;have EO:=kS;unfold cU at EO;simp only[Option.map_eq_some_iff,Option.bind_eq_some_iff] at EO;obtain⟨zv,⟨i',kV,hzv⟩,hzz⟩:=EO;rw[hi] at kV;cases kV;have Zs:zv.cells=⟨z⟩:=by
    have:=Ae (V:=V) hz;rw[<- hzz,vE] at this;rw[<- this]
   have XN:0<=c' :=by omega
   have bK:=run_make (P:=P) w t e i zv (iJ he) hi hzv kl kc l' c' zz Fx (by
    have:=gI.1;rw[<- hiby] at this;have hh:((i.bytes * c'.toNat:Nat):Int)<=281474976710656:=by rw[Nat.mul_comm];omega
    rw[Int.natCast_mul,Int.toNat_of_nonneg XN] at hh
    exact hh) (by have:=gI.2;simp only[maxLen] at this;omega)
   have Vz:madeCells zv.cells (c'.toNat * i.size)=⟨(List.replicate c'.toNat z).flatten⟩:=by
    unfold madeCells;rw[Zs,hisz,<- pv];exact Hw z _ (by omega)
   rw[Vz] at bK;have hlen:((List.replicate l'.toNat z).flatten).length=l'.toNat * aK P e:=by rw[DE,pv]
   obtain⟨V',ha,hγ,hW⟩:=SatW.addVc (w' :=w.alloc (.cells ⟨(List.replicate c'.toNat z).flatten⟩ e)) (hd:=⟨some ⟨w.heap.size,0,none⟩,l'.toNat,c'.toNat⟩) (e:=e) (sz:=aK P e) (n:=l'.toNat) (xs:=(List.replicate l'.toNat z).flatten)
    hS.w rfl rfl rfl (by simp) (fun b hb=>sS w _ b hb)
    ⟨hlen,.inr ⟨w.heap.size,c'.toNat,⟨(List.replicate c'.toNat z).flatten⟩,rfl,aF _,heap_alloc_new w _,by omega,gI.2,by simp only[List.size_toArray,DE,pv],by
     show((List.replicate c'.toNat z).flatten).take (l'.toNat * aK P e)=_
     rw[<- pv];exact Po z (by omega)⟩⟩
    (fun g hg=>by simp only[Hd.blk,Option.map_some,cn] at hg;omega) h0
    (fun u hu=>by
     have:=mu (V:=V) jX u;rw[vE] at this
     exact this (Rm hu))
   refine pT (v:= .slice (some ⟨w.heap.size,0,none⟩) l'.toNat c'.toNat) (by
    simp only[execOp,ho,cr hS hp hc hl,cr hS hp hc bN,db]
    exact gF bK) ?_
   have:=hn _ _ V' D _ hK rfl (hS.to ha (Nat.le_succ _) (fun k u hk hv=>pG rfl k u hk hv) hW) ⟨ha,Nat.le_succ _,fun k u hk hv=>pG rfl k u hk hv⟩;rwa [show den V' (.vec st.nid 0)= .slice (some ⟨w.heap.size,0,none⟩) l'.toNat c'.toNat from by show Hd.val _=_;rw[hγ];rfl] at this
  ·cases h4
 ·rename_i t af p' q;cases q;obtain⟨uv,h⟩:=h;obtain⟨V',ha,hβ,hW⟩:=hS.w.addBx (t:=(dM P t).1) (cs:=[]) (o:= .map #[] 0) (by unfold gL;rw[aa (Nat.not_lt.2 uv.1)];exact⟨#[],0,[],rfl,rfl,rfl,fun x hx=>by cases hx⟩) trivial;have bK:(Instr.makeMap t (Option.map a.eval none)).run P w= .ok (.map (some w.heap.size)) (w.alloc (.map #[] 0)):=by
   simp [Instr.makeMap]
  refine pT (v:= .map (some w.heap.size)) (by simp only[execOp,ho];exact gF bK) ?_;have:=hn _ _ V' D _ h rfl (hS.to ha (Nat.le_succ _) (fun _ _ _ h=>h) hW) ⟨ha,Nat.le_succ _,fun _ _ _ h=>h⟩;rwa [show den V' (.mp st.nid)= .map (some w.heap.size) from by show Value.map _=_;rw[hβ]] at this
 ·rename_i f l af p' q;cases q;obtain⟨ss,qJ,h1⟩:=ay h;obtain⟨ks,hks,h2⟩:=ay h1;clear h h1;have yQ:∀{ss:List SV} {ks:List Nat},tm ss=some ks->ss.map (den V)=ks.map (fun k=>Value.pointer (some ⟨V.β k,0,none⟩))/\∀{nid:Nat} {vc:List Vc},(∀s∈ss,fb nid vc s)->sC nid ks:=by
   intro ss;induction ss with
   |nil=>intro ks h;cases h;exact⟨rfl,fun _=>trivial⟩
   |cons s r ih=>
    intro ks h;unfold tm at h;split at h
    ·rename_i e;cases e
    ·rename_i k r' e;cases e;obtain⟨ks',hk,rfl⟩:=Option.map_eq_some_iff.1 h;obtain⟨i1,i2⟩:=ih hk;exact⟨by simp only[aG,i1];rfl,fun hs=>⟨hs _ (bL ..),i2 fun s B5=>hs s (bt _ B5)⟩⟩
    ·cases h
  have bK:(Instr.makeFunc (.func f) (Array.map a.eval #[]) (Array.map a.eval ⟨l⟩)).run P w= .ok (den V (.cl f ks)) w:=by
   have e:Array.map a.eval ⟨l⟩=⟨ks.map fun k=>Value.pointer (some ⟨V.β k,0,none⟩)⟩:=by
    apply Array.ext'
    rw[Array.toList_map,sU hS hp hc qJ,(yQ hks).1]
   rw[e];simp [Instr.makeFunc];rfl
  refine pT (v:=den V (.cl f ks)) (by simp only[execOp,ho];exact gF bK) ?_;exact hn _ _ V D _ h2 rfl (hS.to (Agree.refl _ _ _) (aA _) (fun _ _ _ h=>h) hS.w) ⟨Agree.refl _ _ _,aA _,fun _ _ _ h=>h⟩
 ·rename_i f r af p' q;cases q;obtain⟨sr,hr,h1⟩:=ay h;clear h;unfold BU at h1;split at h1
  ·rename_i af k o' q;simp only[A.mk.injEq,Prod.mk.injEq] at q;obtain⟨rfl,rfl⟩:=q;have bK:(Instr.makeFunc (.func f) (Array.map a.eval #[r]) (Array.map a.eval #[])).run P w= .ok (den V (.mv f k o')) w:=by
    have e:Array.map a.eval #[r]= #[den V (.box k o')]:=by
     apply Array.ext'
     simp only[Array.toList_map,aG,List.map_nil];rw[cr hS hp hc hr]
    rw[e];simp [Instr.makeFunc];rfl
   refine pT (v:=den V (.mv f k o')) (by simp only[execOp,ho];exact gF bK) ?_;exact hn _ _ V D _ h1 rfl (hS.to (Agree.refl _ _ _) (aA _) (fun _ _ _ h=>h) hS.w) ⟨Agree.refl _ _ _,aA _,fun _ _ _ h=>h⟩
  ·cases h1
 ·rename_i t m k x af p' q;cases q;obtain⟨sm,hm,h1⟩:=ay h;obtain⟨sk,hk,h2⟩:=ay h1;obtain⟨sx,hx,h3⟩:=ay h2;clear h h1 h2;unfold Bz at h3;split at h3
  ·rename_i af j s v q;simp only[A.mk.injEq,Prod.mk.injEq] at q;obtain⟨rfl,rfl,hpk,hpv⟩:=q;obtain⟨b,hb,dw,ht,uA,hvv,h4⟩:=ay h3;obtain⟨l,hl,hK⟩:=ay h4;have BG:=beq_iff_eq.1 dw;obtain⟨es,fy,l',e1,e2,e3,e4⟩:=Ks hS hb (by rw[BG];exact ht.1);rw[Ak hl] at e2;subst e2;have Mz:=e4;rw[BG] at Mz;obtain⟨sN,tV,bK,hes'⟩:=Ns (P:=P) (w:=w) ht e1 e3 Mz (by rw[<- BG];exact uA) v;rw[Il] at hK;have an:V.β j<w.heap.size:=(Array.getElem?_eq_some_iff.1 e1).1;have yP:((iB (jU l' s v)).map SV.v).map (aH V)=iB (jU l' s v):=by rw[List.map_map];exact List.map_id'' (fun _=>rfl) _
   have Zv:cL st.nid st.vc ((iB (jU l' s v)).map SV.v):=by
    generalize iB (jU l' s v)=z
    induction z with
    |nil=>trivial
    |cons y z ih=>exact⟨trivial,ih⟩
   have hW:=hS.w.setOb (w' :={w with heap:=w.heap.setIfInBounds (V.β j) (.map sN tV)}) (o:= .map sN tV) (cs:=(iB (jU l' s v)).map SV.v) hb Zv
    (by unfold gL;rw[aa (Nat.not_lt.2 (by rw[BG];exact ht.1)),yP];exact⟨sN,tV,_,rfl,rfl,hes',Js uA hvv e4⟩) rfl rfl rfl (by simp) (MapKept.heap_set e1).1 (fun g hg=>(MapKept.heap_set e1).2 g hg)
   refine HY (w' :={w with heap:=w.heap.setIfInBounds (V.β j) (.map sN tV)}) (by
    simp only[execOp,ho,cr hS hp hc hm,cr hS hp hc hk,cr hS hp hc hx,Sem.run_bind];rw[show den V (.mp j)= .map (some (V.β j)) from rfl,Al hpk,Al hpv,bK]
    rfl) ?_
   exact hn _ _ V D _ hK rfl (hS.to (Agree.refl _ _ _) (aA _) (fun _ _ _ h=>h) hW) ⟨Agree.refl _ _ _,aA _,fun _ _ _ h=>h⟩
  ·cases h3
 ·rename_i fo args _ af p' q;cases q;obtain⟨l,hl,h1⟩:=ay h;obtain⟨sf,hf,h2⟩:=ay h1;clear h h1;unfold vG at h2;split at h2
  ·rename_i af f q;simp only[A.mk.injEq,Prod.mk.injEq] at q;obtain⟨rfl,rfl⟩:=q;obtain⟨ao,h3⟩:=h2;have bK:=Dr (w:=w) ho (cr hS hp hc hf) ao;unfold Oper.wp;rw[bK];have lE:args.map a.eval=⟨l.map (den V)⟩:=by
    apply Array.ext'
    rw[Array.toList_map,sU hS hp hc hl]
   rw[lE];refine CG (R:=fun | .returned v,jZ=>next (a.put o.dst v) jZ | .panicked chain,jZ=>Q (.panic chain) a jZ | .outgrown,_=>LetsOut Q) hS h3 ?_;intro s af V' D' w' hK ev dz ha;exact hn s af V' D' w' hK ev dz ha
  ·rename_i af f k o' q;simp only[A.mk.injEq,Prod.mk.injEq] at q;obtain⟨rfl,rfl⟩:=q;obtain⟨ao,h3⟩:=h2;have bK:=OF (w:=w) ho (cr hS hp hc hf) ao;unfold Oper.wp;rw[bK];have lE: #[Value.pointer (some ⟨V.β k,o',none⟩)]++args.map a.eval=⟨(SV.box k o' ::l).map (den V)⟩:=by
    apply Array.ext'
    simp only[Array.toList_append,Array.toList_map,sU hS hp hc hl,aG];rfl
   rw[lE];refine CG (R:=fun | .returned v,jZ=>next (a.put o.dst v) jZ | .panicked chain,jZ=>Q (.panic chain) a jZ | .outgrown,_=>LetsOut Q) hS h3 ?_;intro s af V' D' w' hK ev dz ha;exact hn s af V' D' w' hK ev dz ha
  ·rename_i af f ks q;simp only[A.mk.injEq,Prod.mk.injEq] at q;obtain⟨rfl,rfl⟩:=q;obtain⟨ao,h3⟩:=h2;have bK:=OG (w:=w) ho (cr hS hp hc hf) ao;unfold Oper.wp;rw[bK];have lE:args.map a.eval++⟨ks.map fun k=>Value.pointer (some ⟨V.β k,0,none⟩)⟩=⟨(l++ks.map fun k=>SV.box k 0).map (den V)⟩:=by
    apply Array.ext'
    simp only[Array.toList_append,Array.toList_map,sU hS hp hc hl,List.map_append,List.map_map];rfl
   rw[lE];refine CG (R:=fun | .returned v,jZ=>next (a.put o.dst v) jZ | .panicked chain,jZ=>Q (.panic chain) a jZ | .outgrown,_=>LetsOut Q) hS h3 ?_;intro s af V' D' w' hK ev dz ha;exact hn s af V' D' w' hK ev dz ha
  ·cases h2
 ·cases h
end
def jS (n:Nat) (o:Oper):Bool:=match o.dst with |some d=>decide (d<n) |none=>true
def RInv (ops:Array Oper) (L:Nat->Prop) (rho:List Gd):Prop:=∀g∈rho,L g.i/\(ops[g.i]?).bind (·.dst)=some g.slot
def cw (c:Cfg) (P:Program):Prop:=
 ∀f F,c.pure f=some F->de P f=true/\∀m aN y,F m aN=some y->y.1->FnH P f (aN.map SV.v) ⟨[],[]⟩ m (fun r H' _=>r= .v y.2/\H' =⟨[],[]⟩)
theorem wR {g:Gd} {rho:List Gd} {j:Nat} (h:g.i≠j):ek (g::rho) j=ek rho j:=by
 obtain⟨i,t,p,b⟩:=g;simp only[ek];rw[aa h]
theorem zV {g:Gd} {rho:List Gd}:ek (g::rho) g.i=some g:=by
 obtain⟨i,t,p,b⟩:=g;simp only[ek,if_true]
theorem Dk {g:Gd} {rho:List Gd} {p:ba} (h:dV rho p):dV (g::rho) p:=fun x hx=>by
 obtain⟨g',eo⟩:=h x hx;by_cases e:g.i=x.1
 ·exact⟨g,by rw[<- e];exact zV⟩
 ·exact⟨g',by rw[wR e];exact eo⟩
theorem Pm {g:Gd} {rho:List Gd} {j:Nat} {w:Bool} (h:g.i≠j):kN (g::rho) j w=kN rho j w:=by
 unfold kN;rw[wR h]
theorem G2 {g:Gd} {rho:List Gd}:∀{p:ba},(∀x∈p,x.1≠g.i)->bC (g::rho) p=bC rho p
 |[],_=>rfl
 |(j,w)::p,h=>by
  simp only[bC];rw[Pm (fun e=>h (j,w) (bL ..) e.symm),G2 fun x hx=>h x (bt _ hx)]
theorem UU {rho:List Gd} {i:Nat} (hi:∀g∈rho,g.i≠i) {p:ba} (h:dV rho p):∀x∈p,x.1≠i:=fun x hx e=>by
 obtain⟨g,hg⟩:=h x hx;obtain⟨h1,h2⟩:=Bc hg;exact hi g h2 (h1.trans e)
theorem GN:∀p:ba,mF p p=true
 |[]=>rfl
 |(j,w)::p=>by simp only[mF,if_true];exact GN p
theorem Qj:∀p:ba,ku p p=true
 |[]=>rfl
 |x::p=>by simp only[ku];rw[ai (GN _)]
theorem S5 {env:List Ev} {t:Nat} {q:ba} {s:SV} (h:dP env t q=some s):∃e∈env,ku e.p q=true/\dP env t e.p=some s:=by
 induction env with
 |nil=>cases h
 |cons x r ih=>
  obtain⟨t',p',s'⟩:=x;simp only[dP] at h;split at h
  ·rename_i ht;split at h
   ·rename_i um;refine⟨_,bL ..,um,?_⟩;simp only[dP];rw[ai ht,ai (Qj p')];exact h
   ·cases h
  ·rename_i ht;obtain⟨e,he,h1,h2⟩:=ih h;refine⟨e,bt _ he,h1,?_⟩;simp only[dP];rw[aa ht];exact h2
theorem HD {d:Nat}:∀{rho:List Gd},gP rho (some d)=false->∀g∈rho,g.slot≠d
 |[],_,_,hg=>by cases hg
 |⟨i,t,p,b⟩::r,h,g,hg=>by
  simp only[gP] at h;split at h
  ·cases h
  ·rename_i cv;rcases List.mem_cons.1 hg with rfl |hg
   ·exact cv
   ·exact HD h g hg
section
variable {C:Ctx} {n:Nat} {st:LS} {a:Act} {V:Vl} {D:Nat->Nat} {w:World} {P:Program} {p:ba} {c:Cfg} {ops:Array Oper} {L:Nat->Prop} {i:Nat} {o:Oper}
theorem DU (hS:Sat C n st a V D w) {d:Nat} (hd:d<n) (v:Value):(a.put (some d) v).tmps[d]? =some v:=by
 have:=hS.f.size;simp only[Act.put];rw[Array.getElem?_setIfInBounds_self_of_lt (by omega)]
theorem Hg {d t:Nat} (v:Value) (h:t≠d):(a.put (some d) v).tmps[t]? =a.tmps[t]? :=by
 simp only[Act.put];rw[Array.getElem?_setIfInBounds_ne (fun e=>h e.symm)]
theorem Sat.put (hS:Sat C n st a V D w) {d:Option Nat} (hd:∀x,d=some x->x<n) (hit:gP st.rho d=false) (hp:dV st.rho p) {s:SV} (hs:fb st.nid st.vc s) {v:Value}
  (hv:bC st.rho p=true->v=den V s):Sat C n (E.put st d p s) (a.put d v) V D w:=by
 cases d with
 |none=>exact hS
 |some d=>
  refine⟨⟨hS.f.defers,by simp only[Act.put,Array.size_setIfInBounds];exact hS.f.size,?_,?_,?_⟩,?_,hS.w⟩
  ·intro e he;rcases List.mem_cons.1 he with rfl |he
   ·exact hp
   ·exact hS.f.pth e he
  ·intro t q s' hq hl hc;simp only[E.put,dP] at hl;split at hl
   ·rename_i ht;subst ht;split at hl
    ·rename_i um;cases hl;rw[DU hS (hd _ rfl),hv (At um hc)]
    ·cases hl
   ·rename_i ht;rw[Hg _ (fun e=>ht e.symm)];exact hS.f.env t q s' hq hl hc
  ·intro g hg;obtain⟨h1,h2,h3⟩:=hS.f.rho g hg;exact⟨h1,h2,by rw[Hg _ (HD hit g hg)];exact h3⟩
  ·intro e he;rcases List.mem_cons.1 he with rfl |he
   ·exact hs
   ·exact hS.ids e he
theorem Sat.note (hS:Sat C n st a V D w) (hp:dV st.rho p) {b:Bool} {d:Nat} (hi:∀g∈st.rho,g.i≠i) (ht:a.tmps[d]? =some (if bC st.rho p=true then .bool b else undef)):
  Sat C n ⟨st.env,⟨i,d,p,.sym b⟩::st.rho,st.bx,st.vc,st.nid,st.m⟩ a V D w:=by
 have hc:∀{q:ba},dV st.rho q->bC (⟨i,d,p,.sym b⟩::st.rho) q=bC st.rho q:=fun hq=>G2 (UU hi hq)
 refine⟨⟨hS.f.defers,hS.f.size,fun e he=>Dk (hS.f.pth e he),?_,?_⟩,hS.ids,hS.w⟩
 ·intro t q s hq hl wI;obtain⟨e,he,um,kU⟩:=S5 hl;have L4:=hS.f.pth e he;exact hS.f.env t e.p s L4 kU (by rw[<- hc L4];exact At um wI)
 ·intro g hg;rcases List.mem_cons.1 hg with rfl |hg
  ·exact⟨zV,Dk hp,by rw[hc hp];exact ht⟩
  ·obtain⟨h1,h2,h3⟩:=hS.f.rho g hg;have:=hi g hg;exact⟨by rw[wR (fun e=>this e.symm)];exact h1,Dk h2,by rw[hc h2];exact h3⟩
/-! Forks. -/
structure Fk (st af:LS):Prop where
 eqs:af.bx=st.bx/\af.vc=st.vc/\af.nid=st.nid/\af.m=st.m
 cond:∀q,bC af.rho q=bC st.rho q
 wf:∀q,dV st.rho q->dV af.rho q
 hit:∀d,gP af.rho d=gP st.rho d
 inv:∀ops (L:Nat->Prop),RInv ops L st.rho->RInv ops L af.rho
theorem Fk.refl (st:LS):Fk st st:=⟨⟨rfl,rfl,rfl,rfl⟩,fun _=>rfl,fun _ h=>h,fun _=>rfl,fun _ _ h=>h⟩
theorem Fk.trans {st af iV:LS} (h:Fk st af) (h' :Fk af iV):Fk st iV:=
 ⟨⟨h'.eqs.1.trans h.eqs.1,h'.eqs.2.1.trans h.eqs.2.1,h'.eqs.2.2.1.trans h.eqs.2.2.1,h'.eqs.2.2.2.trans h.eqs.2.2.2⟩,fun q=>(h'.cond q).trans (h.cond q),fun q x=>h'.wf q (h.wf q x),
  fun d=>(h'.hit d).trans (h.hit d),fun o i x=>h'.inv o i (h.inv o i x)⟩
theorem Step.same {nid eB:Nat} {vc df:List Vc} (h1:eB=nid) (h2:df=vc) (V:Vl):Step nid vc eB df V V:=by
 subst h1 h2;exact⟨Agree.refl _ _ _,aA _,fun _ _ _ h=>h⟩
theorem Step.trans {nid eB KR:Nat} {vc df La:List Vc} {V V' MF:Vl} (h:Step nid vc eB df V V') (h' :Step eB df KR La V' MF):Step nid vc KR La V MF:=
 ⟨fun k hk=>⟨((h'.agr k (dm hk h.up)).1).trans (h.agr k hk).1,fun u hu=>((h'.agr k (dm hk h.up)).2 u (h.ver k u hk hu)).trans ((h.agr k hk).2 u hu)⟩,dk h.up h'.up,
  fun k u hk hu=>h'.ver k u (dm hk h.up) (h.ver k u hk hu)⟩
theorem Fk.step {st af:LS} (h:Fk st af) (V:Vl):Step st.nid st.vc af.nid af.vc V V:=Step.same h.eqs.2.2.1 h.eqs.2.1 V
def pf (j:Nat) (x:Bool) (g:Gd):Gd:=if g.i=j then⟨g.i,g.slot,g.p,.lit x⟩ else g
theorem xJ {j:Nat} {x:Bool}:∀{rho:List Gd},jb rho j x=rho.map (pf j x)
 |[]=>rfl
 |⟨i,t,p,b⟩::r=>by
  simp only[jb,aG,pf];split
  ·rw[xJ]
  ·rw[xJ]
theorem A3 {j:Nat} {x:Bool} (g:Gd):(pf j x g).i=g.i/\(pf j x g).slot=g.slot/\(pf j x g).p=g.p:=by
 unfold pf;split<;>exact⟨rfl,rfl,rfl⟩
theorem Kw {f:Gd->Gd} (hf:∀g,(f g).i=g.i):∀{rho:List Gd} (k:Nat),ek (rho.map f) k=(ek rho k).map f
 |[],_=>rfl
 |g::r,k=>by
  by_cases e:g.i=k
  ·subst e;rw[zV,aG,<- hf g,zV];rfl
  ·rw[wR e,aG,wR (by rw[hf];exact e),Kw hf]
theorem A2 {rho:List Gd} {j:Nat} {x:Bool} (k:Nat):ek (jb rho j x) k=(ek rho k).map (pf j x):=by
 rw[xJ];exact Kw (fun g=>(A3 g).1) k
theorem J0 {rho:List Gd} {j:Nat} {x:Bool} {g:Gd} (h:g∈jb rho j x):∃g' ∈rho,g=pf j x g' :=by
 rw[xJ] at h;obtain⟨g',h1,h2⟩:=List.mem_map.1 h;exact⟨g',h1,h2.symm⟩
theorem JV {f:Gd->Gd} (hf:∀g,(f g).slot=g.slot) {d:Option Nat}:∀{rho:List Gd},gP (rho.map f) d=gP rho d
 |[]=>rfl
 |g::r=>by
  cases d with
  |none=>rfl
  |some d=>
   have h1:∀(g:Gd) (r:List Gd),gP (g::r) (some d)=if g.slot=d then true else gP r (some d):=fun g r=>by cases g;rfl
   rw[aG,h1,h1,hf,JV hf]
theorem TO {j:Nat} {x:Bool} {d:Option Nat} {rho:List Gd}:gP (jb rho j x) d=gP rho d:=by
 rw[xJ];exact JV fun g=>(A3 g).2.1
theorem JZ {rho:List Gd} {j k:Nat} {x:Bool} {g g' :Gd} (hg:ek rho j=some g) (hb:g.b.val=x) (hk:ek rho k=some g'):(pf j x g').b.val=g'.b.val:=by
 unfold pf;split
 ·rename_i e;have:=(Bc hk).1;rw[this] at e;subst e;rw[hg] at hk;cases hk;exact hb.symm
 ·rfl
theorem Ro {rho:List Gd} {j k:Nat} {x u:Bool} {g:Gd} (hg:ek rho j=some g) (hb:g.b.val=x):kN (jb rho j x) k u=kN rho k u:=by
 unfold kN;rw[A2];cases hk:ek rho k with
 |none=>rfl
 |some g' =>simp only[Option.map_some,JZ hg hb hk]
theorem IV {rho:List Gd} {j:Nat} {x:Bool} {g:Gd} (hg:ek rho j=some g) (hb:g.b.val=x):∀q:ba,bC (jb rho j x) q=bC rho q
 |[]=>rfl
 |(k,u)::q=>by simp only[bC];rw[Ro hg hb,IV hg hb q]
theorem xZ {rho:List Gd} {j:Nat} {x:Bool} {q:ba}:dV (jb rho j x) q↔dV rho q:=by
 constructor
 ·intro h y hy;obtain⟨g,hg⟩:=h y hy;rw[A2] at hg;obtain⟨g',eo,_⟩:=Option.map_eq_some_iff.1 hg;exact⟨g',eo⟩
 ·intro h y hy;obtain⟨g,hg⟩:=h y hy;exact⟨_,by rw[A2,hg];rfl⟩
theorem Rl (hS:Sat C n st a V D w) {j t:Nat} {q:ba} {b:GB} {i' :Nat} {x:Bool} (hg:ek st.rho j=some ⟨i',t,q,b⟩) (hb:b.val=x):
  Sat C n ⟨⟨t,q,.v (.bool x)⟩::st.env,jb st.rho j x,st.bx,st.vc,st.nid,st.m⟩ a V D w/\Fk st ⟨⟨t,q,.v (.bool x)⟩::st.env,jb st.rho j x,st.bx,st.vc,st.nid,st.m⟩:=by
 have hc:=IV hg hb;obtain⟨cX,hgm⟩:=Bc hg;obtain⟨h1,h2,h3⟩:=hS.f.rho _ hgm;refine⟨⟨⟨hS.f.defers,hS.f.size,?_,?_,?_⟩,?_,hS.w⟩,⟨rfl,rfl,rfl,rfl⟩,hc,fun q=>xZ.2,fun _=>TO,?_⟩
 ·intro e he;rcases List.mem_cons.1 he with rfl |he
  ·exact xZ.2 h2
  ·exact xZ.2 (hS.f.pth e he)
 ·intro t' q' s hq hl wI;simp only at hq wI;rw[hc] at wI;have hq:=xZ.1 hq;simp only[dP] at hl;split at hl
  ·rename_i ht;subst ht;split at hl
   ·rename_i um;cases hl;simp only at h3;rw[h3,ai (At um wI),hb];rfl
   ·cases hl
  ·exact hS.f.env t' q' s hq hl wI
 ·intro g eo;obtain⟨g0,dY,rfl⟩:=J0 eo;obtain⟨e1,e2,e3⟩:=hS.f.rho g0 dY;obtain⟨f1,f2,f3⟩:=A3 (j:=j) (x:=x) g0;refine⟨by rw[f1,A2,e1];rfl,by rw[f3];exact xZ.2 e2,?_⟩;simp only;rw[f2,f3,hc,JZ hg hb e1];exact e3
 ·intro e he;rcases List.mem_cons.1 he with rfl |he
  ·trivial
  ·exact hS.ids e he
 ·intro ops i hR g hg;obtain⟨g',h1,rfl⟩:=J0 hg;obtain⟨f1,f2,f3⟩:=A3 (j:=j) (x:=x) g';rw[f1,f2];exact hR g' h1
theorem Nk (hS:Sat C n st a V D w) {j:Nat} {u:Bool} {g:Gd} (hg:ek st.rho j=some g) {dead live:LS->Prop} (h:nT (.mk (k:=(j,u,dead,live)) (st,g))):
  ∃af,Sat C n af a V D w/\Fk st af/\(kN st.rho j u=true->live af)/\(kN st.rho j u=false->dead af):=by
 have hv:=AP hg (w:=u);obtain⟨i',t,q,b⟩:=g;cases b with
 |lit b=>
  refine⟨st,hS,Fk.refl st,?_⟩;rw[hv];cases u<;>cases b<;>simp_all [nT,GB.val]
 |sym b=>
  obtain⟨h1,h2⟩:=Rl hS hg (x:=b) rfl;refine⟨_,h1,h2,?_⟩;rw[hv];cases u<;>cases b<;>simp_all [nT,GB.val]
theorem Gp (hS:Sat C n st a V D w):∀{p:ba} {dead live:LS->Prop},A1 p dead live st->∃af,Sat C n af a V D w/\Fk st af/\(bC st.rho p=true->live af)/\(bC st.rho p=false->dead af)
 |[],dead,live,h=>⟨st,hS,Fk.refl st,fun _=>h,fun e=>by cases e⟩
 |(j,u)::p,dead,live,h=>by
  simp only[A1] at h;obtain⟨kP,s1,f1,l1,d1⟩:=Gp hS h;cases hc:bC st.rho p with
  |false=>exact⟨kP,s1,f1,fun e=>by simp [bC,hc] at e,fun _=>d1 hc⟩
  |true=>
   obtain⟨g,hg,h'⟩:=ay (l1 hc);obtain⟨cE,s2,f2,l2,d2⟩:=Nk s1 hg h';have:kN kP.rho j u=kN st.rho j u:=by
    have:=f1.cond [(j,u)];simpa [bC] using this
   rw[this] at l2 d2;exact⟨cE,s2,f1.trans f2,fun e=>l2 (by simpa [bC,hc] using e),fun e=>d2 (by simpa [bC,hc] using e)⟩
/-! The guard of an operation. -/
theorem CQ (hS:Sat C n st a V D w) (hR:RInv ops L st.rho) (h:pathOf st o.guard=some p):dV st.rho p/\Region.wanted o (yielded ops a.tmps)=bC st.rho p:=by
 unfold Region.wanted;cases hg:o.guard with
 |none=>rw[hg] at h;simp only[pathOf,cn] at h;subst h;exact⟨nF,rfl⟩
 |some x=>
  obtain⟨j,u⟩:=x;rw[hg] at h;simp only[pathOf,Option.map_eq_some_iff] at h;obtain⟨g,hj,rfl⟩:=h;obtain⟨hi,hm⟩:=Bc hj;obtain⟨h1,h2,h3⟩:=hS.f.rho g hm;have yj:=(hR g hm).2;rw[hi] at yj;refine⟨fun y hy=> ?_,?_⟩
  ·rcases List.mem_cons.1 hy with rfl |hy
   ·exact⟨g,hj⟩
   ·exact h2 y hy
  ·simp only[bC,AP hj,yielded,yj,Option.bind_some,h3];cases hc:bC st.rho g.p with
   |false=>simp [undef]
   |true=>cases u<;>cases g.b.val<;>simp
theorem RInv.mono {rho:List Gd} {L' :Nat->Prop} (h:RInv ops L rho) (hL:∀k,L k->L' k):RInv ops L' rho:=fun g hg=>⟨hL _ (h g hg).1,(h g hg).2⟩
theorem RInv.note {rho:List Gd} (h:RInv ops L rho) (eS:ops[i]? =some o) {d:Nat} (hd:o.dst=some d) {b:GB}:RInv ops (fun k=>L k\/k=i) (⟨i,d,p,b⟩::rho):=fun g hg=>by
 rcases List.mem_cons.1 hg with rfl |hg
 ·exact⟨.inr rfl,by simp only[eS,Option.bind_some];exact hd⟩
 ·exact⟨.inl (h g hg).1,(h g hg).2⟩
theorem jn {d:Option Nat} {s:SV}:(E.put st d p s).rho=st.rho/\(E.put st d p s).nid=st.nid/\(E.put st d p s).vc=st.vc:=by
 cases d<;>exact⟨rfl,rfl,rfl⟩
theorem NQ {s:SV} {x:Value} (h:ls s=some x):den V s=x:=by
 cases s with
 |v y=>simp only[ls,cn] at h;subst h;rfl
 |agg cs=>
  simp only[ls,Option.map_eq_some_iff] at h;obtain⟨l,hl,rfl⟩:=h;rw[D7,Ae hl]
 |_=>simp [ls] at h
theorem CA:∀{ss:List SV} {l:List Value},s7 ss=some l->ss.map (den V)=l
 |[],l,h=>by simp only[s7,cn] at h;subst h;rfl
 |s::r,l,h=>by
  simp only[s7,Option.bind_eq_some_iff,Option.map_eq_some_iff] at h;obtain⟨x,hx,l',hl,rfl⟩:=h;simp only[aG];rw[NQ hx,CA hl]
theorem SatW.quiet {bx:List Bx} {vc:List Vc} {nid:Nat} {m:Mem} (h:SatW C bx vc nid m V D w) {w2:World} {D2:Nat->Nat} {V1:Vl} (sq:Wf w2 D2) (lT:Frm (· ∈aE V1 ⟨[],[]⟩) w D w2 D2) (hle:Mem.le ⟨w,D⟩ ⟨w2,D2⟩):
  SatW C bx vc nid m V D2 w2:=
 have hb:=rp h.heap
 ⟨h.heap.frame (fun _ _=>⟨rfl,rfl⟩) (fun _ _=>rfl) (fun g hg=>lT.same g (hb g hg) (by simp [aE])),sq,h.frm.trans lT (fun b hx=>by simp [aE] at hx),h.own,h.baseB,h.baseV,h.ids,
  Mem.le_trans h.le0 hle,h.m0,Mem.le_trans h.mle hle⟩
theorem Is {op:Op} {F:Mem->List Value->Option (Prop×Value)} (h:eF c op= .pu F):∃f args ts,op= .call {callee:= .value (.func f),args,argTypes:=ts}/\c.pure f=some F:=by
 unfold eF at h;split at h;all_goals first |cases h |skip
 refine⟨_,_,_,rfl,?_⟩;cases hf:c.pure _ with
 |none=>rw[hf] at h;cases h
 |some G=>rw[hf] at h;cases h;rfl
theorem NN (hS:Sat C n st a V D w) (dE:cw c P) (hp:dV st.rho p) (hc:bC st.rho p=true) {F:Mem->List Value->Option (Prop×Value)} (hk:eF c o.op= .pu F) {K:SV->Prop} (h:Er (.mk (k:=(F st.m,lO st p,K)) (oU st p (vd o.op))))
  {next:Act->World->Prop} {Q:Exit->Act->World->Prop} (hn:∀y D' w',K (.v y)->Sat C n st a V D' w' ->next (a.put o.dst y) w'):o.wp P a w next Q:=by
 obtain⟨f,args,ts,ho,hf⟩:=Is hk;obtain⟨ao,hF⟩:=dE f F hf;obtain⟨y,hy,hB,hK⟩:=ay h;rw[ho] at hy;simp only[vd,Option.bind_eq_some_iff] at hy;obtain⟨aN,⟨ss,qJ,hvals⟩,hy⟩:=hy;have bK:=Dr (w:=w) (a:=a) ho rfl ao;unfold Oper.wp;rw[bK];have lE:args.map a.eval=⟨(aN.map SV.v).map (den V)⟩:=by
  apply Array.ext'
  rw[Array.toList_map,sU hS hp hc qJ,CA hvals];simp only[List.map_map];exact(List.map_id'' (fun x=>rfl) aN).symm
 rw[lE];refine(hF st.m aN y hy (hB hc) V w D hS.w.wf hS.w.mle ⟨fun b hb=>(by cases hb),fun b hb=>(by cases hb),by simp [aE],by simp⟩).mono fun e w2 ⟨r,V2,D2,H',m',he,h1,h2,h3,h4,h5,h6,h7,h8,h9,hr,hH⟩=> ?_
 subst he;subst hr;exact hn y.2 D2 w2 hK ⟨hS.f,hS.ids,hS.w.quiet h1 h5 h7⟩
/-! One operation. -/
theorem CD (st:LS) (i:Nat) (d:Option Nat) (p:ba) (mv:Bool) (s:SV):js st i d p mv s=st\/∃d' b,d=some d' /\s= .v (.bool b)/\js st i d p mv s=⟨st.env,⟨i,d',p,.sym b⟩::st.rho,st.bx,st.vc,st.nid,st.m⟩:=by
 unfold js;split
 ·exact .inr ⟨_,_,rfl,rfl,rfl⟩
 ·exact .inl rfl
theorem CE (st:LS) (i:Nat) (d:Option Nat) (p:ba) (mv:Bool):jt st i d p mv=st\/∃d',d=some d' /\jt st i d p mv=⟨st.env,⟨i,d',p,.sym false⟩::st.rho,st.bx,st.vc,st.nid,st.m⟩:=by
 unfold jt;split
 ·exact .inr ⟨_,rfl,rfl⟩
 ·exact .inl rfl
theorem uU {st:LS} {i:Nat} {d:Option Nat} {p:ba} {mv:Bool} {s:SV}:(js (E.put st d p s) i d p mv s).nid=st.nid/\(js (E.put st d p s) i d p mv s).vc=st.vc:=by
 rcases CD (E.put st d p s) i d p mv s with e |⟨_,_,_,_,e⟩<;>rw[e]<;>cases d<;>exact⟨rfl,rfl⟩
theorem uV {st:LS} {i:Nat} {d:Option Nat} {p:ba} {mv:Bool} {s:SV}:(jt (E.put st d p s) i d p mv).nid=st.nid/\(jt (E.put st d p s) i d p mv).vc=st.vc:=by
 rcases CE (E.put st d p s) i d p mv with e |⟨_,_,e⟩<;>rw[e]<;>cases d<;>exact⟨rfl,rfl⟩
theorem Em (hd:jS n o=true):∀x,o.dst=some x->x<n:=fun x hx=>by
 simp only[jS,hx] at hd;exact of_decide_eq_true hd
theorem yp (hS:Sat C n st a V D w) (hR:RInv ops L st.rho) (kY:¬L i) (eS:ops[i]? =some o) (hd:jS n o=true) (hit:gP st.rho o.dst=false) (hp:dV st.rho p) {s:SV} (hs:fb st.nid st.vc s) {v:Value}
  (hv:v=if bC st.rho p=true then den V s else undef) (mv:Bool):
  Sat C n (js (E.put st o.dst p s) i o.dst p mv s) (a.put o.dst v) V D w/\RInv ops (fun k=>L k\/k=i) (js (E.put st o.dst p s) i o.dst p mv s).rho:=by
 have uF:=Em hd;have h1:=Sat.put hS (V:=V) uF hit hp hs (v:=v) (fun hc=>by rw[hv,ai hc]);rcases CD (E.put st o.dst p s) i o.dst p mv s with e |⟨d,b,e1,e2,e⟩
 ·rw[e];exact⟨h1,by rw[jn.1];exact hR.mono fun _=> .inl⟩
 ·rw[e]
  refine⟨h1.note (by rw[jn.1];exact hp) (by rw[jn.1];exact fun g hg e=>kY (e▸(hR g hg).1)) ?_,by
   simp only[jn.1];exact hR.note eS e1⟩
  rw[e1,DU hS (uF _ e1),jn.1,hv,e2];rfl
theorem EB (hS:Sat C n st a V D w) (hR:RInv ops L st.rho) (kY:¬L i) (eS:ops[i]? =some o) (hd:jS n o=true) (hit:gP st.rho o.dst=false) (hp:dV st.rho p) (hc:bC st.rho p=false) (mv:Bool):
  Sat C n (jt (E.put st o.dst p (.v undef)) i o.dst p mv) (a.put o.dst undef) V D w/\RInv ops (fun k=>L k\/k=i) (jt (E.put st o.dst p (.v undef)) i o.dst p mv).rho:=by
 have uF:=Em hd;have h1:=Sat.put hS (V:=V) uF hit hp (s:= .v undef) trivial (v:=undef) (fun _=>rfl);rcases CE (E.put st o.dst p (.v undef)) i o.dst p mv with e |⟨d,e1,e⟩
 ·rw[e];exact⟨h1,by rw[jn.1];exact hR.mono fun _=> .inl⟩
 ·rw[e]
  refine⟨h1.note (by rw[jn.1];exact hp) (by rw[jn.1];exact fun g hg e=>kY (e▸(hR g hg).1)) ?_,by
   simp only[jn.1];exact hR.note eS e1⟩
  rw[e1,DU hS (uF _ e1),jn.1,hc];rfl
theorem vK (hS:Sat C n st a V D w) (hR:RInv ops L st.rho) (hd:jS n o=true) (hit:gP st.rho o.dst=false) (hp:dV st.rho p) {s:SV} (hs:fb st.nid st.vc s) {v:Value} (hv:bC st.rho p=true->v=den V s):
  Sat C n (E.put st o.dst p s) (a.put o.dst v) V D w/\RInv ops (fun k=>L k\/k=i) (E.put st o.dst p s).rho:=
 ⟨Sat.put hS (Em hd) hit hp hs hv,by rw[jn.1];exact hR.mono fun _=> .inl⟩
theorem Hl (hS:Sat C n st a V D w) (dE:cw c P) (hR:RInv ops L st.rho) (kY:¬L i) (eS:ops[i]? =some o) (hd:jS n o=true) (yn:pathOf st o.guard=some p) {K:LS->Prop} (h:one (.mk (k:=(c,P,i,o,K)) (st,p)))
  {next:Act->World->Prop} {Q:Exit->Act->World->Prop} (hn:∀af a' V' D' w',K af->Sat C n af a' V' D' w' ->RInv ops (fun k=>L k\/k=i) af.rho->Step st.nid st.vc af.nid af.vc V V' ->next a' w'):
  if Region.wanted o (yielded ops a.tmps) then o.wp P a w next Q\/(o.asks P a w/\LetsOut Q) else next (a.put o.dst undef) w:=by
 obtain⟨hp,hw⟩:=CQ hS hR yn;have KP:∀(d:Option Nat) (p:ba) (s:SV),Step st.nid st.vc (E.put st d p s).nid (E.put st d p s).vc V V:=fun d p s=>Step.same jn.2.1 jn.2.2 V
 have stepG:∀(d:Option Nat) (p:ba) (s:SV) (mv:Bool),Step st.nid st.vc (js (E.put st d p s) i d p mv s).nid (js (E.put st d p s) i d p mv s).vc V V:=fun d p s mv=>Step.same uU.1 uU.2 V
 have Xl:∀(d:Option Nat) (p:ba) (s:SV) (mv:Bool),Step st.nid st.vc (jt (E.put st d p s) i d p mv).nid (jt (E.put st d p s) i d p mv).vc V V:=fun d p s mv=>Step.same uV.1 uV.2 V
 rw[hw];simp only[one] at h;unfold yE at h;split at h
 ·rename_i q dead he;simp only[A.mk.injEq,Prod.mk.injEq] at he;obtain⟨hq,hdead,hit⟩:=he;unfold tJ at h;split at h
  ·rename_i af p' q';cases q';have hc:=As hdead;rw[hc];simp only[Bool.false_eq_true,if_false];obtain⟨h1,h2⟩:=EB hS hR kY eS hd hit hp hc (kH o.op);exact hn _ _ _ _ _ h h1 h2 (Xl _ _ _ _)
  ·rename_i af p' q';cases q';obtain⟨s,⟨hs,hK⟩,bK⟩:=C4 hS hp (o:=o) rfl h;cases hc:bC st.rho p with
   |true=>
    simp only[if_true];obtain⟨h1,h2⟩:=yp hS hR kY eS hd hit hp hs (v:=den V s) (by rw[hc];rfl) (kH o.op);exact .inl (pT (bK hc) (hn _ _ _ _ _ hK h1 h2 (stepG _ _ _ _)))
   |false=>
    simp only[Bool.false_eq_true,if_false];obtain⟨h1,h2⟩:=yp hS hR kY eS hd hit hp hs (v:=undef) (by rw[hc];rfl) (kH o.op);exact hn _ _ _ _ _ hK h1 h2 (stepG _ _ _ _)
  ·rename_i F af p' q';cases q';cases hc:bC st.rho p with
   |true=>
    simp only[if_true];refine .inl (NN hS dE hp hc hq h fun y D' w' hK dz=> ?_);obtain⟨h1,h2⟩:=vK (i:=i) dz hR hd hit hp (s:= .v y) trivial (v:=y) (fun _=>rfl);exact hn _ _ _ _ _ hK h1 h2 (KP _ _ _)
   |false=>
    simp only[Bool.false_eq_true,if_false];obtain⟨y,hy,hB,hK⟩:=ay h;obtain⟨h1,h2⟩:=vK (i:=i) hS hR hd hit hp (s:= .v y.2) trivial (v:=undef) (fun e=>by rw[hc] at e;cases e);exact hn _ _ _ _ _ hK h1 h2 (KP _ _ _)
  ·rename_i af p' q';cases q';obtain⟨kP,s1,f1,l1,d1⟩:=Gp hS h;have B6:=f1.wf _ hp;have EU:gP kP.rho o.dst=false:=by rw[f1.hit];exact hit
   have FL:=f1.inv _ _ hR;cases hc:bC st.rho p with
   |true=>
    simp only[if_true];have qQ:bC kP.rho p=true:=by rw[f1.cond];exact hc
    refine .inl (Pf s1 B6 qQ rfl (l1 hc) fun s af V' D' w' ⟨hs,hK⟩ ev dz eG=> ?_);rw[<- ev] at B6 EU FL;obtain⟨h1,h2⟩:=vK (i:=i) dz FL hd EU B6 hs (v:=den V' s) (fun _=>rfl);exact hn _ _ _ _ _ hK h1 h2 (by rw[jn.2.1,jn.2.2];exact(f1.step V).trans eG)
   |false=>
    simp only[Bool.false_eq_true,if_false];obtain⟨h1,h2⟩:=vK (i:=i) s1 FL hd EU B6 (s:= .v undef) trivial (v:=undef) (fun _=>rfl);exact hn _ _ _ _ _ (d1 hc) h1 h2 (by rw[jn.2.1,jn.2.2];exact f1.step V)
 ·cases h
/-! The whole region. -/
theorem O6 {y x:Nat} {l:List Nat} (h:fp (y::l) x=false):y≠x/\fp l x=false:=by
 simp only[fp] at h;split at h
 ·cases h
 ·rename_i e;exact⟨e,h⟩
theorem AB:∀{env:List Ev} {dead:List Nat} {t:Nat} {s:SV},dP (ki dead env) t []=some s->fp dead t=false/\dP env t []=some s
 |[],dead,t,s,h=>by simp [ki,dP] at h
 |⟨t',[],s'⟩::r,dead,t,s,h=>by
  simp only[ki] at h;split at h
  ·rename_i hm;obtain⟨h1,h2⟩:=AB h;refine⟨h1,?_⟩;simp only[dP];rw[aa (fun e=>by rw[e,h1] at hm;cases hm)];exact h2
  ·rename_i hm;simp only[dP] at h ⊢;split at h
   ·rename_i e;subst e;rw[ai rfl];exact⟨by simpa using hm,h⟩
   ·rename_i e;rw[aa e];exact AB h
 |⟨t',x::q,s'⟩::r,dead,t,s,h=>by
  simp only[ki] at h;obtain⟨h1,h2⟩:=AB h;obtain⟨h3,h4⟩:=O6 h1;refine⟨h4,?_⟩;simp only[dP];rw[aa h3];exact h2
theorem xl:∀{env:List Ev} {dead:List Nat} {e:Ev},e∈ki dead env->e∈env/\e.p=[]
 |[],dead,e,h=>by simp [ki] at h
 |⟨t',[],s'⟩::r,dead,e,h=>by
  simp only[ki] at h;split at h
  ·obtain⟨h1,h2⟩:=xl h;exact⟨bt _ h1,h2⟩
  ·rcases List.mem_cons.1 h with rfl |h
   ·exact⟨bL ..,rfl⟩
   ·obtain⟨h1,h2⟩:=xl h;exact⟨bt _ h1,h2⟩
 |⟨t',x::q,s'⟩::r,dead,e,h=>by
  simp only[ki] at h;obtain⟨h1,h2⟩:=xl h;exact⟨bt _ h1,h2⟩
theorem CF (hS:Sat C n st a V D w):jg C n (clean st) a w:=by
 refine⟨rfl,V,D,⟨hS.f.defers,hS.f.size,fun e he=> ?_,fun t q s hq hl _=> ?_,fun g hg=>by cases hg⟩,fun e he=>hS.ids e (xl he).1,hS.w⟩
 ·rw[(xl he).2];exact nF
 ·have:q=[]:=by
   cases q with
   |nil=>rfl
   |cons x q=>obtain⟨g,hg⟩:=hq x (bL ..);cases hg
  subst this;exact hS.f.env t [] s nF (AB hl).2 rfl
end
section
variable {C:Ctx} {n:Nat} {P:Program} {c:Cfg} {ops:Array Oper}
theorem GA (dE:cw c P) {K:LS->Prop} {Q:Exit->Act->World->Prop} (hQ:∀af a' w',K af->jg C n af a' w' ->Q .normal a' w'):
  ∀(l:List Oper) (i:Nat) (st:LS) (a:Act) (V:Vl) (D:Nat->Nat) (w:World),yw c P l i K st->Sat C n st a V D w->RInv ops (· <i) st.rho->(∀j,l[j]? =ops[i+j]?)->(∀o∈l,jS n o=true)->wpList P ops Q l a w
 |[],i,st,a,V,D,w,h,hS,hR,hl,hd=>hQ _ _ _ h (CF hS)
 |o::r,i,st,a,V,D,w,h,hS,hR,hl,hd=>by
  obtain⟨p,hp,h⟩:=ay h;have eS:ops[i]? =some o:=by have:=hl 0;simpa using this.symm
  unfold wpList;refine Hl hS dE hR (Nat.lt_irrefl _) eS (hd o (bL ..)) hp h fun af a' V' D' w' hK dz qS _=> ?_
  exact GA dE hQ r (i+1) af a' V' D' w' hK dz (qS.mono fun k hk=>by omega) (fun j=>by have:=hl (j+1);simpa [Nat.add_assoc,Nat.add_comm 1 j] using this) (fun o ho=>hd o (bt _ ho))
end
def jM (n:Nat):Code->Bool
 | .region _ ops _=>ops.toList.all (jS n)
 | .seq a b=>jM n a&&jM n b
 | .cond _ a b=>jM n a&&jM n b
 | .block _ a=>jM n a
 | .loop a=>jM n a
 | .scope a=>jM n a
 | .rangeFunc .. =>false
 |_=>true
theorem Nv {V:Vl} {s:SV} {b:Bool} (h:oK s=some b):den V s= .bool b:=by
 cases s with
 |v x=>cases x<;>simp only[oK,cn,reduceCtorEq] at h;subst h;rfl
 |_=>simp [oK] at h
section
variable {P:Program} {n:Nat} {c:Cfg}
theorem WY {a b:Code} {K:LS->Prop} {Q:Exit->LS->Prop} {st:LS} (ha:WP P n a (ix K Q) st) (hb:∀st,K st->WP P n b Q st):WP P n (.seq a b) Q st:=by
 intro C a' w hE;refine wp_seq (wp_mono (ha C a' w hE) ?_);rintro e a2 w2 ⟨cE,hE2,hq⟩;cases e with
 |normal=>exact hb cE hq C a2 w2 hE2
 |exit id=>exact⟨cE,hE2,hq⟩
 |goto l=>exact⟨cE,hE2,hq⟩
 |ret=>exact⟨cE,hE2,hq⟩
 |panic ch=>exact⟨cE,hE2,hq⟩
 |outgrown=>exact⟨cE,hE2,hq⟩
theorem Uz {x:Operand} {a b:Code} {Q:Exit->LS->Prop} {st:LS} {s:SV} {t:Bool} (hr:bM st [] x=some s) (hs:oK s=some t) (ha:t=true->WP P n a Q st) (hb:t=false->WP P n b Q st):WP P n (.cond x a b) Q st:=by
 intro C a' w hE;obtain⟨_,V,D,hS⟩:=id hE;have:=cr hS nF rfl hr;rw[Nv hs] at this;exact wp_cond_split this (fun h=>ha h C a' w hE) (fun h=>hb h C a' w hE)
theorem R0 {id:Nat} {a:Code} {Q:Exit->LS->Prop} {st:LS} (ha:WP P n a (vx id Q) st):WP P n (.block id a) Q st:=by
 intro C a' w hE;refine wp_block (wp_mono (ha C a' w hE) ?_);rintro e a2 w2 ⟨cE,hE2,hq⟩;cases e with
 |exit id' =>
  simp only[vx] at hq;simp only[Exit.inBlock];split at hq
  ·rename_i h;rw[ai h];exact⟨cE,hE2,hq⟩
  ·rename_i h;rw[aa h];exact⟨cE,hE2,hq⟩
 |normal=>exact⟨cE,hE2,hq⟩
 |goto l=>exact⟨cE,hE2,hq⟩
 |ret=>exact⟨cE,hE2,hq⟩
 |panic ch=>exact⟨cE,hE2,hq⟩
 |outgrown=>exact⟨cE,hE2,hq⟩
theorem PR (dE:cw c P) {id:Nat} {l:List Oper} {Q:Exit->LS->Prop} {st:LS} (hd:l.all (jS n)=true) (h:yw c P l 0 (Q .normal) st):WP P n (.region id ⟨l⟩ false) Q st:=by
 rintro C a' w ⟨ev,V,D,hS⟩;refine wp_region_list ?_;refine GA (ops:=⟨l⟩) dE (fun af a' w' hq hE=>⟨af,hE,hq⟩) l 0 st a' V D w h hS ?_ (fun j=>by simp) (fun o ho=> ?_)
 ·rw[ev];intro g hg;cases hg
 ·exact List.all_eq_true.1 hd o ho
theorem Nq (dE:cw c P):∀(x:Code) (Q:Exit->LS->Prop) (st:LS),jM n x=true->jT c P n x Q st->WP P n x Q st:=by
 intro x;induction x with
 |skip=>exact fun Q st _ h C a w hE=>wp_skip ⟨st,hE,h⟩
 |region id ops draw=>
  intro Q st hd h;obtain⟨l⟩:=ops;cases draw with
  |false=>exact PR dE hd h
  |true=>exact h
 |seq a b iha ihb=>
  intro Q st hd h;simp only[jM,bw] at hd;have gen:jT c P n a (ix (jT c P n b Q) Q) st->WP P n (.seq a b) Q st:=fun h=>WY (iha _ st hd.1 h) fun af h' =>ihb Q af hd.2 h'
  cases a with
  |cond x t e=>
   simp only[jT] at h;split at h
   ·exact h
   ·exact gen h
  |_=>exact gen h
 |cond x a b iha ihb=>
  intro Q st hd h;simp only[jM,bw] at hd;obtain⟨t,ht,h1,h2⟩:=ay h;obtain⟨s,hs,ht⟩:=qW ht;exact Uz hs ht (fun e=>iha Q st hd.1 (h1 e)) (fun e=>ihb Q st hd.2 (h2 e))
 |block id a ih=>
  intro Q st hd h;exact R0 (ih _ st hd h)
 |exit id=>exact fun Q st _ h C a w hE=>wp_exit ⟨st,hE,h⟩
 |ret=>exact fun Q st _ h C a w hE=>wp_ret ⟨st,hE,h⟩
 |loop a ih=>exact fun Q st _ h=>h
 |scope a ih=>exact fun Q st _ h=>h
 |rangeFunc f ps a b _ _=>exact fun Q st _ h=>h
 |label l=>exact fun Q st _ h C a w hE=>wp_label ⟨st,hE,h⟩
 |refuse _=>exact fun Q st _ h=>h
 |goto l=>exact fun Q st _ h C a w hE=>wp_goto ⟨st,hE,h⟩
theorem gi (dE:cw c P) {x:Code} {Q:Exit->LS->Prop} {st:LS} (hd:jM n x=true) (h:cV (.mk (k:=(c,P,n,x,Q)) st)):WP P n x Q st:=Nq dE x Q st hd h
end
/-! A function. -/
section
variable {C:Ctx} {n:Nat} {st:LS} {a:Act} {V:Vl} {D:Nat->Nat} {w:World} {P:Program} {c:Cfg}
theorem Oe (ad:Addr):(asAddr (.pointer (some ad))).run P w= .ok ad w:=rfl
def AW (tmps:Array Value):ResultVar->Sem Value
 | .tmp t=>pure (tmps.getD t undef)
 | .cell b t=>do loadVar t (<- asAddr (tmps.getD b undef))
theorem Ds (hS:Sat C n st a V D w):∀{res:List ResultVar} {l:List SV},lI P st res=some l->
  (res.mapM (AW a.tmps)).run P w= .ok (l.map (fH V)) w/\∀s∈l,den V s=fH V s
 |[],l,h=>by
  simp only[lI,cn] at h;subst h;exact⟨rfl,fun s hs=>by cases hs⟩
 | .tmp t::r,l,h=>by
  simp only[lI,Option.bind_eq_some_iff,Option.map_eq_some_iff] at h;obtain⟨s,⟨s0,iE,hs⟩,l',kU,rfl⟩:=h;obtain⟨h1,h2⟩:=Ds hS kU;have jC:=C7 (V:=V) hs;have qJ:s=s0:=by cases s0<;>simp_all [iS]
  subst qJ;have ht:=hS.env t [] s nF iE rfl;refine⟨?_,fun x hx=> ?_⟩
  ·simp only[List.mapM_cons,AW,Sem.run_bind,Sem.run_pure,Result.andThen_ok,h1,aG];simp [Array.getD_eq_getD_getElem?,ht,jC]
  ·rcases List.mem_cons.1 hx with rfl |hx
   ·exact jC
   ·exact h2 x hx
 | .cell b t::r,l,h=>by
  simp only[lI,Option.bind_eq_some_iff,Option.map_eq_some_iff] at h;obtain⟨s,⟨s0,iE,hs⟩,l',kU,rfl⟩:=h;obtain⟨h1,h2⟩:=Ds hS kU;have jC:=C7 (V:=V) hs;have qJ:s=s0:=by cases s0<;>simp_all [iS]
  subst qJ;unfold Bm at iE;split at iE
  ·rename_i k o hk;have ht:=hS.env b [] _ nF hk rfl;simp only[Option.bind_eq_some_iff] at iE;obtain⟨bx,oA,iE⟩:=iE;split at iE;case isFalse=>cases iE
   rename_i dw;simp only[Option.bind_eq_some_iff] at iE;obtain⟨ag,fx,htk⟩:=iE;have XJ:lB (.mk (k:=(P,t,U true,fun s' =>s' =s)) (st,.box k o)):=by
    simp only[lB,oA,az,fx,htk,dw,true_and]
   obtain⟨r',rfl,hy⟩:=Gi hS XJ;have hy:=hy rfl;simp only[vk,Instr.loadAt,Instr.sureAddr,Sem.run_bind,Sem.run_pure,Result.andThen_ok] at hy;refine⟨?_,fun x hx=> ?_⟩
   ·simp only[List.mapM_cons,AW,Sem.run_bind,Sem.run_pure,Result.andThen_ok,aG];have:a.tmps.getD b undef= .pointer (some ⟨V.β k,o,none⟩):=by simp [Array.getD_eq_getD_getElem?,ht,vk]
    rw[this,Oe];simp only[Result.andThen_ok,hy,h1,jC]
   ·rcases List.mem_cons.1 hx with rfl |hx
    ·exact jC
    ·exact h2 x hx
  ·cases iE
theorem MN (hS:Sat C n st a V D w) {fn:Func} {res:List ResultVar} (hr:fn.results=⟨res⟩) {l:List SV} (h:lI P st res=some l):(results fn a.tmps).run P w= .ok (den V (tF l)) w:=by
 obtain⟨h1,h2⟩:=Ds hS h
 have hf:results fn a.tmps=(do
   let vs <- fn.results.mapM (AW a.tmps)
   pure (if h:vs.size=1 then vs[0] else .tuple vs)):=by
  unfold results;congr 1
 rw[hf,hr];simp only[List.mapM_toArray,Sem.run_bind,Sem.run_map,h1,Result.andThen_ok,Sem.run_pure,List.size_toArray,List.length_map];cases l with
 |nil=>rfl
 |cons s r=>
  cases r with
  |nil=>
   simp only[cQ,mb,Nat.zero_add,dite_true,aG,List.map_nil,tF];simp [h2 s (bL ..)]
  |cons s' r=>
   have:¬((s::s' ::r).length=1):=by simp
   simp only[dif_neg this];rfl
end
theorem J7:∀{l:List SV} {i t:Nat} {q:ba} {s:SV},dP (qz i l) t q=some s->i<=t/\l[t - i]? =some s
 |[],i,t,q,s,h=>by simp [qz,dP] at h
 |x::r,i,t,q,s,h=>by
  simp only[qz,dP] at h;split at h
  ·rename_i e;subst e;split at h
   ·cases h;exact⟨aA _,by simp⟩
   ·cases h
  ·rename_i e;obtain⟨h1,h2⟩:=J7 h;refine⟨by omega,?_⟩;have:t - i=(t - (i+1))+1:=by omega
   rw[this,List.getElem?_cons_succ];exact h2
theorem DF:∀{l:List SV} {i:Nat} {e:Ev},e∈qz i l->e.p=[]/\e.s∈l
 |[],i,e,h=>by simp [qz] at h
 |x::r,i,e,h=>by
  rcases List.mem_cons.1 h with rfl |h
  ·exact⟨rfl,bL ..⟩
  ·obtain⟨h1,h2⟩:=DF h;exact⟨h1,bt _ h2⟩
theorem Iu {nid:Nat} {vc:List Vc}:∀{l:List SV},yG nid vc l->∀s∈l,fb nid vc s
 |x::r,h,s,hs=>by
  rcases List.mem_cons.1 hs with rfl |hs
  ·exact h.1
  ·exact Iu h.2 s hs
theorem xC:∀{bx:List Bx} {b:Bx},b∈bx->b.id<jw bx
 |⟨k,t,cs⟩::r,b,h=>by
  simp only[jw];rcases List.mem_cons.1 h with rfl |h
  ·simp only;omega
  ·have:=xC h;omega
theorem xB:∀{vc:List Vc} {b:Vc},b∈vc->b.id<jv vc
 |⟨k,u,e,z,n,xs⟩::r,b,h=>by
  simp only[jv];rcases List.mem_cons.1 h with rfl |h
  ·simp only;omega
  ·have:=xB h;omega
section
variable {P:Program} {c:Cfg}
theorem DK {V:Vl} {bx eU:List Bx} {vc df:List Vc} (hb:∀b∈eU,b∈bx) (hv:∀b∈df,b∈vc):∀g∈aE V ⟨eU,df⟩,g∈aE V ⟨bx,vc⟩:=fun g hg=>by
 simp only[aE,List.mem_append,List.mem_map,List.mem_filterMap] at hg ⊢;rcases hg with ⟨x,hx,e⟩ |⟨x,hx,e⟩
 ·exact .inl ⟨x,hb x hx,e⟩
 ·exact .inr ⟨x,hv x hx,e⟩
theorem NR {L:List Nat} {bx:List Bx} {b:Bx} (h:b∈ef L bx):b∈bx:=by
 rw[xd,List.mem_filter] at h;exact h.1
theorem El {f:FuncId} {fn:Func} {code:Code} {res:List ResultVar} {args:List SV} {H:Hp} {m:Mem} {R:SV->Hp->Mem->Prop}
  (hf:P.funcs[f]? =some fn) (hb:fn.body=some code) (hr:fn.results=⟨res⟩) (hl:args.length<=fn.ntmps) (ao:AZ args H)
  (h:WP P fn.ntmps code (wb P res (vY H) R) (za args H m)):FnH P f args H m R:=by
 intro V w D dX hm hH;refine calls_of_wp hf hb ?_;have eQ:((⟨args.map (den V)⟩:Array Value)++Array.replicate (fn.ntmps - (⟨args.map (den V)⟩:Array Value).size) undef).size=fn.ntmps:=by
  simp only[Array.size_append,List.size_toArray,List.length_map,Array.size_replicate];omega
 have hS:Sat ⟨w,D,(· ∈aE V H),H,V,m⟩ fn.ntmps (za args H m) {tmps:=(⟨args.map (den V)⟩:Array Value)++Array.replicate (fn.ntmps - (⟨args.map (den V)⟩:Array Value).size) undef,defers:=[]} V D w:=by
  refine⟨⟨rfl,eQ,fun e he=> ?_,fun t q s hq iG _=> ?_,fun g hg=>by cases hg⟩,fun e he=>Iu ao.1 _ (DF he).2,?_⟩
  ·rw[(DF he).1];exact nF
  ·obtain⟨_,h2⟩:=J7 iG;have an:t<args.length:=(List.getElem?_eq_some_iff.1 h2).1;simp only[Nat.sub_zero] at h2;rw[Array.getElem?_append_left (by simpa using an)];simp [h2]
  ·refine⟨hH,dX,Frm.refl _ _ _,fun b hb=> .inl hb,fun b hb=>⟨rfl,?_⟩,fun b hb=>⟨fun _ _=>rfl,?_,qZ hH.uniq hb⟩,⟨fun b hb=>⟨?_,C6 ao.2 b hb⟩,fun b hb=> ?_⟩,Mem.le_refl _ dX,
    fun b=>⟨aA _,fun h0=>⟨((hm b).2 h0).1,oE rfl⟩⟩,hm⟩
   ·exact dm (xC hb) (Nat.le_max_left _ _)
   ·exact dm (xB hb) (Nat.le_max_right _ _)
   ·exact dm (xC hb) (Nat.le_max_left _ _)
   ·exact dm (xB hb) (Nat.le_max_right _ _)
 refine wp_mono (h _ _ _ ⟨rfl,V,D,hS⟩) ?_;rintro e a2 w2 ⟨cE,⟨ev,V2,D2,np⟩,hq⟩;have fin:∀l:List SV,lI P cE res=some l->R (tF l) ⟨ef (pM cE.bx (kM (vY H) l)) cE.bx,dL (pM cE.bx (kM (vY H) l)) cE.vc⟩ cE.m->
   a2.defers=[]/\∃v,(results fn a2.tmps).run P w2= .ok v w2/\∃(r:SV) (V' :Vl) (D' :Nat->Nat) (H' :Hp) (m' :Mem),
   Ending.returned v= .returned (den V' r)/\Wf w2 D' /\HSat V' D' w2 H' /\(∀b∈H.bx,V'.β b.id=V.β b.id)/\(∀b∈H.vc,∀u,u<=b.ver->V'.γ b.id u=V.γ b.id u)/\
   Frm (· ∈aE V H) w D w2 D' /\(∀b∈aE V' H',b∈aE V H\/w.heap.size<=b)/\
   Mem.le ⟨w,D⟩ ⟨w2,D'⟩/\m.le m' /\m'.le ⟨w2,D'⟩/\R r H' m' :=by
  intro l hl hR;have hW:=np.w;refine⟨np.f.defers,_,MN np hr hl,tF l,V2,D2,_,cE.m,rfl,hW.wf,(zY _ hW.heap).app.1,fun b hb=>(hW.baseB b hb).1,fun b hb=>(hW.baseV b hb).1,hW.frm,fun b hb=> ?_,hW.le0,hW.m0,hW.mle,hR⟩;exact hW.own b (DK (fun x hx=>NR hx) (fun x hx=>(rb hx).1) b hb)
 cases e with
 |normal=>obtain⟨l,hl,hR⟩:=ay hq;exact fin l hl hR
 |ret=>obtain⟨l,hl,hR⟩:=ay hq;exact fin l hl hR
 |exit id=>exact hq.elim
 |goto l=>exact hq.elim
 |panic ch=>exact hq.elim
 |outgrown=>exact hq.elim
theorem enter (cf:Cfg) (dE:cw cf P) {f:FuncId} {fn:Func} {code:Code} {res:List ResultVar} {args:List SV} {H:Hp} {m:Mem} {R:SV->Hp->Mem->Prop}
  (hf:P.funcs[f]? =some fn) (hb:fn.body=some code) (hr:fn.results=⟨res⟩) (hd:jM fn.ntmps code=true) (hl:Nat.ble args.length fn.ntmps=true) (ao:AZ args H)
  (h:cV (.mk (k:=(cf,P,fn.ntmps,code,wb P res (vY H) R)) (za args H m))):FnH P f args H m R:=
 El hf hb hr (aU hl) ao (gi dE hd h)
theorem FnH.mono {f:FuncId} {args:List SV} {H:Hp} {m:Mem} {R R' :SV->Hp->Mem->Prop} (h:FnH P f args H m R) (hR:∀r H' m',m.le m' ->R r H' m' ->R' r H' m'):FnH P f args H m R' :=
 fun V w D h1 h2 h3=>(h V w D h1 h2 h3).mono fun e w2 ⟨r,V',D',H',m',e1,e2,e3,e4,e5,e6,e7,e8,e9,bZ,cj⟩=>⟨r,V',D',H',m',e1,e2,e3,e4,e5,e6,e7,e8,e9,bZ,hR r H' m' e9 cj⟩
theorem tfi (p:Prop):(true=false->p)=True:=eq_true fun h=>by cases h
theorem fti (p:Prop):(false=true->p)=True:=eq_true fun h=>by cases h
theorem bF {f:FuncId} {args:List SV} {H:Hp} {m:Mem} {R:SV->Hp->Mem->Prop} (h:FnH P f args H m R):Cq (.mk (k:=(P,f,R)) (args,H,m)):=h
theorem WP.mono {n:Nat} {x:Code} {Q Q' :Exit->LS->Prop} {st:LS} (h:WP P n x Q st) (hQ:∀e af,Q e af->Q' e af):WP P n x Q' st:=
 fun C a w hE=>wp_mono (h C a w hE) fun e _ _ ⟨af,h1,h2⟩=>⟨af,h1,hQ e af h2⟩
end
theorem ak {P:Program} {f:FuncId} {args:List SV} {H:Hp} {m:Mem} {R:SV->Hp->Mem->Prop} (h:FnH P f args H m R) (hk:de P f=true:=by kernel_rfl):de P f=true/\Cq (.mk (k:=(P,f,R)) (args,H,m)):=⟨hk,bF h⟩
attribute [go_sem ↓] tfi fti reduceIte
theorem br {P:Program} {cf:Cfg} (dE:cw cf P) {f:FuncId} {fn:Func} {code:Code} {res:List ResultVar} {args:List SV} {H:Hp} {m:Mem} {R:SV->Hp->Mem->Prop} (hf:P.funcs[f]? =some fn) (h:cV (.mk (k:=(cf,P,fn.ntmps,code,wb P res (vY H) R)) (za args H m))) (hb:fn.body=some code:=by rfl) (hr:fn.results=⟨res⟩:=by rfl) (hd:jM fn.ntmps code=true:=by kernel_rfl) (hl:Nat.ble args.length fn.ntmps=true:=by rfl) (ao:AZ args H:=by simp only[go_sem]):FnH P f args H m R:=enter cf dE hf hb hr hd hl ao h
/-! The head of a loop. -/
theorem II {st:LS}:∀{l:List Ev},vU st l->∀e∈l,dP st.env e.t []=some e.s/\e.p=[]
 |⟨t,p,s⟩::r,h,e,he=>by
  rcases List.mem_cons.1 he with rfl |he
  ·exact⟨h.1,h.2.1⟩
  ·exact II h.2.2 e he
theorem JK {st:LS}:∀{l:List Ev},vU st l->∀{t:Nat} {s:SV},dP l t []=some s->dP st.env t []=some s
 |⟨t',p',s'⟩::r,h,t,s,hl=>by
  simp only[dP] at hl;split at hl
  ·rename_i e;subst e;split at hl
   ·cases hl;exact h.1
   ·cases hl
  ·exact JK h.2.2 hl
theorem QY {l:List Bx} {k:Nat} (h:dt l k=none):∀b∈l,b.id≠k:=by
 induction l with
 |nil=>intro b hb;cases hb
 |cons x r ih=>
  obtain⟨i',t',p'⟩:=x;simp only[dt] at h;split at h
  ·cases h
  ·rename_i e;intro b hb;rcases List.mem_cons.1 hb with rfl |hb
   ·exact e
   ·exact ih h b hb
theorem JL {st:LS}:∀{l:List Bx},po st l->(∀b∈l,b∈st.bx)/\(l.map (·.id)).Nodup
 |[],_=>⟨fun b hb=>(by cases hb),List.nodup_nil⟩
 |⟨k,t,cs⟩::r,h=>by
  obtain⟨h1,h2,h3⟩:=h;obtain⟨i1,i2⟩:=JL h3;refine⟨fun b hb=> ?_,?_⟩
  ·rcases List.mem_cons.1 hb with rfl |hb
   ·exact(nG h1).2
   ·exact i1 b hb
  ·simp only[aG,List.nodup_cons];refine⟨fun hm=> ?_,i2⟩;obtain⟨b,hb,e⟩:=List.mem_map.1 hm;exact QY h2 b hb e
theorem QW {l:List Vc} {k:Nat} {b:Vc} (h:jV l k=some b):b.id=k/\b∈l:=by
 induction l with
 |nil=>cases h
 |cons x r ih=>
  obtain⟨i',u',e',z',n',x'⟩:=x;simp only[jV] at h;split at h
  ·rename_i e;cases h;exact⟨e,bL ..⟩
  ·exact⟨(ih h).1,bt _ (ih h).2⟩
theorem Pd {l:List Vc} {k:Nat} (h:jV l k=none):∀b∈l,b.id≠k:=by
 induction l with
 |nil=>intro b hb;cases hb
 |cons x r ih=>
  obtain⟨i',u',e',z',n',x'⟩:=x;simp only[jV] at h;split at h
  ·cases h
  ·rename_i e;intro b hb;rcases List.mem_cons.1 hb with rfl |hb
   ·exact e
   ·exact ih h b hb
theorem JJ {st:LS}:∀{l:List Vc},pj st l->(∀b∈l,b∈st.vc)/\(l.map (·.id)).Nodup
 |[],_=>⟨fun b hb=>(by cases hb),List.nodup_nil⟩
 |⟨k,u,e,z,n,xs⟩::r,h=>by
  obtain⟨h1,h2,h3⟩:=h;obtain⟨i1,i2⟩:=JJ h3;refine⟨fun b hb=> ?_,?_⟩
  ·rcases List.mem_cons.1 hb with rfl |hb
   ·exact(QW h1).2
   ·exact i1 b hb
  ·simp only[aG,List.nodup_cons];refine⟨fun hm=> ?_,i2⟩;obtain⟨b,hb,e⟩:=List.mem_map.1 hm;exact Pd h2 b hb e
theorem uY {vc:List Vc} (hu:(vc.map (·.id)).Nodup) {k u:Nat}:aY vc k u↔∀b∈vc,b.id=k->u<=b.ver:=by
 induction vc with
 |nil=>simp [aY]
 |cons x r ih=>
  obtain⟨i',u',e',z',n',x'⟩:=x;simp only[aG,List.nodup_cons] at hu;simp only[aY];split
  ·rename_i e;subst e;constructor
   ·intro h b hb e;rcases List.mem_cons.1 hb with rfl |hb
    ·exact h
    ·exact absurd (List.mem_map.2 ⟨b,hb,e⟩) hu.1
   ·exact fun h=>h _ (bL ..) rfl
  ·rename_i e;rw[ih hu.2];constructor
   ·intro h b hb e';rcases List.mem_cons.1 hb with rfl |hb
    ·exact absurd e' e
    ·exact h b hb e'
   ·exact fun h b hb=>h b (bt _ hb)
theorem Ho {α β:Type} {f:α->β}:∀{l:List α},(l.map f).Nodup->∀x∈l,∀y∈l,f x=f y->x=y
 |a::r,h,x,hx,y,hy,e=>by
  simp only[aG,List.nodup_cons] at h;rcases List.mem_cons.1 hx with rfl |cW
  ·rcases List.mem_cons.1 hy with rfl |bH
   ·rfl
   ·exact absurd (List.mem_map.2 ⟨y,bH,e.symm⟩) h.1
  ·rcases List.mem_cons.1 hy with rfl |bH
   ·exact absurd (List.mem_map.2 ⟨x,cW,e⟩) h.1
   ·exact Ho h.2 x cW y bH e
theorem Hu {α β γ:Type} {f:α->β} {g:α->γ}:∀{l:List α},(l.map g).Nodup->(∀x∈l,∀y∈l,f x=f y->x=y)->(l.map f).Nodup
 |[],_,_=>List.nodup_nil
 |a::r,h,hi=>by
  simp only[aG,List.nodup_cons] at h ⊢;refine⟨fun hm=> ?_,Hu h.2 fun x hx y hy=>hi x (bt _ hx) y (bt _ hy)⟩;obtain⟨b,hb,e⟩:=List.mem_map.1 hm;have:=hi b (bt _ hb) a (bL ..) e;subst this;exact h.1 (List.mem_map.2 ⟨b,hb,rfl⟩)
theorem F2 {α β γ:Type} {f:α->Option β} {g:α->γ}:∀{l:List α},(l.map g).Nodup->(∀x∈l,∀y∈l,∀b,f x=some b->f y=some b->x=y)->(l.filterMap f).Nodup
 |[],_,_=>List.nodup_nil
 |a::r,h,hi=>by
  simp only[aG,List.nodup_cons] at h;have ih:=F2 (f:=f) h.2 fun x hx y hy=>hi x (bt _ hx) y (bt _ hy)
  rw[List.filterMap_cons];split
  ·exact ih
  ·rename_i b hb;refine List.nodup_cons.2 ⟨fun hm=> ?_,ih⟩;obtain⟨x,hx,e⟩:=List.mem_filterMap.1 hm;have:=hi x (bt _ hx) a (bL ..) b e hb;subst this;exact h.1 (List.mem_map.2 ⟨x,hx,rfl⟩)
theorem IC {nid:Nat} {vc:List Vc}:∀{l:List Ev},yH nid vc l->∀e∈l,fb nid vc e.s
 |⟨t,p,s⟩::r,h,e,he=>by
  rcases List.mem_cons.1 he with rfl |he
  ·exact h.1
  ·exact IC h.2 e he
theorem IB {nid:Nat} {vc:List Vc}:∀{l:List Bx},vT nid vc l->∀b∈l,b.id<nid/\cL nid vc b.cs
 |⟨k,t,cs⟩::r,h,b,hb=>by
  rcases List.mem_cons.1 hb with rfl |hb
  ·exact⟨h.1,h.2.1⟩
  ·exact IB h.2.2 b hb
theorem IA {nid:Nat}:∀{l:List Vc},vS nid l->∀b∈l,b.id<nid
 |⟨k,_,_,_,_,_⟩::r,h,b,hb=>by
  rcases List.mem_cons.1 hb with rfl |hb
  ·exact h.1
  ·exact IA h.2 b hb
section
variable {C:Ctx} {n:Nat} {st af:LS} {a:Act} {V:Vl} {D:Nat->Nat} {w:World} {P:Program} {c:Cfg}
theorem Vs {m m' pq:Mem} (h:ah m m') (h' :m'.le pq):m.le pq:=by
 rcases h with rfl |h
 ·exact h'
 ·exact Mem.le_trans h h'
theorem Sat.weaken (hS:Sat C n st a V D w) (hM:Match st af) (ao:oZ af) (hB:∀b∈C.H0.bx,b.id<af.nid) (hV:∀b∈C.H0.vc,b.id<af.nid) (hm:C.m0.le af.m):Sat C n af a V D w:=by
 obtain⟨h1,h2,h3,h4,h5⟩:=hM;obtain⟨oB,hbu⟩:=JL h3;obtain⟨wD,hvu⟩:=JJ h4;have hW:=hS.w;have ff:=hW.heap.apart;have EW:=List.nodup_append.1 ff;refine⟨⟨hS.f.defers,hS.f.size,fun e he=> ?_,fun t q s hq hl _=> ?_,fun g hg=>by rw[h2] at hg;cases hg⟩,IC ao.1,?_⟩
 ·rw[(II h1 e he).2];exact nF
 ·have:q=[]:=by
   cases q with
   |nil=>rfl
   |cons x q=>obtain⟨g,hg⟩:=hq x (bL ..);rw[h2] at hg;cases hg
  subst this;exact hS.env t [] s nF (JK h1 hl) rfl
 ·refine⟨⟨fun b hb=>hW.heap.bx b (oB b hb),fun b hb=>hW.heap.vc b (wD b hb),?_,hvu⟩,hW.wf,hW.frm,fun g hg=>hW.own g (DK oB wD g hg),fun b hb=>⟨(hW.baseB b hb).1,hB b hb⟩,
   fun b hb=>⟨(hW.baseV b hb).1,hV b hb,?_⟩,⟨IB ao.2.1,IA ao.2.2⟩,hW.le0,hm,Vs h5 hW.mle⟩
  ·refine List.nodup_append.2 ⟨?_,?_,fun x hx y hy=> ?_⟩
   ·exact Hu hbu fun x hx y hy e=>Ho EW.1 x (oB x hx) y (oB y hy) e
   ·exact F2 hvu fun x hx y hy b e1 e2=>DM (wD x hx) (wD y hy) e1 e2 EW.2.1
   ·refine EW.2.2 x ?_ y ?_
    ·obtain⟨z,hz,e⟩:=List.mem_map.1 hx;exact List.mem_map.2 ⟨z,oB z hz,e⟩
    ·obtain⟨z,hz,e⟩:=List.mem_filterMap.1 hy;exact List.mem_filterMap.2 ⟨z,wD z hz,e⟩
  ·refine(uY hvu).2 fun x hx e=> ?_
   exact(uY hW.heap.uniq).1 (hW.baseV b hb).2.2 x (wD x hx) e
theorem ct (dE:cw c P) {body:Code} {Q:Exit->LS->Prop} {X:Type} (S:X->LS) (I:X->Prop) (μ:X->Nat) (x0:X)
  (hd:jM n body=true) (hn:∀x,I x->st.nid<=(S x).nid) (hm:∀x,I x->ah st.m (S x).m) (ao:∀x,oZ (S x)) (h0:Match st (S x0)) (hI:I x0)
  (round:∀x,I x->cV (.mk (k:=(c,P,n,body,ix (fun af=>∃x',Match af (S x')/\I x' /\μ x' <μ x) Q)) (S x))):jH (.mk (k:=(P,n,.loop body,Q)) st):=by
 rintro C a w ⟨ev,V,D,hS⟩;have hB:∀b∈C.H0.bx,b.id<st.nid:=fun b hb=>(hS.w.baseB b hb).2
 have hV:∀b∈C.H0.vc,b.id<st.nid:=fun b hb=>(hS.w.baseV b hb).2.1
 have Fw:∀x,I x->C.m0.le (S x).m:=fun x hx=>by
  rcases hm x hx with e |h
  ·rw[<- e];exact hS.w.m0
  ·exact Mem.le_trans hS.w.m0 h
 have yv:∀(kP:LS) (a1:Act) (w1:World) (x:X),jg C n kP a1 w1->Match kP (S x)->I x->jg C n (S x) a1 w1:=by
  rintro kP a1 w1 x ⟨_,V1,D1,jj⟩ hM hx;exact⟨hM.2.1,V1,D1,jj.weaken hM (ao x) (fun b hb=>dm (hB b hb) (hn x hx)) (fun b hb=>dm (hV b hb) (hn x hx)) (Fw x hx)⟩
 refine wp_loop_ghost (fun k a w=>∃x,I x/\μ x=k/\jg C n (S x) a w) (μ x0) ⟨x0,hI,rfl,yv _ _ _ _ ⟨ev,V,D,hS⟩ h0 hI⟩ ?_;rintro k a1 w1 ⟨x,hx,rfl,hE⟩;refine wp_mono (gi dE hd (round x hx) C a1 w1 hE) ?_;rintro e a2 w2 ⟨cE,hE2,hq⟩;cases e with
 |normal=>
  obtain⟨x',hM,cW,an⟩:=hq;exact⟨μ x',an,x',cW,rfl,yv _ _ _ _ hE2 hM cW⟩
 |exit id=>exact⟨cE,hE2,hq⟩
 |goto l=>exact⟨cE,hE2,hq⟩
 |ret=>exact⟨cE,hE2,hq⟩
 |panic ch=>exact⟨cE,hE2,hq⟩
 |outgrown=>exact⟨cE,hE2,hq⟩
end
theorem gz {P:Program} {c:Cfg} {n:Nat} {st:LS} (dE:cw c P) {body:Code} {Q:Exit->LS->Prop} {X:Type} (S:X->LS) (I:X->Prop) (μ:X->Nat) (x0:X) (hn:∀x,I x->st.nid<=(S x).nid) (hm:∀x,I x->ah st.m (S x).m) (h0:Match st (S x0)) (hI:I x0) (round:∀x,I x->cV (.mk (k:=(c,P,n,body,ix (fun af=>∃x',Match af (S x')/\I x' /\μ x' <μ x) Q)) (S x))) (hd:jM n body=true:=by kernel_rfl) (ao:∀x,oZ (S x):=by intro _;simp only[go_sem]):jH (.mk (k:=(P,n,.loop body,Q)) st):=ct dE S I μ x0 hd hn hm ao h0 hI round
def A.re {γ δ α:Type} {k:γ} (k' :δ):A k α->A k' α
 | .mk a=> .mk a
section
variable {P:Program} {op:BinOp} {t:TypeId} {k:IntKind} {u:Prop->Prop} {K:SV->Prop}
theorem sW {o:Option SV} (h:az (.mk (k:=K) o)):∃s,K s/\az (.mk (k:=(· =s)) o):=by
 obtain⟨s,rfl,h⟩:=ay h;exact Exists.intro s (And.intro h rfl)
theorem xp:∀(x:A (k,u,K) Int),arith x->∃s,K s/\arith (x.re (k,u,(· =s))):=by
 rintro⟨n⟩ h;cases k<;>first
  |exact Exists.intro _ (And.intro h.2 (And.intro h.1 rfl))
  |exact Exists.intro _ (And.intro h rfl)
theorem RU:∀(x:A (op,k,u,K) (Int×Int)),fI x->∃s,K s/\fI (x.re (op,k,u,(· =s))):=by
 rintro⟨a,b⟩ h;cases op;case add=>obtain⟨s,h1,h2⟩:=xp _ h;exact Exists.intro s (And.intro h1 h2)
 case sub=>obtain⟨s,h1,h2⟩:=xp _ h;exact Exists.intro s (And.intro h1 h2)
 case mul=>obtain⟨s,h1,h2⟩:=xp _ h;exact Exists.intro s (And.intro h1 h2)
 case quo=>obtain⟨s,h1,h2⟩:=xp _ h.2;exact Exists.intro s (And.intro h1 (And.intro h.1 h2))
 all_goals first
  |exact Exists.intro _ (And.intro h rfl)
  |exact Exists.intro _ (And.intro h.2 (And.intro h.1 rfl))
theorem RS:∀(x:A (op,u,K) (List UInt8×List UInt8)),oe x->∃s,K s/\oe (x.re (op,u,(· =s))):=by
 rintro⟨a,b⟩ h;cases op;all_goals first
  |exact h.elim
  |exact Exists.intro _ (And.intro h rfl)
  |exact Exists.intro _ (And.intro h.2 (And.intro h.1 rfl))
theorem AJ:∀(x:A (op,K) Bool),mP x->∃s,K s/\mP (x.re (op,(fun s0:SV=>s0=s))):=by
 rintro⟨a⟩ h;cases op;all_goals first
  |exact h.elim
  |exact Exists.intro _ (And.intro h rfl)
theorem RT:∀(x:A (P,op,t,u,K) (SV×SV)),lM x->∃s,K s/\lM (x.re (P,op,t,u,(· =s))):=by
 intro x h;unfold lM at h;split at h
 ·obtain⟨s,h1,h2⟩:=RU _ h.2;exact Exists.intro s (And.intro h1 (And.intro h.1 h2))
 ·obtain⟨s,h1,h2⟩:=RS _ h;exact Exists.intro s (And.intro h1 h2)
 ·obtain⟨s,h1,h2⟩:=AJ _ h.2;exact Exists.intro s (And.intro h1 (And.intro h.1 h2))
 ·obtain⟨h1,h2,h3⟩:=h;obtain⟨b,hb,h3⟩:=ay h3;obtain⟨s,h4,h5⟩:=AJ _ h3;exact Exists.intro s (And.intro h4 (And.intro h1 (And.intro h2 (by rw[hb];exact h5))))
 ·obtain⟨h1,h2,h3⟩:=h;obtain⟨b,hb,h3⟩:=ay h3;obtain⟨s,h4,h5⟩:=AJ _ h3;exact Exists.intro s (And.intro h4 (And.intro h1 (And.intro h2 (by rw[hb];exact h5))))
 ·obtain⟨h1,h2,h3⟩:=h;exact Exists.intro _ (And.intro h3 (And.intro h1 (And.intro h2 rfl)))
 ·exact h.elim
theorem OO:∀(x:A (P,op,t,u,K) SV),rJ x->∃s,K s/\rJ (x.re (P,op,t,u,(· =s))):=by
 intro x h;unfold rJ at h;split at h
 ·obtain⟨s,h1,h2⟩:=AJ _ h.2.2;exact Exists.intro s (And.intro h1 (And.intro h.1 (And.intro h.2.1 h2)))
 ·exact h.elim
theorem OY {md:PM}:∀(x:A (md,K) (Bool×SV×SV)),pY x->∃s,K s/\pY (x.re (md,(fun s0:SV=>s0=s))):=by
 intro x h;unfold pY at h;split at h;all_goals first
  |exact h.elim
  |exact Exists.intro _ (And.intro h rfl)
theorem Qp:∀(x:A (u,K) SV),qp x->∃s,K s/\qp (x.re (u,(fun s0:SV=>s0=s))):=by
 intro x h;unfold qp at h;split at h;all_goals first
  |exact h.elim
  |exact Exists.intro _ (And.intro h rfl)
  |exact Exists.intro _ (And.intro h.2 (And.intro h.1 rfl))
theorem Sq {op:UnOp}:∀(x:A (op,u,K) SV),qF x->∃s,K s/\qF (x.re (op,u,(fun s0:SV=>s0=s))):=by
 intro x h;unfold qF at h;split at h
 ·exact Exists.intro _ (And.intro h rfl)
 ·obtain⟨s,h1,h2⟩:=xp _ h;exact Exists.intro s (And.intro h1 h2)
 ·exact h.elim
theorem OS:∀(x:A (u,K) (LS×CvK×SV)),nQ x->∃s,K s/\nQ (x.re (u,(fun s0:SV=>s0=s))):=by
 intro x h;unfold nQ at h;split at h
 ·exact Exists.intro _ (And.intro h rfl)
 ·exact Exists.intro _ (And.intro h rfl)
 ·obtain⟨b,hb,l,h1,h2⟩:=ay h;refine Exists.intro _ (And.intro h2 ?_);show az _;rw[hb];exact⟨l,h1,rfl⟩
 ·obtain⟨l,h1,h2⟩:=h;exact Exists.intro _ (And.intro h2 (Exists.intro l (And.intro h1 rfl)))
 ·exact h.elim
theorem Qv:∀(x:A (u,K) (LS×SV×Nat)),oX x->∃s,K s/\oX (x.re (u,(fun s0:SV=>s0=s))):=by
 intro x h;unfold oX at h;split at h
 ·exact Exists.intro _ (And.intro h rfl)
 ·obtain⟨b,hb,h1,h2⟩:=ay h;refine Exists.intro _ (And.intro h2 ?_);show az _;rw[hb];exact⟨h1,rfl⟩
 ·exact Exists.intro _ (And.intro h.2 (And.intro h.1 rfl))
 ·exact h.elim
theorem Qu:∀(x:A (P,u,K) (LS×TypeId×SV×SV)),oW x->∃s,K s/\oW (x.re (P,u,(fun s0:SV=>s0=s))):=by
 intro x h;unfold oW at h;split at h
 ·exact Exists.intro _ (And.intro h.2.2 (And.intro h.1 (And.intro h.2.1 rfl)))
 ·exact Exists.intro _ (And.intro h.2.2 (And.intro h.1 (And.intro h.2.1 rfl)))
 ·obtain⟨b,hb,h0,h1,h2⟩:=ay h;refine Exists.intro _ (And.intro h2 ?_);show az _;rw[hb];exact⟨h0,h1,rfl⟩
 ·exact h.elim
theorem Su:∀(x:A (P,t,u,K) (SV×SV)),sw x->∃s,K s/\sw (x.re (P,t,u,(fun s0:SV=>s0=s))):=by
 intro x h;unfold sw at h;split at h
 ·exact Exists.intro _ (And.intro h.2.2 (And.intro h.1 (And.intro h.2.1 rfl)))
 ·exact h.elim
theorem Sr:∀(x:A (P,t,u,K) (LS×SV×Option SV×Option SV)),ph x->∃s,K s/\ph (x.re (P,t,u,(fun s0:SV=>s0=s))):=by
 intro x h;unfold ph at h;split at h
 ·obtain⟨h0,h⟩:=h;obtain⟨l,hl,h⟩:=ay h;obtain⟨m,hm,h⟩:=ay h;refine Exists.intro _ (And.intro h.2 ?_);refine And.intro h0 ?_;show az _;rw[hl];show az _;rw[hm];exact And.intro h.1 rfl
 ·obtain⟨l,hl,h⟩:=ay h;obtain⟨m,hm,h⟩:=ay h;obtain⟨e,he,h0,h1,h2⟩:=ay h;refine Exists.intro _ (And.intro h2 ?_);show az _;rw[hl];show az _;rw[hm];show az _;rw[he];exact And.intro h0 (And.intro h1 rfl)
 ·obtain⟨l,hl,h⟩:=ay h;obtain⟨m,hm,h⟩:=ay h;obtain⟨e,he,h0,h1,h2⟩:=ay h;refine Exists.intro _ (And.intro h2 ?_);show az _;rw[hl];show az _;rw[hm];show az _;rw[he];exact And.intro h0 (And.intro h1 rfl)
 ·exact h.elim
theorem Ss {m:Mem} {y:Value}:∀(x:A (m,y,u,K) (Option Nat)),ub x->∃s,K s/\ub (x.re (m,y,u,(fun s0:SV=>s0=s))):=by
 rintro⟨x⟩ h;cases x with
 |none=>obtain⟨c,h1,h2⟩:=h;exact Exists.intro _ (And.intro h2 (Exists.intro c (And.intro h1 rfl)))
 |some n=>obtain⟨c,h1,h2⟩:=h;exact Exists.intro _ (And.intro h2 (Exists.intro c (And.intro h1 rfl)))
theorem Qo {b:Vc} {o:Nat}:∀(x:A (b,o,u,K) (Option Nat)),tG x->∃s,K s/\tG (x.re (b,o,u,(fun s0:SV=>s0=s))):=by
 rintro⟨x⟩ h;cases x with
 |none=>exact Exists.intro _ (And.intro h.2 (And.intro h.1 rfl))
 |some n=>exact Exists.intro _ (And.intro h.2.2 (And.intro h.1 (And.intro h.2.1 rfl)))
theorem Ii {l:List Value} {key:Value}:∀(x:A (l,key,K) (Bool×Option Value)),n8 x->∃s,K s/\n8 (x.re (l,key,(fun s0:SV=>s0=s))):=by
 intro x h;unfold n8 at h;split at h
 ·exact Exists.intro _ (And.intro h rfl)
 ·rename_i z;cases hf:gK l key with
  |none=>exact Exists.intro _ (And.intro (h.2 hf) (And.intro (fun v hv=>by rw[hf] at hv;cases hv) (fun _=>rfl)))
  |some v=>exact Exists.intro _ (And.intro (h.1 v hf) (And.intro (fun v' hv=>by rw[hf] at hv;cases hv;rfl) (fun hv=>by rw[hf] at hv;cases hv)))
 ·rename_i z;cases hf:gK l key with
  |none=>exact Exists.intro _ (And.intro (h.2 hf) (And.intro (fun v hv=>by rw[hf] at hv;cases hv) (fun _=>rfl)))
  |some v=>exact Exists.intro _ (And.intro (h.1 v hf) (And.intro (fun v' hv=>by rw[hf] at hv;cases hv;rfl) (fun hv=>by rw[hf] at hv;cases hv)))
 ·cases h
theorem Qs {c:Bool}:∀(x:A (P,t,c,K) (LS×SV×Option Value)),oV x->∃s,K s/\oV (x.re (P,t,c,(fun s0:SV=>s0=s))):=by
 intro x h;unfold oV at h;split at h
 ·obtain⟨b,hb,dw,ht,hk,h⟩:=ay h;obtain⟨l,hl,h⟩:=ay h;obtain⟨s,h1,h2⟩:=Ii _ h;refine Exists.intro s (And.intro h1 ?_);simp only[A.re,oV,az,hb,hl,dw,true_and];exact⟨ht,hk,h2⟩
 ·obtain⟨ht,hk,l,hl,h⟩:=h;obtain⟨s,h1,h2⟩:=Ii _ h;exact Exists.intro s (And.intro h1 ⟨ht,hk,l,hl,h2⟩)
 ·cases h
theorem OQ:∀(x:A (P,t,u,K) (LS×SV)),lB x->∃s,K s/\lB (x.re (P,t,u,(fun s0:SV=>s0=s))):=by
 intro x h;unfold lB at h;split at h
 ·obtain⟨b,hb,dw,h⟩:=ay h;obtain⟨ag,fx,h⟩:=ay h;obtain⟨r,hr,h⟩:=ay h;refine Exists.intro _ (And.intro h ?_);simp only[A.re,lB,az,hb,fx,hr,dw,and_self]
 ·obtain⟨b,hb,h⟩:=ay h;obtain⟨ag,fx,h⟩:=ay h;obtain⟨s,h1,h2⟩:=Qo _ h;refine Exists.intro _ (And.intro h1 ?_);show az _;rw[hb];show az _;rw[fx];exact h2
 ·obtain⟨ag,fx,h⟩:=ay h;obtain⟨s,h1,h2⟩:=Ss _ h;refine Exists.intro _ (And.intro h1 ?_);show az _;rw[fx];exact h2
 ·exact h.elim
theorem Qw:∀(x:A K (SV×Nat)),qq x->∃s,K s/\qq (x.re (fun s0:SV=>s0=s)):=by
 intro x h;unfold qq at h;split at h
 ·exact sW h
 ·exact sW h
 ·exact h.elim
theorem Qt:∀(x:A (P,t,K) (LS×SV)),n9 x->∃s,K s/\n9 (x.re (P,t,(fun s0:SV=>s0=s))):=by
 intro x h;unfold n9 at h;split at h
 ·exact Exists.intro _ (And.intro h.2 (And.intro h.1 rfl))
 ·obtain⟨e,he,h⟩:=ay h;refine Exists.intro _ (And.intro h ?_);show az _;rw[he];rfl
 ·obtain⟨e,he,h⟩:=ay h;obtain⟨b,hb,h⟩:=ay h;refine Exists.intro _ (And.intro h ?_);show az _;rw[he];show az _;rw[hb];rfl
 ·obtain⟨e,he,h⟩:=ay h;refine Exists.intro _ (And.intro h ?_);show az _;rw[he];rfl
 ·exact h.elim
theorem Qq:∀(x:A K (SV×SV)),rT x->∃s,K s/\rT (x.re (fun s0:SV=>s0=s)):=by
 intro x h;unfold rT at h;split at h
 ·exact Exists.intro _ (And.intro h rfl)
 ·exact h.elim
theorem Qr:∀(x:A K (SV×SV)),rU x->∃s,K s/\rU (x.re (fun s0:SV=>s0=s)):=by
 intro x h;unfold rU at h;split at h
 ·exact Exists.intro _ (And.intro h rfl)
 ·exact h.elim
theorem OP:∀(x:A K (SV×SV×SV×SV)),rK x->∃s,K s/\rK (x.re (fun s0:SV=>s0=s)):=by
 intro x h;unfold rK at h;split at h
 ·exact Exists.intro _ (And.intro h rfl)
 ·exact h.elim
theorem ON {p:ba} {a b:Operand} {st:LS} {g:Gd}:∀(x:A (p,a,b,st,g,K) PM),pX x->∃s,K s/\pX (x.re (p,a,b,st,g,(fun s0:SV=>s0=s))):=by
 rintro⟨md⟩ h;unfold pX at h;split at h
 ·obtain⟨s,h1,h2⟩:=sW h.2;exact Exists.intro s (And.intro h1 (And.intro h.1 h2))
 ·obtain⟨s,h1,h2⟩:=sW h.2;exact Exists.intro s (And.intro h1 (And.intro h.1 h2))
 ·rename_i q;cases q;obtain⟨h0,h⟩:=h;obtain⟨x,hx,h⟩:=ay h;obtain⟨y,hy,h⟩:=ay h;obtain⟨s,h1,h2⟩:=OY _ h;refine Exists.intro s (And.intro h1 (And.intro h0 ?_));rw[hx];show az _;rw[hy];exact h2
theorem Jr {op:Op}:∀(x:A (P,op,K) (LS×ba)),qOp x->∃s,K s/\qOp (x.re (P,op,(fun s0:SV=>s0=s))):=by
 intro x h;unfold qOp at h;split at h
 ·exact sW h
 ·exact sW h
 ·obtain⟨g,hg,h⟩:=ay h;obtain⟨s,h1,h2⟩:=ON _ h;exact Exists.intro s (And.intro h1 (by simp only[A.re,qOp,az,hg];exact h2))
 ·obtain⟨x,hx,h⟩:=ay h;obtain⟨s,h1,h2⟩:=Qp _ h;exact Exists.intro s (And.intro h1 (by simp only[A.re,qOp,az,hx];exact h2))
 ·obtain⟨x,hx,h⟩:=ay h;obtain⟨s,h1,h2⟩:=OO _ h;exact Exists.intro s (And.intro h1 (by simp only[A.re,qOp,az,hx];exact h2))
 ·rename_i MD t x' y' ty af p' cv;obtain⟨x,hx,h⟩:=ay h;obtain⟨y,hy,h⟩:=ay h;obtain⟨s,h1,h2⟩:=RT _ h;have bH:¬y' = .const .nilIface:=fun e=>by subst e;exact cv _ _ rfl HEq.rfl
  exact Exists.intro s (And.intro h1 (by simp only[A.re,qOp,az,hx,hy,bH,false_implies,implies_true];exact h2))
 ·obtain⟨x,hx,h⟩:=ay h;obtain⟨s,h1,h2⟩:=Sq _ h;exact Exists.intro s (And.intro h1 (by simp only[A.re,qOp,az,hx];exact h2))
 ·obtain⟨x,hx,h⟩:=ay h;obtain⟨s,h1,h2⟩:=OS _ h;exact Exists.intro s (And.intro h1 (by simp only[A.re,qOp,az,hx];exact h2))
 ·obtain⟨x,hx,h⟩:=ay h;obtain⟨y,hy,h⟩:=ay h;obtain⟨s,h1,h2⟩:=Qv _ h;exact Exists.intro s (And.intro h1 (by simp only[A.re,qOp,az,hx,hy];exact h2))
 ·obtain⟨x,hx,h⟩:=ay h;obtain⟨y,hy,h⟩:=ay h;obtain⟨s,h1,h2⟩:=sW h;exact Exists.intro s (And.intro h1 (by simp only[A.re,qOp,az,hx,hy];exact h2))
 ·obtain⟨x,hx,h⟩:=ay h;obtain⟨y,hy,h⟩:=ay h;obtain⟨z,hz,h⟩:=ay h;obtain⟨s,h1,h2⟩:=Qu _ h;exact Exists.intro s (And.intro h1 (by simp only[A.re,qOp,az,hx,hy,hz];exact h2))
 ·obtain⟨x,hx,h⟩:=ay h;obtain⟨y,hy,h⟩:=ay h;obtain⟨s,h1,h2⟩:=Su _ h;exact Exists.intro s (And.intro h1 (by simp only[A.re,qOp,az,hx,hy];exact h2))
 ·obtain⟨x,hx,h⟩:=ay h;obtain⟨y,hy,h⟩:=ay h;obtain⟨z,hz,h⟩:=ay h;obtain⟨s,h1,h2⟩:=Sr _ h;exact Exists.intro s (And.intro h1 (by simp only[A.re,qOp,az,hx,hy,hz];exact h2))
 ·obtain⟨x,hx,h⟩:=ay h;obtain⟨s,h1,h2⟩:=OQ _ h;exact Exists.intro s (And.intro h1 (by simp only[A.re,qOp,az,hx];exact h2))
 ·obtain⟨x,hx,h⟩:=ay h;obtain⟨s,h1,h2⟩:=Qw _ h;exact Exists.intro s (And.intro h1 (by simp only[A.re,qOp,az,hx];exact h2))
 ·obtain⟨h0,h⟩:=h;obtain⟨z,hz,h⟩:=ay h;obtain⟨cs,dy,h⟩:=ay h;exact Exists.intro _ (And.intro h (by simp only[A.re,qOp,az,hz,dy];exact And.intro h0 trivial))
 ·obtain⟨x,hx,h⟩:=ay h;obtain⟨s,h1,h2⟩:=Qt _ h;exact Exists.intro s (And.intro h1 (by simp only[A.re,qOp,az,hx];exact h2))
 ·obtain⟨x,hx,h⟩:=ay h;obtain⟨y,hy,h⟩:=ay h;obtain⟨s,h1,h2⟩:=Qq _ h;exact Exists.intro s (And.intro h1 (by simp only[A.re,qOp,az,hx,hy];exact h2))
 ·obtain⟨x,hx,h⟩:=ay h;obtain⟨y,hy,h⟩:=ay h;obtain⟨s,h1,h2⟩:=Qs _ h;exact Exists.intro s (And.intro h1 (by simp only[A.re,qOp,az,hx,hy];exact h2))
 ·obtain⟨x,hx,h⟩:=ay h;obtain⟨y,hy,h⟩:=ay h;obtain⟨s,h1,h2⟩:=Qr _ h;exact Exists.intro s (And.intro h1 (by simp only[A.re,qOp,az,hx,hy];exact h2))
 ·obtain⟨x,hx,h⟩:=ay h;obtain⟨y,hy,h⟩:=ay h;obtain⟨z,hz,h⟩:=ay h;obtain⟨u,hu,h⟩:=ay h;obtain⟨s,h1,h2⟩:=OP _ h;exact Exists.intro s (And.intro h1 (by simp only[A.re,qOp,az,hx,hy,hz,hu];exact h2))
 ·exact h.elim
end
section
variable {n:Nat} {st:LS} {P:Program} {c:Cfg}
end
/-! Regions that draw their order, of quiet operations and pure calls. -/
def Es:OpK->Bool
 | .ac=>false
 |_=>true
section
variable {C:Ctx} {n:Nat} {st:LS} {a:Act} {V:Vl} {D:Nat->Nat} {w:World} {P:Program} {p:ba} {c:Cfg} {ops:Array Oper} {L:Nat->Prop} {i:Nat} {o:Oper}
def Cl (C:Ctx) (bx:List Bx) (vc:List Vc) (nid:Nat) (m:Mem) (V:Vl) (w:World):Prop:=∃V' D',Agree nid vc V V' /\SatW C bx vc nid m V' D' w
theorem SatW.drew {bx:List Bx} {vc:List Vc} {nid:Nat} {m:Mem} (h:SatW C bx vc nid m V D w) (k:Nat):SatW C bx vc nid m V D {w with drawn:=k}:=
 ⟨⟨h.heap.bx,h.heap.vc,h.heap.apart,h.heap.uniq⟩,h.wf,⟨h.frm.os,h.frm.tape,h.frm.output,h.frm.size,h.frm.same⟩,h.own,h.baseB,h.baseV,h.ids,h.le0,h.m0,h.mle⟩
theorem O0 (hF:SatF n st.env st.rho a V) (oc:∀e∈st.env,fb st.nid st.vc e.s) {w0:World} (BF:Cl C st.bx st.vc st.nid st.m V w0)
  (dE:cw c P) (hR:RInv ops L st.rho) (kY:¬L i) (eS:ops[i]? =some o) (hd:jS n o=true) (Mh:Es (eF c o.op)=true) (yn:pathOf st o.guard=some p) {K:LS->Prop} (h:one (.mk (k:=(c,P,i,o,K)) (st,p)))
  {next:Act->Prop} (hn:∀af a',K af->SatF n af.env af.rho a' V->(∀e∈af.env,fb st.nid st.vc e.s)->af.bx=st.bx/\af.vc=st.vc/\af.nid=st.nid/\af.m=st.m->RInv ops (fun k=>L k\/k=i) af.rho->next a'):
  if Region.wanted o (yielded ops a.tmps) then o.quiet P a (Cl C st.bx st.vc st.nid st.m V) next else next (a.put o.dst undef):=by
 obtain⟨V0,D0,ha0,hW0⟩:=BF;have ye:∀{V' :Vl} {D' :Nat->Nat} {w' :World},Agree st.nid st.vc V V' ->SatW C st.bx st.vc st.nid st.m V' D' w' ->Sat C n st a V' D' w' :=fun ha hW=>⟨hF.agree oc ha,oc,hW⟩
 have sL:=ye ha0 hW0;obtain⟨hp,hw⟩:=CQ sL hR yn;rw[hw];have back:∀{af:LS} {a' :Act},Sat C n af a' V0 D0 w0->af.bx=st.bx/\af.vc=st.vc/\af.nid=st.nid/\af.m=st.m->SatF n af.env af.rho a' V/\∀e∈af.env,fb st.nid st.vc e.s:=by
  intro af a' dz he;have hid:∀e∈af.env,fb st.nid st.vc e.s:=by rw[<- he.2.1,<- he.2.2.1];exact dz.ids
  exact⟨dz.f.agree hid (fun k hk=>⟨((ha0 k hk).1).symm,fun u hu=>((ha0 k hk).2 u hu).symm⟩),hid⟩
 simp only[one] at h;unfold yE at h;split at h
 ·rename_i q dead he;simp only[A.mk.injEq,Prod.mk.injEq] at he;obtain⟨hq,hdead,hit⟩:=he;have sb:∀(d:Option Nat) (p:ba) (s:SV),(E.put st d p s).bx=st.bx/\(E.put st d p s).vc=st.vc/\(E.put st d p s).nid=st.nid/\(E.put st d p s).m=st.m:=fun d p s=>by cases d<;>exact⟨rfl,rfl,rfl,rfl⟩
  have BD:∀(d:Option Nat) (p:ba) (s:SV) (mv:Bool),(js (E.put st d p s) i d p mv s).bx=st.bx/\(js (E.put st d p s) i d p mv s).vc=st.vc/\(js (E.put st d p s) i d p mv s).nid=st.nid/\(js (E.put st d p s) i d p mv s).m=st.m:=fun d p s mv=>by
   rcases CD (E.put st d p s) i d p mv s with e |⟨_,_,_,_,e⟩
   ·rw[e];exact sb d p s
   ·rw[e];exact sb d p s
  have Ls:∀(d:Option Nat) (p:ba) (s:SV) (mv:Bool),(jt (E.put st d p s) i d p mv).bx=st.bx/\(jt (E.put st d p s) i d p mv).vc=st.vc/\(jt (E.put st d p s) i d p mv).nid=st.nid/\(jt (E.put st d p s) i d p mv).m=st.m:=fun d p s mv=>by
   rcases CE (E.put st d p s) i d p mv with e |⟨_,_,e⟩
   ·rw[e];exact sb d p s
   ·rw[e];exact sb d p s
  unfold tJ at h;split at h
  ·rename_i af p' q';cases q';have hc:=As hdead;rw[hc];simp only[Bool.false_eq_true,if_false];obtain⟨h1,h2⟩:=EB sL hR kY eS hd hit hp hc (kH o.op);obtain⟨h3,h4⟩:=back h1 (Ls _ _ _ _);exact hn _ _ h h3 h4 (Ls _ _ _ _) h2
  ·rename_i af p' q';cases q';obtain⟨s,⟨hs,hK⟩,hdet⟩:=Jr _ h;have bK:∀w',Cl C st.bx st.vc st.nid st.m V w' ->bC st.rho p=true->(execOp a.eval o).run P w' = .ok (.value (den V s)) w' :=by
    rintro w' ⟨V',D',ha,hW⟩ hc;obtain⟨s',e,hr⟩:=C4 (ye ha hW) hp (o:=o) rfl hdet;subst e;rw[hr hc,Ar ha hs]
   cases hc:bC st.rho p with
   |true=>
    simp only[if_true];refine⟨den V s,fun w' zq=> ?_,?_⟩
    ·unfold Oper.quietAt;rw[bK w' zq hc];exact⟨rfl,rfl⟩
    ·have e0:den V s=den V0 s:=(Ar ha0 hs).symm;obtain⟨h1,h2⟩:=yp sL hR kY eS hd hit hp hs (v:=den V s) (by rw[hc,e0];rfl) (kH o.op);obtain⟨h3,h4⟩:=back h1 (BD _ _ _ _);exact hn _ _ hK h3 h4 (BD _ _ _ _) h2
   |false=>
    simp only[Bool.false_eq_true,if_false];obtain⟨h1,h2⟩:=yp sL hR kY eS hd hit hp hs (v:=undef) (by rw[hc];rfl) (kH o.op);obtain⟨h3,h4⟩:=back h1 (BD _ _ _ _);exact hn _ _ hK h3 h4 (BD _ _ _ _) h2
  ·rename_i F af p' q';cases q';obtain⟨y,hy,hB,hK⟩:=ay h;cases hc:bC st.rho p with
   |true=>
    simp only[if_true];obtain⟨f,args,ts,ho,hf⟩:=Is hq;obtain⟨ao,hFF⟩:=dE f F hf;rw[ho] at hy;simp only[vd,Option.bind_eq_some_iff] at hy;obtain⟨aN,⟨ss,qJ,hvals⟩,hy⟩:=hy;refine⟨y.2,?_,?_⟩
    ·rintro w' ⟨V',D',ha,hW⟩;have dz:=ye ha hW;have bK:=Dr (w:=w') (a:=a) ho rfl ao;unfold Oper.quietAt;rw[bK];refine⟨rfl,?_⟩;have lE:args.map a.eval=⟨(aN.map SV.v).map (den V')⟩:=by
      apply Array.ext'
      rw[Array.toList_map,sU dz hp hc qJ,CA hvals];simp only[List.map_map];exact(List.map_id'' (fun x=>rfl) aN).symm
     rw[lE];refine(hFF st.m aN y hy (hB hc) V' w' D' hW.wf hW.mle ⟨fun b hb=>(by cases hb),fun b hb=>(by cases hb),by simp [aE],by simp⟩).mono fun e w2 ⟨r,V2,D2,H',m',he,h1,h2,h3,h4,h5,h6,h7,h8,h9,hr,hH⟩=> ?_
     subst he;subst hr;exact⟨rfl,V',D2,ha,hW.quiet h1 h5 h7⟩
    ·obtain⟨h1,h2⟩:=vK (i:=i) sL hR hd hit hp (s:= .v y.2) trivial (v:=y.2) (fun _=>rfl);obtain⟨h3,h4⟩:=back h1 (sb _ _ _);exact hn _ _ hK h3 h4 (sb _ _ _) h2
   |false=>
    simp only[Bool.false_eq_true,if_false];obtain⟨h1,h2⟩:=vK (i:=i) sL hR hd hit hp (s:= .v y.2) trivial (v:=undef) (fun e=>by rw[hc] at e;cases e);obtain⟨h3,h4⟩:=back h1 (sb _ _ _);exact hn _ _ hK h3 h4 (sb _ _ _) h2
  ·rw[hq] at Mh;cases Mh
 ·cases h
theorem G4 (dE:cw c P) {C:Ctx} {V:Vl} {w0:World} {bx:List Bx} {vc:List Vc} {nid:Nat} {m:Mem} (BF:Cl C bx vc nid m V w0) {K:LS->Prop} {Q:Act->Prop}
  (hQ:∀af a',K (clean af)->SatF n af.env af.rho a' V->(∀e∈af.env,fb nid vc e.s)->af.bx=bx/\af.vc=vc/\af.nid=nid/\af.m=m->Q a'):
  ∀(l:List Oper) (i:Nat) (st:LS) (a:Act),yw c P l i K st->SatF n st.env st.rho a V->(∀e∈st.env,fb nid vc e.s)->st.bx=bx/\st.vc=vc/\st.nid=nid/\st.m=m->RInv ops (· <i) st.rho->
   (∀j,l[j]? =ops[i+j]?)->(∀o∈l,jS n o=true/\Es (eF c o.op)=true)->wpQuiet P ops (Cl C bx vc nid m V) Q l a
 |[],i,st,a,h,hF,oc,he,hR,hl,hd=>hQ _ _ h hF oc he
 |o::r,i,st,a,h,hF,oc,he,hR,hl,hd=>by
  obtain⟨p,hp,h⟩:=ay h;have eS:ops[i]? =some o:=by have:=hl 0;simpa using this.symm
  obtain⟨rfl,rfl,rfl,rfl⟩:=he;unfold wpQuiet;refine O0 hF oc BF dE hR (Nat.lt_irrefl _) eS (hd o (bL ..)).1 (hd o (bL ..)).2 hp h fun af a' hK FM Bf oz qS=> ?_
  exact G4 dE BF hQ r (i+1) af a' hK FM Bf oz (qS.mono fun k hk=>by omega) (fun j=>by have:=hl (j+1);simpa [Nat.add_assoc,Nat.add_comm 1 j] using this) (fun o ho=>hd o (bt _ ho))
theorem vf (dE:cw c P) {id:Nat} {l:List Oper} {Q:Exit->LS->Prop} {st:LS} (hm:P.follows .mixedOrders=true) (hB:Region.lexB .any ⟨l⟩=true) (hd:l.all (fun o=>jS n o&&Es (eF c o.op))=true)
  (h:wo (.mk (k:=(c,P,0,l,Q .normal)) st)):jH (.mk (k:=(P,n,.region id ⟨l⟩ true,Q)) st):=by
 rintro C a w ⟨ev,V,D,hS⟩;have bq:Cl C st.bx st.vc st.nid st.m V {w with drawn:=w.drawn+1}:=⟨V,D,Agree.refl _ _ _,hS.w.drew _⟩;refine wp_region_quiet (C:=Cl C st.bx st.vc st.nid st.m V) hm hB bq ?_;refine G4 (ops:=⟨l⟩) dE bq (K:=Q .normal) ?_ l 0 st a h hS.f hS.ids ⟨rfl,rfl,rfl,rfl⟩ ?_ (fun j=>by simp) (fun o ho=> ?_)
 ·rintro af a' hK FM Bf ⟨e1,e2,e3,e4⟩ w' ⟨V',D',ha,hW⟩;refine⟨clean af,?_,hK⟩;have dz:Sat C n af a' V' D' w' :=⟨FM.agree Bf ha,by rw[e2,e3];exact Bf,by rw[e1,e2,e3,e4];exact hW⟩;exact CF dz
 ·rw[ev];intro g hg;cases hg
 ·have:=List.all_eq_true.1 hd o ho;simpa using this
end
/-! Functions of values, listed. -/
def wx:List (FuncId×(List Value->Option (Prop×Value)))->FuncId->Option (List Value->Option (Prop×Value))
 |[],_=>none
 |(g,F)::r,f=>if g=f then some F else wx r f
def fF (own:FuncId->Bool) (L:List (FuncId×(List Value->Option (Prop×Value)))):Cfg:=⟨own,fun f=>(wx L f).map fun F _=>F⟩
attribute [go_sem] wx.eq_1 wx.eq_2 fF.eq_1
theorem pure_nil {P:Program} {own:FuncId->Bool}:cw (fF own []) P:=fun f F h=>by cases h
theorem pure_cons {P:Program} {own:FuncId->Bool} {L:List (FuncId×(List Value->Option (Prop×Value)))} {g:FuncId} {F:List Value->Option (Prop×Value)} (ao:de P g=true)
  (h:∀aN y,F aN=some y->y.1->∀m,FnH P g (aN.map SV.v) ⟨[],[]⟩ m (fun r H' _=>r= .v y.2/\H' =⟨[],[]⟩)) (hL:cw (fF own L) P):cw (fF own ((g,F)::L)) P:=by
 intro f G hf;by_cases e:g=f
 ·subst e;simp only[fF,wx,if_true,Option.map_some,cn] at hf;subst hf;exact⟨ao,fun m aN y hy hB=>h aN y hy hB m⟩
 ·simp only[fF,wx,aa e] at hf;exact hL f G hf
/-! .. and functions of values and of what lies in memory. -/
def wv:List (FuncId×(Mem->List Value->Option (Prop×Value)))->FuncId->Option (Mem->List Value->Option (Prop×Value))
 |[],_=>none
 |(g,F)::r,f=>if g=f then some F else wv r f
def kI (own:FuncId->Bool) (L:List (FuncId×(Mem->List Value->Option (Prop×Value)))):Cfg:=⟨own,wv L⟩
attribute [go_sem] wv.eq_1 wv.eq_2 kI.eq_1
theorem ra {P:Program} {own:FuncId->Bool}:cw (kI own []) P:=fun f F h=>by cases h
theorem fz {P:Program} {own:FuncId->Bool} {L:List (FuncId×(Mem->List Value->Option (Prop×Value)))} {g:FuncId} {F:Mem->List Value->Option (Prop×Value)} (ao:de P g=true)
  (h:∀m aN y,F m aN=some y->y.1->FnH P g (aN.map SV.v) ⟨[],[]⟩ m (fun r H' _=>r= .v y.2/\H' =⟨[],[]⟩)) (hL:cw (kI own L) P):cw (kI own ((g,F)::L)) P:=by
 intro f G hf;by_cases e:g=f
 ·subst e;simp only[kI,wv,if_true,cn] at hf;subst hf;exact⟨ao,h⟩
 ·simp only[kI,wv,aa e] at hf;exact hL f G hf
def sj (ops:Array Oper):Nat->Nat->Nat->Bool
 |0,_,_=>false
 |f+1,j,i=>match ops[j]? with
  |some o=>o.after.toList.any fun e=>Region.binds .any e&&(e.on==i||sj ops f e.on i)
  |none=>false
def mf (ops:Array Oper) (j i:Nat):Prop:=∃f,sj ops f j i=true
def Closed (ops:Array Oper) (listed:Array Bool) (i:Nat):Prop:=∀k,listed.getD k false=true->mf ops k i->listed.getD i false=true
section
variable {P:Program} {ops:Array Oper} {Q:Exit->Act->World->Prop} {Cw:World->Prop}
theorem Dm {listed:Array Bool} {i:Nat} (h:listed.getD i true=false):listed.getD i false=false:=by
 rcases Nat.lt_or_ge i listed.size with h' |h'
 ·simp only[Array.getD,h',dite_true] at h ⊢;exact h
 ·simp [Array.getElem?_eq_none h'] at h
theorem M5 {listed:Array Bool} {i j:Nat} (hc:Closed ops listed i) (hi:listed.getD i false=false) (hj:j∈Region.ready .any ops listed):¬mf ops j i:=by
 rintro⟨f,hf⟩;obtain⟨_,o,ho,qy⟩:=mem_ready.1 hj;cases f with
 |zero=>cases hf
 |succ f=>
  simp only[sj,ho] at hf;obtain⟨e,he,h⟩:=List.any_eq_true.1 hf;simp only[bw,Bool.or_eq_true,beq_iff_eq] at h;have hl:=qy e (by simpa using he) h.1;rcases h.2 with h2 |h2
  ·rw[h2,hi] at hl;cases hl
  ·have:=hc _ hl ⟨f,h2⟩;rw[hi] at this;cases this
theorem Closed.set {listed:Array Bool} {i j:Nat} (hc:Closed ops listed i) (hj:¬mf ops j i):Closed ops (listed.setIfInBounds j true) i:=fun k hk hd=>by
 by_cases e:j=k
 ·subst e;exact absurd hd hj
 ·rw[getD_set_ne false e] at hk;exact getD_set_true (hc k hk hd)
theorem Closed.done {listed:Array Bool} {i:Nat} (h:listed.getD i false=true):Closed ops listed i:=fun _ _ _=>h
def YW (P:Program) (ops:Array Oper) (Cw:World->Prop) (o:Oper) (v:Value) (a:Act):Prop:=
 (Region.wanted o (yielded ops a.tmps)=true/\∀w,Cw w->(execOp a.eval o).run P w= .ok (.value v) w)\/(Region.wanted o (yielded ops a.tmps)=false/\v=undef)
theorem YW.same {o:Oper} {v:Value} {a a' :Act} (hy:YW P ops Cw o v a) (he:execOp a'.eval o=execOp a.eval o) (hw:Region.wanted o (yielded ops a'.tmps)=Region.wanted o (yielded ops a.tmps)):YW P ops Cw o v a' :=by
 unfold YW at *;rw[he,hw];exact hy
theorem YW.wpOp {i:Nat} {o:Oper} {v:Value} {a:Act} (hi:ops[i]? =some o) (hy:YW P ops Cw o v a) {K:Act->World->Prop} {w:World} (hw:Cw w) (h:K (a.put o.dst v) w):wpOp P ops Q i K a w:=by
 unfold Go.wpOp;simp only[hi];rcases hy with ⟨Fm,hv⟩ |⟨Fm,rfl⟩
 ·simp only[Fm,if_true,Oper.wp,hv w hw,Oper.upon];exact .inl h
 ·simp only[Fm,Bool.false_eq_true,if_false];exact h
theorem Oh {j:Nat} {oi oj:Oper} {v:Value} (hj:ops[j]? =some oj) (ff:oi.apart ops oj=true) (hsi:∀cs b,oi.op≠ .select cs b) (L8:∀cs b,oj.op≠ .select cs b)
  (hQ:∀c a w,¬Q (.panic c) a w) {K:Act->World->Prop} {a:Act} {w:World} (hy:YW P ops Cw oi v a) (h:wpOp P ops Q j K (a.put oi.dst v) w):
  wpOp P ops Q j (fun a' w' =>YW P ops Cw oi v a' /\K (a'.put oi.dst v) w') a w:=by
 obtain⟨h1,h2,h3⟩:=Oper.apart_spec ff;have qu:∀(a:Act),YW P ops Cw oi v a->∀u,YW P ops Cw oi v (a.put oj.dst u):=fun a hy u=>
  hy.same (execOp_put oi hsi a oj.dst u h3) (wanted_put oi a oj.dst u h3)
 have Xy:∀d,YW P ops Cw oi v {a with defers:=d::a.defers}:=fun d=>hy.same rfl rfl
 unfold wpOp at *;simp only[hj] at *;rw[wanted_put oj a oi.dst v h1] at h;split
 ·rename_i hw;simp only[hw,if_true] at h;rcases h with h |⟨KW,hlets⟩
  case inr=>exact .inr ⟨by unfold Oper.asks at *;rw[execOp_put oj L8 a oi.dst v h1] at KW;exact KW,hlets⟩
  refine .inl ?_;unfold Oper.wp at *;rw[execOp_put oj L8 a oi.dst v h1] at h;generalize (execOp a.eval oj).run P w=r at *
  cases r with
  |ok n w' =>
   cases n<;>simp only[Oper.upon] at h ⊢;case value u=>exact⟨qu a hy u,by rw[<- Act.put_comm a v u h2];exact h⟩
   case skip=>exact⟨qu a hy _,by rw[<- Act.put_comm a v undef h2];exact h⟩
   case defer d=>
    refine⟨qu _ (Xy d) _,?_⟩;rw[<- Act.put_comm _ v undef h2,<- Act.put_defers];exact h
   case enter f args=>
    refine Calls.mono h fun e jZ he=> ?_
    cases e with
    |returned u=>exact⟨qu a hy u,by rw[<- Act.put_comm a v u h2];exact he⟩
    |panicked c=>exact absurd he (hQ _ _ _)
    |outgrown=>exact he
   case row row args=>exact Rows.mono h fun u jZ he=>⟨qu a hy u,by rw[<- Act.put_comm a v u h2];exact he⟩
  |halt x w' =>
   cases x<;>simp only[Oper.upon] at h ⊢;case panic u=>exact absurd h (hQ _ _ _)
 ·rename_i hw;simp only[hw] at h;exact⟨qu a hy _,by rw[<- Act.put_comm a v undef h2];exact h⟩
def nM (P:Program) (ops:Array Oper) (Q:Exit->Act->World->Prop):Nat->(Nat×(World->Prop)->Prop)->Array Bool->Act->World->Prop
 |0,_,listed,a,w=>Region.ready .any ops listed=[]/\Q .normal a w
 |fuel+1,I,listed,a,w=>
  (Region.ready .any ops listed=[]->Q .normal a w)/\
  ∀j∈Region.ready .any ops listed,wpOp P ops Q j (fun a' w' =>(∀x,I x->¬mf ops j x.1->x.2 w')/\nM P ops Q fuel (fun x=>I x/\¬mf ops j x.1) (listed.setIfInBounds j true) a' w') a w
theorem Gy:∀(fuel:Nat) (I:Nat×(World->Prop)->Prop) (listed:Array Bool) (a:Act) (w:World),nM P ops Q fuel I listed a w->wpAny P .any ops Q fuel listed a w
 |0,_,_,_,_,h=>h
 |fuel+1,_,_,_,_,h=>⟨h.1,fun j hj=>wpOp_mono (fun a' w' h' =>Gy fuel _ _ a' w' h'.2) (h.2 j hj)⟩
theorem wQ:∀(fuel:Nat) (I J:Nat×(World->Prop)->Prop) (_:∀i,J i->I i) (listed:Array Bool) (a:Act) (w:World),nM P ops Q fuel I listed a w->nM P ops Q fuel J listed a w
 |0,_,_,_,_,_,_,h=>h
 |fuel+1,I,J,hI,_,_,_,h=>⟨h.1,fun j hj=>wpOp_mono (fun a' w' h' =>⟨fun x h1 h2=>h'.1 x (hI x h1) h2,wQ fuel _ _ (fun x hx=>⟨hI x hx.1,hx.2⟩) _ a' w' h'.2⟩) (h.2 j hj)⟩
theorem hoist {i:Nat} {oi:Oper} {v:Value} (hi:ops[i]? =some oi) (BB:∀(j:Nat) (o:Oper) cs b,ops[j]? =some o->o.op≠ .select cs b) (hQ:∀c a w,¬Q (.panic c) a w):
  ∀(fuel:Nat) (I:Nat×(World->Prop)->Prop) (listed:Array Bool) (a:Act) (w:World),
   (∀j oj,ops[j]? =some oj->j≠i->listed.getD j true=false->(∀e∈oj.after,Region.binds .any e=true->e.on≠i)->oi.apart ops oj=true)->
   Closed ops listed i->i∈Region.ready .any ops listed->YW P ops Cw oi v a->Cw w->(∀x,I x->x.2 w)->
   nM P ops Q fuel (fun x=>x=(i,Cw)\/I x) (listed.setIfInBounds i true) (a.put oi.dst v) w->nM P ops Q (fuel+1) I listed a w:=by
 intro fuel;induction fuel with
 |zero=>
  intro I listed a w _ _ hr hy hC hI H;refine⟨fun h=>(by rw[h] at hr;cases hr),fun j hj=> ?_⟩;by_cases hji:j=i
  ·subst hji;exact hy.wpOp hi hC ⟨fun x h1 _=>hI x h1,H⟩
  ·have:=ready_mono hj hji;rw[H.1] at this;cases this
 |succ fuel ih=>
  intro I listed a w Bg bq hr hy hC hI H;refine⟨fun h=>(by rw[h] at hr;cases hr),fun j hj=> ?_⟩;by_cases hji:j=i
  ·subst hji;exact hy.wpOp hi hC ⟨fun x h1 _=>hI x h1,wQ _ _ _ (fun x hx=> .inr hx.1) _ _ _ H⟩
  ·have h1:=H.2 j (ready_mono hj hji);obtain⟨Ln,oj,hoj,qy⟩:=mem_ready.1 hj;have Lp:=Dm (mem_ready.1 hr).1;have en:=M5 bq Lp hj;have qw:∀e∈oj.after,Region.binds .any e=true->e.on≠i:=fun e he hb heq=>by
    have h1:=qy e he hb;rw[heq,Lp] at h1;cases h1
   have h2:=Oh hoj (Bg j oj hoj hji Ln qw) (fun cs b=>BB i oi cs b hi) (fun cs b=>BB j oj cs b hoj) hQ hy h1;have Vy:∀k ok,ops[k]? =some ok->k≠i->(listed.setIfInBounds j true).getD k true=false->
     (∀e∈ok.after,Region.binds .any e=true->e.on≠i)->oi.apart ops ok=true:=fun k ok hk hki wF ou=>by
    refine Bg k ok hk hki ?_ ou;by_cases hjk:j=k
    ·subst hjk;exact Ln
    ·rw[getD_set_ne true hjk] at wF;exact wF
   refine wpOp_mono (fun a' w' h3=> ?_) h2;obtain⟨bH,pE,h3⟩:=h3;have ZJ:=pE (i,Cw) (.inl rfl) en;have Mt:∀x,I x/\¬mf ops j x.1->x.2 w' :=fun x hx=>pE x (.inr hx.1) hx.2
   refine⟨fun x h1 h2=>Mt x ⟨h1,h2⟩,ih _ (listed.setIfInBounds j true) a' w' Vy (bq.set en) (ready_mono hr (Ne.symm hji)) bH ZJ Mt ?_⟩;rw[Array.setIfInBounds_comm _ _ hji];refine wQ _ _ _ (fun x hx=> ?_) _ _ _ h3;rcases hx with rfl |hx
   ·exact⟨.inl rfl,en⟩
   ·exact⟨.inr hx.1,hx.2⟩
end
inductive Plan where
 |done
 |stop
 |hoist (i:Nat) (r:Plan)
 |alt (j:Nat) (ow:List Nat) (r next:Plan)
structure HX where
 i:Nat
 bx:List Bx
 vc:List Vc
 m:Mem
def oo:List Oper->Nat->Option Oper
 |[],_=>none
 |o::_,0=>some o
 |_::r,n+1=>oo r n
def tu (st:LS) (p:ba):List Operand->List Nat->List Nat
 |[],acc=>acc
 |x::r,acc=>rdIds1 st p r acc (bM st p x)
where rdIds1 (st:LS) (p:ba) (r:List Operand) (acc:List Nat):Option SV->List Nat
 |some s=>tu st p r (kM acc [s])
 |none=>tu st p r acc
def iR:Op->List Operand
 | .load _ a=>[a]
 | .convert _ _ a=>[a]
 | .fieldAddr _ a _=>[a]
 | .indexAddr _ a _=>[a]
 | .call {args:=⟨[x]⟩,..}=>[x]
 | .move _=>[]
 | .assign _=>[]
 | .pick _ _ _=>[]
 | .nilCheck _=>[]
 | .binOp _ _ _ _ _=>[]
 | .unOp _ _ _=>[]
 | .field _ _ _=>[]
 | .index _ _ _=>[]
 | .slice _ _ _ _ _=>[]
 | .extract _ _=>[]
 | .build _ _=>[]
 | .lookup _ x _ _=>[x]
 |_=>[]
def mH (ow:List Nat):List HX->List HX
 |[]=>[]
 |⟨i,bx,vc,m⟩::r=>if fp ow i=true then⟨i,bx,vc,m⟩::mH ow r else mH ow r
def ud (st:LS):List HX->Prop
 |[]=>True
 |⟨_,bx,vc,m⟩::r=>po st bx/\pj st vc/\ah m st.m/\ud st r
def BA {P:Program} {o:Oper} {p:ba} {st:LS} {i:Nat} {K:LS->HX->Prop} (x:A (P,o,p,st,i,K) (OpK×Bool×Bool×List Nat)):Prop:=
 match x with
 | .mk (_,true,false,_)=>K (jt (put st o.dst p (.v undef)) i o.dst p (kH o.op)) ⟨i,[],[],st.m⟩
 | .mk (.qt,false,false,ks)=>qOp (.mk (k:=(P,o.op,fun s=>fb st.nid st.vc s/\K (js (put st o.dst p s) i o.dst p (kH o.op) s) ⟨i,ef ks st.bx,dL ks st.vc,st.m⟩)) (⟨st.env,st.rho,ef ks st.bx,dL ks st.vc,st.nid,st.m⟩,p))
 |_=>False
def eG {c:Cfg} {P:Program} {o:Oper} {i:Nat} {K:LS->HX->Prop} (x:A (c,P,o,i,K) (LS×ba)):Prop:=
 match x with
 | .mk (st,p)=>BA (.mk (k:=(P,o,p,st,i,K)) (eF c o.op,rP st.rho p,gP st.rho o.dst,tu st p (iR o.op) []))
def tC (c:Cfg) (P:Program) (l:List Oper) (K:LS->Prop):Plan->List HX->LS->Prop
 | .done,_,st=>K (clean st)
 | .stop,_,_=>True
 | .hoist i r,I,st=>az (.mk (k:=fun o:Oper=>az (.mk (k:=fun p:ba=>eG (.mk (k:=(c,P,o,i,fun af X=>tC c P l K r (X::I) af)) (st,p))) (pathOf st o.guard))) (oo l i))
 | .alt j ow r nx,I,st=>az (.mk (k:=fun o:Oper=>az (.mk (k:=fun p:ba=>one (.mk (k:=(c,P,j,o,fun af=>ud af (mH ow I)/\tC c P l K r (mH ow I) af)) (st,p))) (pathOf st o.guard))) (oo l j))/\tC c P l K nx I st
def sv {c:Cfg} {P:Program} {l:List Oper} {K:LS->Prop} {pl:Plan} {I:List HX} (x:A (c,P,l,K,pl,I) LS):Prop:=match x with | .mk st=>tC c P l K pl I st
/-! Does the plan fit the region? -/
def chk (ops:Array Oper):Plan->Nat->List Nat->Array Bool->Option (List Nat)->Bool
 | .done,_,_,listed,none=>(Region.ready .any ops listed).isEmpty
 | .hoist i r,f+1,H,listed,none=>Region.free .any ops listed i&&(Region.ready .any ops listed).contains i&&chk ops r f (i::H) (listed.setIfInBounds i true) none
 | .alt j ow r nx,f+1,H,listed,none=>(Region.ready .any ops listed).contains j&&H.all (fun i=>fp ow i||sj ops ops.size j i)&&
   chk ops r f (H.filter (fp ow)) (listed.setIfInBounds j true) none&&chk ops nx (f+1) H listed (some ((Region.ready .any ops listed).filter (· != j)))
 | .alt j ow r nx,f+1,H,listed,some R=>R.contains j&&(Region.ready .any ops listed).contains j&&H.all (fun i=>fp ow i||sj ops ops.size j i)&&
   chk ops r f (H.filter (fp ow)) (listed.setIfInBounds j true) none&&chk ops nx (f+1) H listed (some (R.filter (· != j)))
 | .stop,_,_,_,some R=>R.isEmpty
 |_,_,_,_,_=>false
section
variable {ops:Array Oper}
def AllClosed (ops:Array Oper) (listed:Array Bool):Prop:=∀i,Closed ops listed i
theorem Ih {listed:Array Bool} {j:Nat} (hj:j∈Region.ready .any ops listed):j<listed.size:=by
 have h:=(mem_ready.1 hj).1;rcases Nat.lt_or_ge j listed.size with h' |h'
 ·exact h'
 ·simp [Array.getElem?_eq_none h'] at h
theorem Jn {listed:Array Bool} {j:Nat} (hj:j<listed.size):(listed.setIfInBounds j true).getD j false=true:=by simp [hj]
theorem OC {listed:Array Bool} {j k:Nat} (h:(listed.setIfInBounds j true).getD k false=true):k=j\/listed.getD k false=true:=by
 by_cases e:j=k
 ·exact .inl e.symm
 ·rw[getD_set_ne false e] at h;exact .inr h
theorem AllClosed.set {listed:Array Bool} {j:Nat} (hc:AllClosed ops listed) (hj:j∈Region.ready .any ops listed):AllClosed ops (listed.setIfInBounds j true):=by
 intro i k hk hd;refine getD_set_true ?_;rcases OC hk with rfl |hk
 ·obtain⟨_,o,ho,qy⟩:=mem_ready.1 hj;obtain⟨f,hf⟩:=hd;cases f with
  |zero=>cases hf
  |succ f=>
   simp only[sj,ho] at hf;obtain⟨e,he,h⟩:=List.any_eq_true.1 hf;simp only[bw,Bool.or_eq_true,beq_iff_eq] at h;have hl:=qy e (by simpa using he) h.1;rcases h.2 with h2 |h2
   ·rw[<- h2];exact hl
   ·exact hc i _ hl ⟨f,h2⟩
 ·exact hc i k hk hd
theorem D4:∀{l:List Oper} {i:Nat} {o:Oper},oo l i=some o->l[i]? =some o
 |[],_,_,h=>by cases h
 |o::r,0,o',h=>h
 |o::r,n+1,o',h=>by
  simp only[oo] at h;simpa using D4 h
end
section
variable {C:Ctx} {n:Nat} {st:LS} {a:Act} {V:Vl} {D:Nat->Nat} {w:World} {P:Program} {p:ba} {c:Cfg} {ops:Array Oper} {L:Nat->Prop} {i:Nat} {o:Oper}
structure SX where
 h:HX
 nid:Nat
 vc:List Vc
 V:Vl
def SX.cl (C:Ctx) (x:SX) (w:World):Prop:=∃V' D',Agree x.nid x.vc x.V V' /\SatW C x.h.bx x.h.vc x.nid x.h.m V' D' w
structure SX.ok (C:Ctx) (st:LS) (V:Vl) (x:SX):Prop where
 step:Step x.nid x.vc st.nid st.vc x.V V
 hd:oZ ⟨[],[],x.h.bx,x.h.vc,x.nid,x.h.m⟩
 b:∀b∈C.H0.bx,b.id<x.nid
 v:∀b∈C.H0.vc,b.id<x.nid
 m:C.m0.le x.h.m
theorem CP {L:List Nat}:∀{bx:List Bx},∀b∈ef L bx,b∈bx
 |[],_,h=>h
 |⟨k,t,cs⟩::r,b,h=>by
  simp only[ef] at h;split at h
  ·rcases List.mem_cons.1 h with rfl |h
   ·exact bL ..
   ·exact bt _ (CP b h)
  ·exact bt _ (CP b h)
theorem SatW.pickW (h:SatW C st.bx st.vc st.nid st.m V D w) (ks:List Nat):SatW C (ef ks st.bx) (dL ks st.vc) st.nid st.m V D w:=by
 have uj:=(zY ks h.heap).app.1;have hv:∀b∈dL ks st.vc,b∈st.vc:=fun b hb=>(rb hb).1
 have hb:∀b∈ef ks st.bx,b∈st.bx:=fun b hb=>CP b hb
 have B3:∀{k u:Nat},aY st.vc k u->aY (dL ks st.vc) k u:=fun{k u} hh=>(uY uj.uniq).2 fun x hx e=>(uY h.heap.uniq).1 hh x (hv x hx) e
 have Zx:∀s:SV,gQ st.nid st.vc s->gQ st.nid (dL ks st.vc) s:=fun s hs=>by
  cases s<;>first |exact hs |exact⟨hs.1,B3 hs.2⟩
 have Zw:∀l:List SV,cL st.nid st.vc l->cL st.nid (dL ks st.vc) l:=fun l=>by
  induction l with
  |nil=>exact id
  |cons s r ih=>exact fun hs=>⟨Zx s hs.1,ih hs.2⟩
 exact⟨uj,h.wf,h.frm,fun g hg=>h.own g (DK hb hv g hg),h.baseB,fun b cN=>⟨(h.baseV b cN).1,(h.baseV b cN).2.1,B3 (h.baseV b cN).2.2⟩,
  ⟨fun b cN=>⟨(h.ids.1 b (hb b cN)).1,Zw _ (h.ids.1 b (hb b cN)).2⟩,fun b cN=>h.ids.2 b (hv b cN)⟩,h.le0,h.m0,h.mle⟩
theorem JE {nid:Nat} {vc:List Vc}:∀{bx:List Bx},(∀b∈bx,b.id<nid/\cL nid vc b.cs)->vT nid vc bx
 |[],_=>trivial
 |⟨k,t,cs⟩::r,h=>⟨(h ⟨k,t,cs⟩ (bL ..)).1,(h ⟨k,t,cs⟩ (bL ..)).2,JE fun b hb=>h b (bt _ hb)⟩
theorem JD {nid:Nat}:∀{vc:List Vc},(∀b∈vc,b.id<nid)->vS nid vc
 |[],_=>trivial
 |⟨k,_,_,_,_,_⟩::r,h=>⟨h _ (bL ..),JD fun b hb=>h b (bt _ hb)⟩
theorem Pk (hS:Sat C n st a V D w) (hR:RInv ops L st.rho) (kY:¬L i) (eS:ops[i]? =some o) (hd:jS n o=true) (yn:pathOf st o.guard=some p) {K:LS->HX->Prop} (h:eG (.mk (k:=(c,P,o,i,K)) (st,p))):
  ∃(v:Value) (x:SX) (af:LS),x.h.i=i/\YW P ops (x.cl C) o v a/\x.cl C w/\x.ok C af V/\af.nid=st.nid/\af.vc=st.vc/\K af x.h/\Sat C n af (a.put o.dst v) V D w/\RInv ops (fun k=>L k\/k=i) af.rho:=by
 obtain⟨hp,hw⟩:=CQ hS hR yn;have Li:∀ks,oZ ⟨[],[],ef ks st.bx,dL ks st.vc,st.nid,st.m⟩:=fun ks=>by
  have:=(hS.w.pickW ks).ids;exact⟨trivial,JE this.1,JD this.2⟩
 have hB:∀b∈C.H0.bx,b.id<st.nid:=fun b hb=>(hS.w.baseB b hb).2
 have hV:∀b∈C.H0.vc,b.id<st.nid:=fun b hb=>(hS.w.baseV b hb).2.1
 simp only[eG] at h;unfold BA at h;split at h
 ·rename_i ks q;simp only[A.mk.injEq,Prod.mk.injEq] at q;obtain⟨hq,hdead,hit,_⟩:=q;have hc:=As hdead;obtain⟨h1,h2⟩:=EB hS hR kY eS hd hit hp hc (kH o.op);have bq:=hS.w.pickW [];have e1:ef [] st.bx=[]:=by
   generalize st.bx=l
   induction l with
   |nil=>rfl
   |cons x r ih=>obtain⟨_,_,_⟩:=x;simp only[ef,List.contains_nil,Bool.false_eq_true,if_false];exact ih
  have e2:dL [] st.vc=[]:=by
   generalize st.vc=l
   induction l with
   |nil=>rfl
   |cons x r ih=>obtain⟨_,_,_,_,_,_⟩:=x;simp only[dL,List.contains_nil,Bool.false_eq_true,if_false];exact ih
  rw[e1,e2] at bq;have hh:=Li [];rw[e1,e2] at hh;refine⟨undef,⟨⟨i,[],[],st.m⟩,st.nid,st.vc,V⟩,_,rfl,.inr ⟨by rw[hw];exact hc,rfl⟩,⟨V,D,Agree.refl _ _ _,bq⟩,⟨Step.same uV.1 uV.2 V,hh,hB,hV,hS.w.m0⟩,uV.1,uV.2,h,h1,h2⟩
 ·rename_i ks q;simp only[A.mk.injEq,Prod.mk.injEq] at q;obtain⟨hq,hdead,hit,hks⟩:=q;obtain⟨s,⟨hs,hK⟩,hdet⟩:=Jr _ h;have oc:∀e∈st.env,fb st.nid st.vc e.s:=hS.ids;have B3:∀{k u:Nat},aY st.vc k u->aY (dL ks st.vc) k u:=fun{k u} hh=>
   (uY (hS.w.pickW ks).heap.uniq).2 fun x hx e=>(uY hS.w.heap.uniq).1 hh x (rb hx).1 e
  have ye:∀{V' :Vl} {D' :Nat->Nat} {w' :World},Agree st.nid st.vc V V' ->SatW C (ef ks st.bx) (dL ks st.vc) st.nid st.m V' D' w' ->
    Sat C n ⟨st.env,st.rho,ef ks st.bx,dL ks st.vc,st.nid,st.m⟩ a V' D' w' :=fun ha hW=>
   ⟨hS.f.agree oc ha,fun e he=>Iv (aA _) (fun k u _ hh=>B3 hh) (oc e he),hW⟩
  have bK:∀w',(SX.cl C ⟨⟨i,ef ks st.bx,dL ks st.vc,st.m⟩,st.nid,st.vc,V⟩ w')->bC st.rho p=true->(execOp a.eval o).run P w' = .ok (.value (den V s)) w' :=by
   rintro w' ⟨V',D',ha,hW⟩ hc;obtain⟨s',e,hr⟩:=C4 (ye ha hW) hp (o:=o) rfl hdet;subst e;rw[hr hc,Ar ha hs]
  refine⟨if bC st.rho p=true then den V s else undef,⟨⟨i,ef ks st.bx,dL ks st.vc,st.m⟩,st.nid,st.vc,V⟩,_,rfl,?_,⟨V,D,Agree.refl _ _ _,hS.w.pickW ks⟩,⟨Step.same uU.1 uU.2 V,Li ks,hB,hV,hS.w.m0⟩,uU.1,uU.2,hK,yp hS hR kY eS hd hit hp hs rfl (kH o.op)⟩;cases hc:bC st.rho p with
  |true=>exact .inl ⟨by rw[hw];exact hc,fun w' zq=>by simpa using bK w' zq hc⟩
  |false=>exact .inr ⟨by rw[hw];exact hc,by simp⟩
 ·cases h
theorem Jw {st:LS}:∀{I:List HX},ud st I->∀x∈I,po st x.bx/\pj st x.vc/\ah x.m st.m
 |[],_,_,h=>by cases h
 |⟨_,_,_,_⟩::r,h,x,hx=>by
  rcases List.mem_cons.1 hx with rfl |hx
  ·exact⟨h.1,h.2.1,h.2.2.1⟩
  ·exact Jw h.2.2.2 x hx
theorem C9 {ow:List Nat}:∀{S:List SX},mH ow (S.map (·.h))=(S.filter fun x=>fp ow x.h.i).map (·.h)
 |[]=>rfl
 |x::r=>by
  obtain⟨⟨i,bx,vc,m⟩,nid,df,V⟩:=x;simp only[aG,mH,List.filter_cons];split
  ·rw[C9];rfl
  ·exact C9
theorem Rs {ow:List Nat} {S:List SX}:(S.filter fun x=>fp ow x.h.i).map (·.h.i)=(S.map (·.h.i)).filter (fp ow):=by
 rw[List.filter_map];rfl
theorem Ku {st af:LS} (e:af.bx=st.bx):∀{l:List Bx},po st l->po af l
 |[],_=>trivial
 |⟨_,_,_⟩::_,h=>⟨by rw[e];exact h.1,h.2.1,Ku e h.2.2⟩
theorem Kt {st af:LS} (e:af.vc=st.vc):∀{l:List Vc},pj st l->pj af l
 |[],_=>trivial
 |⟨_,_,_,_,_,_⟩::_,h=>⟨by rw[e];exact h.1,h.2.1,Kt e h.2.2⟩
theorem SX.still {x:SX} (hx:x.ok C st V) (hS:Sat C n st a V D w) (h1:po st x.h.bx) (h2:pj st x.h.vc) (h3:ah x.h.m st.m):x.cl C w:=by
 have hF:Sat C n ⟨[],[],st.bx,st.vc,st.nid,st.m⟩ a V D w:=
  ⟨⟨hS.f.defers,hS.f.size,fun e he=>(by cases he),fun t q s _ hl _=>(by cases hl),fun g hg=>(by cases hg)⟩,fun e he=>(by cases he),hS.w⟩
 have hM:Match ⟨[],[],st.bx,st.vc,st.nid,st.m⟩ ⟨[],[],x.h.bx,x.h.vc,x.nid,x.h.m⟩:=by
  refine⟨trivial,rfl,?_,?_,h3⟩
  ·exact Ku (st:=st) (af:=⟨[],[],st.bx,st.vc,st.nid,st.m⟩) rfl h1
  ·exact Kt (st:=st) (af:=⟨[],[],st.bx,st.vc,st.nid,st.m⟩) rfl h2
 exact⟨V,D,hx.step.agr,(hF.weaken hM hx.hd hx.b hx.v hx.m).w⟩
theorem Uv (dE:cw c P) {l:List Oper} {K:LS->Prop} {Q:Exit->Act->World->Prop} {listed:Array Bool} {S:List SX} {j f:Nat} {ow:List Nat} {r:Plan} (BE:∀o∈l,jS n o=true)
  (hj:j∈Region.ready .any ⟨l⟩ listed) (hH:(S.map (·.h.i)).all (fun i=>fp ow i||sj ⟨l⟩ l.length j i)=true)
  (h:az (.mk (k:=fun o:Oper=>az (.mk (k:=fun p:ba=>one (.mk (k:=(c,P,j,o,fun af=>ud af (mH ow (S.map (·.h)))/\tC c P l K r (mH ow (S.map (·.h))) af)) (st,p))) (pathOf st o.guard))) (oo l j)))
  (hS:Sat C n st a V D w) (hR:RInv ⟨l⟩ (fun k=>listed.getD k false=true) st.rho) (hX:∀x∈S,x.ok C st V/\x.cl C w)
  (ih:∀af a' V' D' w',tC c P l K r ((S.filter fun x=>fp ow x.h.i).map (·.h)) af->Sat C n af a' V' D' w' ->RInv ⟨l⟩ (fun k=>(listed.setIfInBounds j true).getD k false=true) af.rho->
   (∀x∈S.filter (fun x=>fp ow x.h.i),x.ok C af V' /\x.cl C w')->nM P ⟨l⟩ Q f (fun y=>∃x∈S.filter (fun x=>fp ow x.h.i),y=(x.h.i,x.cl C)) (listed.setIfInBounds j true) a' w'):
  wpOp P ⟨l⟩ Q j (fun a' w' =>(∀y,(∃x∈S,y=(x.h.i,x.cl C))->¬mf ⟨l⟩ j y.1->y.2 w')/\nM P ⟨l⟩ Q f (fun y=>(∃x∈S,y=(x.h.i,x.cl C))/\¬mf ⟨l⟩ j y.1) (listed.setIfInBounds j true) a' w') a w:=by
 obtain⟨o,ho,h⟩:=ay h;obtain⟨p,hp,h⟩:=ay h;have uu:l[j]? =some o:=D4 ho;have eS:(⟨l⟩:Array Oper)[j]? =some o:=by simpa using uu
 have wF:=Dm (mem_ready.1 hj).1;have qw:∀x∈S,¬mf ⟨l⟩ j x.h.i->fp ow x.h.i=true:=fun x hx en=>by
  have:=List.all_eq_true.1 hH x.h.i (List.mem_map.2 ⟨x,hx,rfl⟩);rcases Bool.or_eq_true_iff.1 this with h |h
  ·exact h
  ·exact absurd ⟨_,h⟩ en
 unfold wpOp;simp only[eS];refine Hl hS dE hR (by rw[wF];exact Bool.false_ne_true) eS (BE o (List.mem_of_getElem? uu)) hp h fun af a' V' D' w' ⟨Mf,hK⟩ dz qS eG=> ?_
 rw[C9] at Mf hK;have Cf:∀x∈S.filter (fun x=>fp ow x.h.i),x.ok C af V' /\x.cl C w' :=fun x hx=>by
  have zl:=(hX x (List.mem_filter.1 hx).1).1;have ao:x.ok C af V' :=⟨zl.step.trans eG,zl.hd,zl.b,zl.v,zl.m⟩;obtain⟨h1,h2,h3⟩:=Jw Mf x.h (List.mem_map.2 ⟨x,hx,rfl⟩);exact⟨ao,SX.still ao dz h1 h2 h3⟩
 refine⟨?_,wQ _ _ _ ?_ _ _ _ (ih af a' V' D' w' hK dz (qS.mono fun k hk=> ?_) Cf)⟩
 ·rintro y ⟨x,hx,rfl⟩ en;exact(Cf x (List.mem_filter.2 ⟨hx,qw x hx en⟩)).2
 ·rintro y ⟨⟨x,hx,rfl⟩,en⟩;exact⟨x,List.mem_filter.2 ⟨hx,qw x hx en⟩,rfl⟩
 ·rcases hk with hk |rfl
  ·exact getD_set_true hk
  ·exact Jn (Ih hj)
theorem NP (dE:cw c P) {l:List Oper} {K:LS->Prop} {Q:Exit->Act->World->Prop} (hQ0:∀c a w,¬Q (.panic c) a w) (hQ:∀af a' w',K af->jg C n af a' w' ->Q .normal a' w')
  (BB:Region.noSelect ⟨l⟩=true) (BE:∀o∈l,jS n o=true):
  ∀(pl:Plan) (fuel:Nat) (listed:Array Bool) (rem:Option (List Nat)) (st:LS) (a:Act) (V:Vl) (D:Nat->Nat) (w:World) (S:List SX),
   chk ⟨l⟩ pl fuel (S.map (·.h.i)) listed rem=true->AllClosed ⟨l⟩ listed->tC c P l K pl (S.map (·.h)) st->Sat C n st a V D w->RInv ⟨l⟩ (fun k=>listed.getD k false=true) st.rho->(∀x∈S,x.ok C st V/\x.cl C w)->
   match rem with
   |none=>nM P ⟨l⟩ Q fuel (fun y=>∃x∈S,y=(x.h.i,x.cl C)) listed a w
   |some R=>∀f,fuel=f+1->∀j∈R,wpOp P ⟨l⟩ Q j (fun a' w' =>(∀y,(∃x∈S,y=(x.h.i,x.cl C))->¬mf ⟨l⟩ j y.1->y.2 w')/\nM P ⟨l⟩ Q f (fun y=>(∃x∈S,y=(x.h.i,x.cl C))/\¬mf ⟨l⟩ j y.1) (listed.setIfInBounds j true) a' w') a w:=by
 intro pl;induction pl with
 |done=>
  intro fuel listed rem st a V D w S hc bq h hS hR hX;cases rem with
  |some R=>simp [chk] at hc
  |none=>
   simp only[chk,List.isEmpty_iff] at hc;have hq:=hQ _ _ _ h (CF hS);cases fuel with
   |zero=>exact⟨hc,hq⟩
   |succ f=>exact⟨fun _=>hq,by rw[hc];intro j hj;cases hj⟩
 |stop=>
  intro fuel listed rem st a V D w S hc bq h hS hR hX;cases rem with
  |none=>simp [chk] at hc
  |some R=>
   simp only[chk,List.isEmpty_iff] at hc;subst hc;intro f _ j hj;cases hj
 |hoist i r ih=>
  intro fuel listed rem st a V D w S hc bq h hS hR hX;cases rem with
  |some R=>cases fuel<;>simp [chk] at hc
  |none=>
   cases fuel with
   |zero=>simp [chk] at hc
   |succ f=>
    simp only[chk,bw] at hc;obtain⟨⟨Bg,cR⟩,hc⟩:=hc;have cR:i∈Region.ready .any ⟨l⟩ listed:=by simpa using cR
    obtain⟨o,ho,h⟩:=ay h;obtain⟨p,hp,h⟩:=ay h;have uu:l[i]? =some o:=D4 ho;have eS:(⟨l⟩:Array Oper)[i]? =some o:=by simpa using uu
    have wF:=Dm (mem_ready.1 cR).1;obtain⟨v,x,af,hxi,hy,hclw,ao,hn,hv,hK,dz,qS⟩:=Pk hS hR (by rw[wF];exact Bool.false_ne_true) eS (BE o (List.mem_of_getElem? uu)) hp h;refine hoist eS (Region.noSelect_spec BB) hQ0 f _ listed a w (Region.free_spec eS Bg) (bq i) cR hy hclw ?_ ?_
    ·rintro y ⟨z,hz,rfl⟩;exact(hX z hz).2
    ·have:=ih f (listed.setIfInBounds i true) none af (a.put o.dst v) V D w (x::S) (by simp only[aG,hxi];exact hc) (bq.set cR) hK dz (qS.mono fun k hk=>by
      rcases hk with hk |rfl
      ·exact getD_set_true hk
      ·exact Jn (Ih cR)) (fun z hz=>by
      rcases List.mem_cons.1 hz with rfl |hz
      ·exact⟨ao,hclw⟩
      ·obtain⟨h1,h2⟩:=hX z hz
       exact⟨⟨by rw[hn,hv];exact h1.step,h1.hd,h1.b,h1.v,h1.m⟩,h2⟩)
     refine wQ _ _ _ ?_ _ _ _ this;rintro y (rfl |⟨z,hz,rfl⟩)
     ·exact⟨x,bL ..,by rw[hxi]⟩
     ·exact⟨z,bt _ hz,rfl⟩
 |alt j ow r nx ihr ihn=>
  intro fuel listed rem st a V D w S hc bq h hS hR hX;cases fuel with
  |zero=>cases rem<;>simp [chk] at hc
  |succ f=>
   obtain⟨h,hnx⟩:=h;have key:∀(hj:j∈Region.ready .any ⟨l⟩ listed) (hH:(S.map (·.h.i)).all (fun i=>fp ow i||sj ⟨l⟩ l.length j i)=true) (Mo:chk ⟨l⟩ r f ((S.map (·.h.i)).filter (fp ow)) (listed.setIfInBounds j true) none=true),
     wpOp P ⟨l⟩ Q j (fun a' w' =>(∀y,(∃x∈S,y=(x.h.i,x.cl C))->¬mf ⟨l⟩ j y.1->y.2 w')/\nM P ⟨l⟩ Q f (fun y=>(∃x∈S,y=(x.h.i,x.cl C))/\¬mf ⟨l⟩ j y.1) (listed.setIfInBounds j true) a' w') a w:=by
    intro hj hH Mo;refine Uv dE BE hj hH h hS hR hX fun af a' V' D' w' hK dz qS Cf=> ?_
    exact ihr f (listed.setIfInBounds j true) none af a' V' D' w' (S.filter fun x=>fp ow x.h.i) (by rw[Rs];exact Mo) (bq.set hj) hK dz qS Cf
   cases rem with
   |none=>
    simp only[chk,bw] at hc;obtain⟨⟨⟨h1,h2⟩,h3⟩,h4⟩:=hc;have hj:j∈Region.ready .any ⟨l⟩ listed:=by simpa using h1
    have ym:=ihn (f+1) listed (some _) st a V D w S h4 bq hnx hS hR hX f rfl;refine⟨fun h0=>(by rw[h0] at hj;cases hj),fun k hk=> ?_⟩;by_cases e:k=j
    ·subst e;exact key hj h2 h3
    ·exact ym k (List.mem_filter.2 ⟨hk,by simpa using e⟩)
   |some R=>
    simp only[chk,bw] at hc;obtain⟨⟨⟨⟨h0,h1⟩,h2⟩,h3⟩,h4⟩:=hc;have hj:j∈Region.ready .any ⟨l⟩ listed:=by simpa using h1
    have ym:=ihn (f+1) listed (some _) st a V D w S h4 bq hnx hS hR hX f rfl;rintro f' e k hk;obtain rfl:f=f' :=Nat.succ.inj e;by_cases e:k=j
    ·subst e;exact key hj h2 h3
    ·exact ym k (List.mem_filter.2 ⟨hk,by simpa using e⟩)
theorem bX (pl:Plan) (dE:cw c P) {id:Nat} {l:List Oper} {Q:Exit->LS->Prop} {st:LS} (hm:P.follows .mixedOrders=true)
  (hc:(chk ⟨l⟩ pl l.length [] (Array.replicate l.length false) none&&Region.noSelect ⟨l⟩&&l.all (jS n))=true)
  (h:sv (.mk (k:=(c,P,l,Q .normal,pl,[])) st)):jH (.mk (k:=(P,n,.region id ⟨l⟩ true,Q)) st):=by
 simp only[bw] at hc;obtain⟨⟨hc,hns⟩,hd⟩:=hc;rintro C a w ⟨ev,V,D,hS⟩;refine wp_mono (Q:=fun e a' w' =>match e with | .normal=>∃af,jg C n af a' w' /\Q .normal af |_=>False) (wp_region_any hm (Gy _ (fun y=>∃x∈([]:List SX),y=(x.h.i,x.cl C)) _ _ _ ?_)) ?_
 ·refine NP dE (K:=Q .normal) (fun _ _ _ h=>h) (fun af a' w' hq hE=>⟨af,hE,hq⟩) hns (fun o ho=>List.all_eq_true.1 hd o ho) pl l.length (Array.replicate l.length false) none st a V D _ [] hc ?_ h
   ⟨hS.f,hS.ids,hS.w.drew _⟩ ?_ (fun x hx=>by cases hx)
  ·intro i k hk;exfalso;rcases Nat.lt_or_ge k l.length with h' |h'
   ·simp [h'] at hk
   ·simp [Nat.not_lt.2 h'] at hk
  ·rw[ev];intro g hg;cases hg
 ·intro e a' w' hq;cases e with
  |normal=>exact hq
  |_=>exact False.elim hq
end
section
variable {c:Cfg} {P:Program} {l:List Oper} {K:LS->Prop} {I:List HX} {st:LS}
theorem PX:sv (.mk (k:=(c,P,l,K,Plan.done,I)) st)=K (clean st):=rfl
theorem PW:sv (.mk (k:=(c,P,l,K,Plan.stop,I)) st)=True:=rfl
theorem Ok {i:Nat} {r:Plan}:sv (.mk (k:=(c,P,l,K,Plan.hoist i r,I)) st)=
  az (.mk (k:=fun o:Oper=>az (.mk (k:=fun p:ba=>eG (.mk (k:=(c,P,o,i,fun af X=>sv (.mk (k:=(c,P,l,K,r,X::I)) af))) (st,p))) (pathOf st o.guard))) (oo l i)):=rfl
theorem Sb {j:Nat} {ow:List Nat} {r nx:Plan}:sv (.mk (k:=(c,P,l,K,Plan.alt j ow r nx,I)) st)=
  (az (.mk (k:=fun o:Oper=>az (.mk (k:=fun p:ba=>one (.mk (k:=(c,P,j,o,fun af=>ud af (mH ow I)/\sv (.mk (k:=(c,P,l,K,r,mH ow I)) af))) (st,p))) (pathOf st o.guard))) (oo l j))/\
   sv (.mk (k:=(c,P,l,K,nx,I)) st)):=rfl
end
theorem Vk {x:ByteArray}:(Value.string x).oneCell' =true:=rfl
theorem Vn {k:IntKind} {x:Int}:(Value.int k x).oneCell' =true:=rfl
theorem SM {x:Bool}:(Value.bool x).oneCell' =true:=rfl
theorem Vm {x:Option Addr}:(Value.pointer x).oneCell' =true:=rfl
theorem Xt {x:Option Addr} {n c:Nat}:(Value.slice x n c).oneCell' =true:=rfl
attribute [go_sem] Vk Vn SM Vm Xt
attribute [go_sem] eG.eq_1 BA.eq_1 BA.eq_2 tu.eq_1 tu.eq_2 tu.rdIds1.eq_1 tu.rdIds1.eq_2 iR.eq_1 iR.eq_2 iR.eq_3 iR.eq_4 iR.eq_5 iR.eq_6 iR.eq_7 iR.eq_8 iR.eq_9 iR.eq_10 iR.eq_11 iR.eq_12 iR.eq_13 iR.eq_14 iR.eq_15 iR.eq_16 iR.eq_17 PX PW Ok Sb oo.eq_1 oo.eq_2 oo.eq_3 mH.eq_1 mH.eq_2 ud.eq_1 ud.eq_2
theorem least {J:Nat->Prop}:∀n,J n->∃k,J k/\∀j,j<k->¬J j:=by
 intro n;induction n using Nat.strongRecOn with
 |_ n ih=>
  intro h;by_cases hj:∃j,j<n/\J j
  ·obtain⟨j,an,hJ⟩:=hj;exact ih j an hJ
  ·exact⟨n,h,fun j an hJ=>hj ⟨j,an,hJ⟩⟩
section
variable {P:Program} {a:Act} {w:World} {Q:Exit->Act->World->Prop}
end
section
variable {P:Program} {n:Nat} {c:Cfg} {st:LS}
def LP (Q:Exit->LS->Prop):Exit->LS->Prop
 | .goto _,_=>False
 |e,st=>Q e st
theorem xA {x:Code} {Q:Exit->LS->Prop} (t:Nat) (e:TypeId) (sz:Nat) (h0:0<sz) (hl:dP st.env t []=some (.v (.slice none 0 0)))
  (h:jH (.mk (k:=(P,n,x,Q)) ⟨⟨t,[],.vec st.nid 0⟩::st.env,st.rho,st.bx,⟨st.nid,0,e,sz,0,[]⟩::st.vc,st.nid+1,st.m⟩)):jH (.mk (k:=(P,n,x,Q)) st):=by
 rintro C a w ⟨ev,V,D,hS⟩;obtain⟨V',ha,hγ,hW⟩:=hS.w.addVc (w' :=w) (hd:=⟨none,0,0⟩) (e:=e) (sz:=sz) (n:=0) (xs:=[]) rfl rfl rfl (aA _) (fun _ _=>rfl) (World.ownsRow_nil w 0 e sz) (fun g hg=>by cases hg) h0 (fun u hu=>by cases hu);have dz:Sat C n _ a V' D w:=hS.to ha (Nat.le_succ _) (fun k u hk hv=>pG rfl k u hk hv) hW;refine h C a w ⟨ev,V',D,⟨dz.f.defers,dz.f.size,fun e' oz=> ?_,fun t' q s' hq kU hc=> ?_,dz.f.rho⟩,fun e' oz=> ?_,hW⟩
 ·rcases List.mem_cons.1 oz with rfl |oz
  ·exact nF
  ·exact dz.f.pth e' oz
 ·simp only[dP] at kU;split at kU
  ·rename_i ht;subst ht;split at kU
   ·cases kU;have:=hS.f.env t [] _ nF hl rfl;rw[this];show some (Value.slice none 0 0)=some (Hd.val (V'.γ st.nid 0));rw[hγ];rfl
   ·cases kU
  ·exact dz.f.env t' q s' hq kU hc
 ·rcases List.mem_cons.1 oz with rfl |oz
  ·exact⟨Nat.lt_succ_self _,by simp [aY]⟩
  ·exact dz.ids e' oz
end
attribute [go_sem] LP.eq_1 LP.eq_2
end Go.Proofs.YtmdokbohofchgaaGreatDoor.E
namespace Go.Proofs
open Go.Shelf
def Tryz.lays137_ren:Go.Shelf.Ren:=⟨fun |137=>269 |217=>286 |266=>288 |n=>n,fun |9=>9 |5=>5 |3=>3 |n=>n,fun |n=>n⟩
theorem Tryz.lays137:Go.Proofs.Lays.n137 Tryz.prog Tryz.lays137_ren:={
 mixed:=by kernel_rfl
 f137:=Tryz.func269.trans (congrArg some (by kernel_rfl))
 f217:=Tryz.func286.trans (congrArg some (by kernel_rfl))
 f266:=Tryz.func288.trans (congrArg some (by kernel_rfl))
 t3:=Tryz.underlying3
 a3:=Tryz.isAgg3
 z3:=Tryz.sizeOf3
 v3:=Tryz.zeroValue3
 t5:=Tryz.underlying5
 a5:=Tryz.isAgg5
 z5:=Tryz.sizeOf5
 v5:=Tryz.zeroValue5
 t9:=Tryz.underlying9
 a9:=Tryz.isAgg9
 z9:=Tryz.sizeOf9
 v9:=Tryz.zeroValue9}
open Go.RowKit in
theorem Tryz.strings_IndexByte (s:ByteArray) (c:Int) (w:World):
  Calls Tryz.prog 269 #[.string s,.int .u8 c] w fun e w' =>e= .returned (.int .i64 (Lib.indexByte s.data.toList c.toNat.toUInt8))/\w' =w:=Any.strings_IndexByte Tryz.lays137 s c w
end Go.Proofs
namespace Go.Proofs.YtmdokbohofchgaaGreatDoor.E
open Go Go.RowKit
attribute [go_sem] or_true or_false true_or false_or cn exists_eq_left exists_eq_left' true_implies true_and and_true Bool.and_true Bool.true_and Bool.or_false Bool.false_or Bool.not_true Bool.not_false Bool.and_false Bool.false_and fh List.nil_append List.append_nil QR Ep List.getElem?_cons_zero List.getElem?_cons_succ eq_self implies_true false_implies cS decide_eq_false_iff_not bw Bool.or_eq_true Bool.not_eq_true' Bool.and_eq_false_iff Bool.or_eq_false_iff Bool.not_eq_false' SV.v.injEq Value.int.injEq Value.bool.injEq Value.string.injEq List.contains_cons List.contains_nil beq_self_eq_true Nat.max_def Int.toNat_natCast Nat.mul_one Int.toNat_zero List.drop_zero Bx.mk.injEq Vc.mk.injEq List.cons.injEq List.take_length List.getElem?_nil List.getD_cons_zero List.getD_cons_succ not_false_eq_true aA Nat.reduceBEq Nat.reduceAdd Nat.reduceMul Nat.reduceSub Nat.reduceEqDiff Nat.reduceLT Nat.reduceLeDiff Option.map Option.bind List.map List.length reduceCtorEq Option.toList Option.getD List.set List.drop List.take Int.reduceToNat
def cf0:Cfg:=⟨fun _=>false,fun _=>none⟩
theorem wu {P:Program}:cw cf0 P:=fun f F h=>by cases h
def jl (c:Int):Bool:=decide (97<=c)&&decide (c<=122)||decide (65<=c)&&decide (c<=90)||decide (c=95)||decide (c=36)
def pK (c:Int):Bool:=decide (48<=c)&&decide (c<=57)
def zb (F:Int->Bool):List Value->Option (Prop×Value)
 |[.int .u8 c]=>some (True,.bool (F c))
 |_=>none
theorem QF {F:Int->Bool} {l:List Value} {y:Prop×Value} (h:zb F l=some y):∃c,l=[.int .u8 c]/\y=(True,.bool (F c)):=by
 unfold zb at h;split at h
 ·cases h;exact⟨_,rfl,rfl⟩
 ·cases h
theorem aai:cC Tryz.prog 9=some none:=by kernel_rfl
theorem aal:cC Tryz.prog 3=some none:=by kernel_rfl
theorem YY:Tryz.prog.underlying 9=some .string:=by kernel_rfl
attribute [go_sem] aai aal YY zb.eq_1
theorem XT:eb Tryz.prog 28=some 9:=by kernel_rfl
theorem sz9:aK Tryz.prog 9=1:=by kernel_rfl
theorem by9:iH Tryz.prog 9=16:=by kernel_rfl
theorem W3:cU Tryz.prog 9=some [.v (.string (bs []))]:=by kernel_rfl
theorem sz3:aK Tryz.prog 3=1:=by kernel_rfl
attribute [go_sem] XT sz9 by9 W3 sz3
abbrev bj:Cfg:=fF (fun _=>false) []
theorem aq:cw bj Tryz.prog:=pure_nil
def strs (l:List (List UInt8)):List Value:=l.map fun b=> .string (bs b)
theorem Ea {m:Mem} {a:Option Addr} {n:Nat} {xs:List Value} (h:ax m a n 1 xs) {i:Nat} (hi:i<n):∃hx:i<xs.length,Rd m (bc a i) [xs[i]]/\a≠none:=by
 have hl:xs.length=n:=by rw[h.1,Nat.mul_one]
 refine⟨by omega,?_,?_⟩
 ·obtain⟨ad,rfl,hs,hc⟩:=h.2 (by omega);obtain⟨e1,e2,e3⟩:=kD ad i hs;refine⟨ad.add i,rfl,e3,fun j hj=> ?_⟩;obtain rfl:j=0:=by simp at hj;omega
  obtain⟨h1,h2⟩:=hc i (by omega);refine⟨?_,by rw[e1,e2];exact h2⟩;rw[show(ad.add i).add 0=ad.add i from rfl,h1];simp [hl,hi]
 ·obtain⟨ad,rfl,_⟩:=h.2 (by omega);simp
theorem Qe {l:List (List UInt8)} {s:List UInt8} {k:Nat} (h:k<l.length):(l.take (k+1)).contains s=((l.take k).contains s||decide (s=l[k])):=by
 rw[List.take_succ_eq_append_getElem h,Bool.eq_iff_iff];simp only[List.contains_iff_mem,List.mem_append,List.mem_singleton,Bool.or_eq_true,cS]
theorem index_spec (l:List (List UInt8)) (s:List UInt8) (a:Option Addr) (n c:Nat) (m:Mem) (h:ax m a n 1 (strs l)) (hn:n<=4611686018427387904):
  FnH Tryz.prog 185 [.v (.slice a n c),.v (.string (bs s))] ⟨[],[]⟩ m fun r H' _=>(∃i:Int,r= .v (.int .i64 i)/\(decide (0<=i)=l.contains s))/\H' =⟨[],[]⟩:=by
 have hl:l.length=n:=by have:=h.1;simpa [strs] using this
 refine br wu Tryz.func185 ?_
 ·simp only[go_sem];refine gz wu (fun k:Nat=>⟨[⟨0,[],.v (.slice a n c)⟩,⟨1,[],.v (.string (bs s))⟩,⟨7,[],.v (.int .i64 n)⟩,⟨8,[],.v (.int .i64 k)⟩],[],[],[],0,m⟩)
   (fun k=>k<=n/\(l.take k).contains s=false) (fun k=>n - k) 0 (fun _ _=>aA _) (fun _ _=> .inl rfl) ?_ ?_ ?_
  ·simp only[go_sem];rfl
  ·simp
  ·rintro k ⟨hk,hp⟩;simp only[go_sem];refine⟨fun an=> ?_,fun fZ=> ?_⟩
   ·have uz:k<n:=by omega
    obtain⟨hx,hr,cv⟩:=Ea h uz;refine⟨⟨by omega,an,cv⟩,_,by simpa using hr,?_⟩;have eI:k<l.length:=by omega
    have e:(strs l)[k]= .string (bs l[k]):=by simp [strs]
    have ec:=Qe (s:=s) eI;simp only[e];simp only[go_sem];refine⟨fun he=> ?_,fun he=>⟨by unfold aB;omega,k+1,by omega,⟨by omega,?_⟩,by omega⟩⟩
    ·have:s∈l:=by rw[he];exact List.getElem_mem eI
     simp [this]
    ·rw[ec,hp];simp [he]
   ·have:l.take k=l:=jI (by omega);rw[this] at hp;rw[hp];rfl
theorem uR (l:List (List UInt8)) (s:List UInt8) (a:Option Addr) (n c:Nat) (m:Mem) (h:ax m a n 1 (strs l)) (hn:n<=4611686018427387904):
  FnH Tryz.prog 98 [.v (.slice a n c),.v (.string (bs s))] ⟨[],[]⟩ m fun r H' _=>r= .v (.bool (l.contains s))/\H' =⟨[],[]⟩:=by
 refine br aq Tryz.func98 ?_
 ·simp only[go_sem];refine ak ((index_spec l s a n c m h hn).mono ?_);rintro r H' m' hm ⟨⟨i,rfl,hi⟩,rfl⟩;simp only[go_sem];exact hi
def u5:List (List UInt8):=[[97,98,115,116,114,97,99,116],[97,115],[99,97,116,99,104],[99,108,97,115,115],[101,108,115,101],[101,120,116,101,110,100,115],[102,105,110,97,108],[105,102],[105,109,112,108,101,109,101,110,116,115],[105,110,116],[105,110,116,101,114,102,97,99,101],[105,115],[108,101,110],[108,111,110,103],[110,101,119],[110,117,108,108],[112,114,105,118,97,116,101],[112,114,111,116,101,99,116,101,100],[112,117,98,108,105,99],[114,101,116,117,114,110],[115,116,97,116,105,99],[115,117,112,101,114],[115,121,110,99],[116,104,105,115],[116,104,114,111,119],[116,114,121],[118,111,105,100],[119,104,105,108,101]]
def U4:List (List UInt8):=[[62,62,62],[60,60],[62,62],[61,61],[33,61],[60,61],[62,61],[38,38],[124,124],[123],[125],[40],[41],[91],[93],[59],[44],[46],[61],[43],[45],[42],[47],[37],[38],[124],[94],[33],[60],[62]]
theorem MP (m:Mem):FnH Tryz.prog 215 [] ⟨[],[]⟩ m fun r H' m' =>r= .vec 0 0/\H' =⟨[],[⟨0,0,9,1,28,strs u5⟩]⟩/\m' =m:=by
 refine br aq Tryz.func215 ?_
 ·simp only[go_sem];rfl
def jh (B:List UInt8->Prop) (F:List UInt8->Value):List Value->Option (Prop×Value)
 |[.string a]=>some (B (tl a),F (tl a))
 |_=>none
attribute [go_sem] jh.eq_1
def vO (P:Program) (f:FuncId) (G:List Value->Option (Prop×Value)):Prop:=∀aN y,G aN=some y->y.1->∀m,FnH P f (aN.map SV.v) ⟨[],[]⟩ m (fun r H' _=>r= .v y.2/\H' =⟨[],[]⟩)
theorem Xm {P:Program} {f:FuncId} {F:Int->Bool} (h:∀c m,FnH P f [.v (.int .u8 c)] ⟨[],[]⟩ m fun r H' _=>r= .v (.bool (F c))/\H' =⟨[],[]⟩):vO P f (zb F):=fun aN y hy _ m=>by
 obtain⟨c,rfl,rfl⟩:=QF hy;exact h c m
theorem km {P:Program} {f:FuncId} {B:List UInt8->Prop} {F:List UInt8->Value} (h:∀a m,B a->FnH P f [.v (.string (bs a))] ⟨[],[]⟩ m fun r H' _=>r= .v (F a)/\H' =⟨[],[]⟩):vO P f (jh B F):=fun aN y hy hB m=>by
 unfold jh at hy;split at hy
 ·rename_i a;cases hy;have:=h (tl a) m hB;rwa [eW] at this
 ·cases hy
def rB (c:Int):Int:=if jl c then 1 else if pK c then 2 else 0
theorem PE (c:Int):rB c=if 97<=c/\c<=122\/65<=c/\c<=90\/c=95\/c=36 then 1 else if 48<=c/\c<=57 then 2 else 0:=by
 simp [rB,jl,pK,or_assoc]
theorem N5 (c:Int) (m:Mem):FnH Tryz.prog 273 [.v (.int .u8 c)] ⟨[],[]⟩ m fun r H' _=>r= .v (.int .i64 (rB c))/\H' =⟨[],[]⟩:=by
 refine br aq Tryz.func273 ?_
 ·simp only[go_sem];rw[PE];split
  ·omega
  ·split<;>omega
def BR (F:Int->Value):List Value->Option (Prop×Value)
 |[.int .u8 c]=>some (True,F c)
 |_=>none
attribute [go_sem] BR.eq_1
theorem U7 {P:Program} {f:FuncId} {F:Int->Value} (h:∀c m,FnH P f [.v (.int .u8 c)] ⟨[],[]⟩ m fun r H' _=>r= .v (F c)/\H' =⟨[],[]⟩):vO P f (BR F):=fun aN y hy _ m=>by
 unfold BR at hy;split at hy
 ·cases hy;exact h _ m
 ·cases hy
theorem Df (c:Int):rB c=1↔jl c=true:=by
 unfold rB;split
 ·simp_all
 ·split<;>simp_all
theorem HN (c:Int):rB c=2↔¬jl c=true/\pK c=true:=by
 unfold rB;split
 ·simp_all
 ·split<;>simp_all
def eK:Bool->List UInt8->Bool
 |start,[]=> !start
 |start,c::r=>if c.toNat=47/\start=false then eK true r else if jl c.toNat=true\/(pK c.toNat=true/\start=false) then eK false r else false
def iu (s:List UInt8):Bool:=decide (s.length<=64)&&eK true s
abbrev MB:Cfg:=fF (fun _=>false) [(273,BR fun c=> .int .i64 (rB c))]
theorem LN:cw MB Tryz.prog:=pure_cons (by kernel_rfl) (U7 N5) pure_nil
theorem vj {s:List UInt8} {k:Nat} (h:k<s.length):s.drop k=s.getD k 0::s.drop (k+1):=by
 rw[List.drop_eq_getElem_cons h,List.getD_eq_getElem?_getD,List.getElem?_eq_getElem h];rfl
theorem Gn (s:List UInt8) (m:Mem) (hs:s.length<=4611686018427387904):FnH Tryz.prog 227 [.v (.string (bs s))] ⟨[],[]⟩ m fun r H' _=>r= .v (.bool (iu s))/\H' =⟨[],[]⟩:=by
  refine enter MB LN Tryz.func227 rfl rfl (by kernel_rfl) rfl ?_ ?_
  · simp only[go_sem]
  · simp only[go_sem]
    refine⟨fun h=> ?_,fun h=> ?_⟩
    · rcases h with rfl |h
      · rfl
      · have:¬s.length<=64:=by omega
        simp [iu,this]
    · refine ct LN (fun x:Nat×Bool=>⟨[⟨0,[],.v (.string (bs s))⟩,⟨3,[],.v (.bool x.2)⟩,⟨14,[],.v (.int .i64 s.length)⟩,⟨15,[],.v (.int .i64 x.1)⟩],[],[],[],0,m⟩)
        (fun x=>x.1<=s.length/\eK true s=eK x.2 (s.drop x.1)) (fun x=>s.length - x.1) (0,true) (by kernel_rfl) (fun _ _=>aA _) (fun _ _=> .inl rfl) (fun _=> ?_) ?_ ?_ ?_
      · simp only[go_sem]
      · simp only[go_sem]
        rfl
      · simp
      · rintro⟨k,st⟩ ⟨hk,hp⟩
        simp only at hk hp;simp only[go_sem];have hN:iu s=eK true s:=by
          have:s.length<=64:=by omega
          simp [iu,this]
        rw[hN];refine⟨fun an=> ?_,fun fZ=> ?_⟩
        · have eI:k<s.length:=by omega
          rw[vj eI] at hp;simp only[eK] at hp;have hI:aB (k+1):=by unfold aB;omega
          refine⟨⟨by omega,an⟩,⟨by omega,an⟩,fun h1=>⟨hI,(k+1,true),⟨rfl,rfl⟩,⟨eI,?_⟩,by simp only;omega⟩,fun h1=>⟨fun h2=>⟨fun _=>⟨hI,(k+1,false),⟨rfl,rfl⟩,⟨eI,?_⟩,by simp only;omega⟩,fun h3=>absurd h2 h3⟩,
            fun h2=>⟨fun h3=>⟨hI,(k+1,false),⟨rfl,rfl⟩,⟨eI,?_⟩,by simp only;omega⟩,fun h3=> ?_⟩⟩⟩
          · rw[hp,ai ⟨by omega,h1.2⟩]
          · rw[hp,aa (by rintro⟨e,e'⟩;rcases h1 with h1 |h1;· omega
                         · rw[e'] at h1;cases h1),ai (.inl ((Df _).1 h2))]
          · rw[hp,aa (by rintro⟨e,e'⟩;rcases h1 with h1 |h1;· omega
                         · rw[e'] at h1;cases h1),ai (.inr ⟨((HN _).1 h3.1).2,h3.2⟩)]
          · rw[hp,aa (by rintro⟨e,e'⟩;rcases h1 with h1 |h1;· omega
                         · rw[e'] at h1;cases h1),aa]
            rintro(e |⟨e,e'⟩)
            · exact h2 ((Df _).2 e)
            · rcases h3 with h3 |h3
              · exact h3 ((HN _).2 ⟨fun x=>h2 ((Df _).2 x),e⟩)
              · rw[e'] at h3;cases h3
        · rw[hp,List.drop_of_length_le (by omega)]
          rfl
theorem MY (c:Int) (m:Mem):FnH Tryz.prog 260 [.v (.int .u8 c)] ⟨[],[]⟩ m fun r H' _=>r= .v (.bool (jl c))/\H' =⟨[],[]⟩:=by
 refine br aq Tryz.func260 ?_
 ·simp only[go_sem];rfl
def qe (c:UInt8):Bool:=jl c.toNat||pK c.toNat
def oL:List UInt8->Bool
 |[]=>false
 |c::r=>jl c.toNat&&r.all qe
theorem Ei:∀(p r:List UInt8),(∀c∈p,c.toNat≠47)->eK false (p++r)=(p.all qe&&eK false r)
 |[],r,_=>by simp
 |c::p,r,h=>by
  have h1:=h c (bL ..);have ih:=Ei p r fun x hx=>h x (bt _ hx)
  simp only[fh,eK,List.all_cons,qe];rw[aa (fun e=>h1 e.1)];cases e1:jl c.toNat<;>cases e2:pK c.toNat<;>simp [ih]
theorem SP (p r:List UInt8) (h:∀c∈p,c.toNat≠47):eK true (p++47::r)=(oL p&&eK true r):=by
 cases p with
 |nil=>simp [eK,oL,jl,pK]
 |cons c p=>
  have h1:=h c (bL ..);have ih:=Ei p (47::r) fun x hx=>h x (bt _ hx)
  simp only[fh,eK,oL];rw[aa (fun e=>h1 e.1),ih];cases e1:jl c.toNat<;>simp [eK]
theorem SQ (p:List UInt8) (h:∀c∈p,c.toNat≠47):eK true p=oL p:=by
 cases p with
 |nil=>rfl
 |cons c p=>
  have h1:=h c (bL ..);have ih:=Ei p [] fun x hx=>h x (bt _ hx)
  rw[List.append_nil] at ih;simp only[eK,oL];rw[aa (fun e=>h1 e.1),ih];cases e1:jl c.toNat<;>simp [eK]
abbrev cf4:Cfg:=fF (fun _=>false) [(260,zb jl)]
theorem LM:cw cf4 Tryz.prog:=pure_cons (by kernel_rfl) (Xm MY) pure_nil
theorem NS (s:List UInt8) (m:Mem) (hs:s.length<=4611686018427387904):FnH Tryz.prog 183 [.v (.string (bs s))] ⟨[],[]⟩ m fun r H' _=>r= .v (.bool (oL s))/\H' =⟨[],[]⟩:=by
 refine br LM Tryz.func183 ?_
 ·simp only[go_sem];refine gz LM (fun k:Nat=>⟨[⟨0,[],.v (.string (bs s))⟩,⟨3,[],.v (.int .i64 k)⟩],[],[],[],0,m⟩)
    (fun k=>k<=s.length/\(k=0\/oL s=(s.drop k).all qe)) (fun k=>s.length - k) 0 (fun _ _=>aA _) (fun _ _=> .inl rfl) ?_ ?_ ?_
  ·simp only[go_sem];rfl
  ·simp
  ·rintro k ⟨hk,hp⟩;simp only[go_sem];have ao:∀x:UInt8,qe x=true↔jl x.toNat=true\/¬(x.toNat:Int)<48/\¬57<(x.toNat:Int):=fun x=>by
    simp [qe,pK]
   have iE:k=0->k<s.length->oL s=(jl (s.getD k 0).toNat&&(s.drop (k+1)).all qe):=by
    rintro rfl an;have:=vj an;rw[List.drop_zero] at this;rw[this];rfl
   refine⟨fun an=>⟨⟨by omega,an⟩,fun _=>⟨by omega,an⟩,fun _=>⟨by omega,an⟩,fun h=> ?_,fun h=>⟨by unfold aB;omega,k+1,by omega,⟨by omega,.inr ?_⟩,by omega⟩⟩,fun fZ=> ?_⟩
   ·have eI:k<s.length:=by omega
    rcases Nat.eq_zero_or_pos k with h0 |h0
    ·rw[iE h0 eI,h.1];rfl
    ·rcases hp with hp |hp
     ·omega
     ·rw[hp,vj eI,List.all_cons];have:qe (s.getD k 0)=false:=by
       rw[Bool.eq_false_iff];intro e;rcases(ao _).1 e with e |e
       ·rw[e] at h;cases h.1
       ·omega
      rw[this];rfl
   ·have eI:k<s.length:=by omega
    rcases Nat.eq_zero_or_pos k with h0 |h0
    ·rw[iE h0 eI];have:jl (s.getD k 0).toNat=true:=by
      rcases h with h |h
      ·exact h
      ·omega
     rw[this];rfl
    ·rcases hp with hp |hp
     ·omega
     ·rw[hp,vj eI,List.all_cons]
      have:qe (s.getD k 0)=true:=(ao _).2 (by
       rcases h with h |h
       ·exact .inl h
       ·exact .inr ⟨h.1.2,h.2⟩)
      rw[this];rfl
   ·rcases Nat.eq_zero_or_pos s.length with h0 |h0
    ·rw[List.eq_nil_of_length_eq_zero h0];rfl
    ·rcases hp with hp |hp
     ·omega
     ·rw[hp,List.drop_of_length_le (by omega)];simpa using h0
def gl (s:List UInt8) (c:Int):Nat->Int
 |0=> -1
 |k+1=>if((s.getD k 0).toNat:Int)=c then k else gl s c k
theorem lastIdx_spec (s:List UInt8) (c:Int) (m:Mem) (hs:s.length<=4611686018427387904):FnH Tryz.prog 289 [.v (.string (bs s)),.v (.int .u8 c)] ⟨[],[]⟩ m fun r H' _=>r= .v (.int .i64 (gl s c s.length))/\H' =⟨[],[]⟩:=by
 refine br aq Tryz.func289 ?_
 ·simp only[go_sem];refine⟨by unfold aB;omega,?_⟩;refine gz aq (fun k:Nat=>⟨[⟨0,[],.v (.string (bs s))⟩,⟨1,[],.v (.int .u8 c)⟩,⟨5,[],.v (.int .i64 (k - 1))⟩],[],[],[],0,m⟩)
    (fun k=>k<=s.length/\gl s c s.length=gl s c k) (fun k=>k) s.length (fun _ _=>aA _) (fun _ _=> .inl rfl) ?_ ?_ ?_
  ·simp only[go_sem]
  ·simp
  ·rintro k ⟨hk,hp⟩;simp only[go_sem];refine⟨fun h0=>⟨⟨h0,by omega⟩,fun h=> ?_,fun h=>⟨by unfold aB;omega,k - 1,by omega,⟨by omega,?_⟩,by omega⟩⟩,fun h=> ?_⟩
   ·obtain⟨k,rfl⟩:∃j,k=j+1:=⟨k - 1,by omega⟩;have e:((k+1:Nat):Int) - 1=k:=by omega
    rw[e,Int.toNat_natCast] at h;rw[e];rw[hp];simp only[gl];rw[ai h]
   ·obtain⟨k,rfl⟩:∃j,k=j+1:=⟨k - 1,by omega⟩;have e:((k+1:Nat):Int) - 1=k:=by omega
    rw[e,Int.toNat_natCast] at h;rw[hp];simp only[gl];rw[aa h];rfl
   ·obtain rfl:k=0:=by omega
    rw[hp];rfl
theorem M3 (s:List UInt8) (m:Mem) (hs:s.length<=4611686018427387904):FnH Tryz.prog 280 [.v (.string (bs s))] ⟨[],[]⟩ m fun r H' _=>r= .v (.int .i64 (gl s 47 s.length))/\H' =⟨[],[]⟩:=by
 refine br aq Tryz.func280 ?_
 ·simp only[go_sem];refine⟨by unfold aB;omega,?_⟩;refine gz aq (fun k:Nat=>⟨[⟨0,[],.v (.string (bs s))⟩,⟨3,[],.v (.int .i64 (k - 1))⟩],[],[],[],0,m⟩)
    (fun k=>k<=s.length/\gl s 47 s.length=gl s 47 k) (fun k=>k) s.length (fun _ _=>aA _) (fun _ _=> .inl rfl) ?_ ?_ ?_
  ·simp only[go_sem]
  ·simp
  ·rintro k ⟨hk,hp⟩;simp only[go_sem];refine⟨fun h0=>⟨⟨h0,by omega⟩,fun h=> ?_,fun h=>⟨by unfold aB;omega,k - 1,by omega,⟨by omega,?_⟩,by omega⟩⟩,fun h=> ?_⟩
   ·obtain⟨k,rfl⟩:∃j,k=j+1:=⟨k - 1,by omega⟩;have e:((k+1:Nat):Int) - 1=k:=by omega
    rw[e,Int.toNat_natCast] at h;rw[e];rw[hp];simp only[gl];rw[ai h]
   ·obtain⟨k,rfl⟩:∃j,k=j+1:=⟨k - 1,by omega⟩;have e:((k+1:Nat):Int) - 1=k:=by omega
    rw[e,Int.toNat_natCast] at h;rw[hp];simp only[gl];rw[aa h];rfl
   ·obtain rfl:k=0:=by omega
    rw[hp];rfl
theorem MO (s:List UInt8) (c:Int) (m:Mem) (hs:s.length<=4611686018427387904):FnH Tryz.prog 287 [.v (.string (bs s)),.v (.int .u8 c)] ⟨[],[]⟩ m fun r H' _=>r= .v (.int .i64 (gl s c s.length))/\H' =⟨[],[]⟩:=by
 refine br aq Tryz.func287 ?_
 ·simp only[go_sem];refine ak ((lastIdx_spec s c m hs).mono ?_);rintro r H' m' hm ⟨rfl,rfl⟩;simp only[go_sem]
theorem Ny (s:List UInt8) (m:Mem) (hs:s.length<=4611686018427387904):FnH Tryz.prog 274 [.v (.string (bs s))] ⟨[],[]⟩ m fun r H' _=>r= .v (.int .i64 (gl s 47 s.length))/\H' =⟨[],[]⟩:=by
 refine br aq Tryz.func274 ?_
 ·simp only[go_sem];refine ak ((MO s 47 m hs).mono ?_);rintro r H' m' hm ⟨rfl,rfl⟩;simp only[go_sem]
theorem An (s:List UInt8) (c:Int):∀k,-1<=gl s c k/\gl s c k<k
 |0=>⟨by simp [gl],by simp [gl]⟩
 |k+1=>by
  obtain⟨h1,h2⟩:=An s c k;simp only[gl];split<;>omega
def rj (s:List UInt8):List UInt8:=s.drop (gl s 47 s.length+1).toNat
theorem M4 (s:List UInt8) (m:Mem) (hs:s.length<=4611686018427387904):FnH Tryz.prog 228 [.v (.string (bs s))] ⟨[],[]⟩ m fun r H' _=>r= .v (.string (bs (rj s)))/\H' =⟨[],[]⟩:=by
 refine br aq Tryz.func228 ?_
 ·simp only[go_sem];refine ak ((Ny s m hs).mono ?_);rintro r H' m' hm ⟨rfl,rfl⟩;simp only[go_sem];obtain⟨h1,h2⟩:=An s 47 s.length;refine⟨by unfold aB;omega,⟨by omega,by omega,by omega⟩,?_⟩;rfl
theorem MS (s:List UInt8) (m:Mem) (hs:s.length<=4611686018427387904):FnH Tryz.prog 247 [.v (.string (bs s))] ⟨[],[]⟩ m fun r H' _=>r= .v (.string (bs (rj s)))/\H' =⟨[],[]⟩:=by
 refine br aq Tryz.func247 ?_
 ·simp only[go_sem];refine ak ((M3 s m hs).mono ?_);rintro r H' m' hm ⟨rfl,rfl⟩;simp only[go_sem];obtain⟨h1,h2⟩:=An s 47 s.length;refine⟨by unfold aB;omega,⟨by omega,by omega,by omega⟩,?_⟩;rfl
theorem RB {s:List UInt8} {f k:Nat} (hf:f<=k) (hk:k<=s.length):s.drop f=(s.take k).drop f++s.drop k:=by
 conv=>lhs;rw[<- List.take_append_drop k s]
 rw[List.drop_append_of_le_length (by rw[List.length_take];omega)]
theorem Qk {s:List UInt8} {f k:Nat} (hf:f<=k) (hk:k<s.length):(s.take (k+1)).drop f=(s.take k).drop f++[s.getD k 0]:=by
 rw[List.take_succ_eq_append_getElem hk,List.drop_append_of_le_length (by rw[List.length_take];omega),List.getD_eq_getElem?_getD,List.getElem?_eq_getElem hk];rfl
abbrev cf5:Cfg:=fF (fun _=>false) [(183,jh (fun s=>s.length<=4611686018427387904) fun s=> .bool (oL s))]
theorem LL:cw cf5 Tryz.prog:=pure_cons (by kernel_rfl) (km fun s m h=>NS s m h) pure_nil
theorem MU (s:List UInt8) (m:Mem) (hs:s.length<=4611686018427387904):FnH Tryz.prog 83 [.v (.string (bs s))] ⟨[],[]⟩ m fun r H' _=>r= .v (.bool (iu s))/\H' =⟨[],[]⟩:=by
 refine br LL Tryz.func83 ?_
 ·simp only[go_sem];refine⟨fun h=> ?_,fun h=> ?_⟩
  ·have:¬s.length<=64:=by omega
   simp [iu,this]
  ·refine gz LL (fun x:Nat×Nat=>⟨[⟨0,[],.v (.string (bs s))⟩,⟨3,[],.v (.int .i64 x.1)⟩,⟨4,[],.v (.int .i64 x.2)⟩],[],[],[],0,m⟩)
    (fun x=>x.1<=x.2/\x.2<=s.length/\(∀c∈(s.take x.2).drop x.1,c.toNat≠47)/\iu s=eK true (s.drop x.1)) (fun x=>s.length - x.2) (0,0) (fun _ _=>aA _) (fun _ _=> .inl rfl) ?_ ?_ ?_
   ·simp only[go_sem];exact⟨rfl,rfl⟩
   ·have:s.length<=64:=by omega
    simp [iu,this]
   ·rintro⟨f,k⟩ ⟨hf,hk,ou,hp⟩;simp only at hf hk ou hp;simp only[go_sem];have hlen:∀l:List UInt8,(l.take k).length<=k:=fun l=>by rw[List.length_take];omega
    refine⟨fun an=> ?_,fun fZ=> ?_⟩
    ·have eI:k<s.length:=by omega
     have hI:aB (k+1):=by unfold aB;omega
     refine⟨⟨by omega,an⟩,fun h47=> ?_,fun h47=>⟨hI,(f,k+1),⟨rfl,rfl⟩,⟨by simp only;omega,eI,?_,hp⟩,by simp only;omega⟩⟩
     ·have e47:s.getD k 0=47:=by
       have:(s.getD k 0).toNat=47:=by omega
       exact UInt8.toNat_inj.1 this
      have uj:iu s=(oL ((s.take k).drop f)&&eK true (s.drop (k+1))):=by
       rw[hp,RB hf hk,vj eI,e47];exact SP _ _ ou
      refine⟨⟨by omega,by omega,by omega⟩,by simp only[gh,List.length_take];omega,fun h=> ?_,fun h=>⟨hI,hI,(k+1,k+1),⟨rfl,rfl⟩,⟨aA _,eI,?_,?_⟩,by simp only;omega⟩⟩
      ·rw[uj,h];rfl
      ·rw[List.drop_of_length_le (by simp;omega)];intro c hc;cases hc
      ·rw[uj,h];rfl
     ·simp only;rw[Qk hf eI];intro c hc;rcases List.mem_append.1 hc with hc |hc
      ·exact ou c hc
      ·rw[List.mem_singleton.1 hc];omega
    ·obtain rfl:k=s.length:=by omega
     refine⟨⟨by omega,by omega,by omega⟩,by simp only[gh,List.length_take];omega,?_⟩;rw[hp];have:=SQ _ ou;rw[List.take_length] at this;exact this.symm
theorem Kr:∀(s:List UInt8) (b:Bool),eK b s=true->s=[]\/((s.getD (s.length - 1) 0).toNat≠47/\eK b s=true)
 |[],_,_=> .inl rfl
 |c::r,b,h=>by
  refine .inr ⟨?_,h⟩;simp only[eK] at h;cases r with
  |nil=>
   intro e;have e:c.toNat=47:=e;rw[e] at h;cases b<;>simp [eK,jl,pK] at h
  |cons d r=>
   have go:∀b',eK b' (d::r)=true->((c::d::r).getD ((c::d::r).length - 1) 0).toNat≠47:=fun b' hb=>by
    rcases Kr (d::r) b' hb with e |e
    ·cases e
    ·simpa using e.1
   split at h
   ·exact go _ h
   ·split at h
    ·exact go _ h
    ·cases h
theorem OB {s:List UInt8} (h:iu s=true):0<(rj s).length:=by
 simp only[iu,bw] at h;rcases Kr s true h.2 with rfl |⟨e,_⟩
 ·simp [eK] at h
 ·have hl:0<s.length:=by
   cases s with
   |nil=>simp [eK] at h
   |cons c r=>simp
  unfold rj;rw[gh];obtain⟨n,hn⟩:∃n,s.length=n+1:=⟨s.length - 1,by omega⟩;rw[hn] at e ⊢;simp only[Nat.add_sub_cancel] at e;have h2:=An s 47 n;have:gl s 47 (n+1)=gl s 47 n:=by
   simp only[gl];rw[aa (by omega)]
  rw[this];omega
def iy (s:List UInt8):Bool:=iu s&&decide (65<=((rj s).getD 0 0).toNat)&&decide (((rj s).getD 0 0).toNat<=90)
abbrev BL (s:List UInt8):Prop:=s.length<=4611686018427387904
abbrev cf6:Cfg:=fF (fun _=>false) [(227,jh BL fun s=> .bool (iu s)),(83,jh BL fun s=> .bool (iu s)),(228,jh BL fun s=> .string (bs (rj s))),(247,jh BL fun s=> .string (bs (rj s)))]
theorem LK:cw cf6 Tryz.prog:=pure_cons (by kernel_rfl) (km Gn) (pure_cons (by kernel_rfl) (km MU) (pure_cons (by kernel_rfl) (km M4) (pure_cons (by kernel_rfl) (km MS) pure_nil)))
theorem Af (s:List UInt8) (m:Mem) (hs:BL s):FnH Tryz.prog 141 [.v (.string (bs s))] ⟨[],[]⟩ m fun r H' _=>r= .v (.bool (iy s))/\H' =⟨[],[]⟩:=by
 refine br LK Tryz.func141 ?_
 ·simp only[go_sem];refine⟨hs,fun h=>by simp [iy,h],fun h=>⟨hs,⟨by omega,by have:=OB h;omega⟩,?_⟩⟩;rw[iy,h,Bool.true_and];have e1:∀n:Nat,decide ((65:Int)<=n)=decide (65<=n):=fun n=>by rw[decide_eq_decide];omega
  have e2:∀n:Nat,decide ((n:Int)<=90)=decide (n<=90):=fun n=>by rw[decide_eq_decide];omega
  rw[e1,e2]
theorem KK {P:Program} {f:FuncId} {args:List Value} {m:Mem} {R:Value->Prop} (h:∀w D,Wf w D->m.le ⟨w,D⟩->Calls P f ⟨args⟩ w fun e w' =>∃y,e= .returned y/\R y/\Below w.heap.size w w'):
  FnH P f (args.map SV.v) ⟨[],[]⟩ m fun r H' m' =>(∃y,r= .v y/\R y)/\H' =⟨[],[]⟩/\m' =m:=by
 intro V w D dX hle hH;have ha:(args.map SV.v).map (den V)=args:=by rw[List.map_map];exact List.map_id'' (fun _=>rfl) args
 rw[ha];refine(h w D dX hle).mono ?_;rintro e w' ⟨y,rfl,hy,hb⟩;have an:∀b,0<D b->b<w.heap.size:=fun b hb=>by
  rcases Nat.lt_or_ge b w.heap.size with h |h
  ·exact h
  ·have:=dX b h;omega
 have Ll:Mem.le ⟨w,D⟩ ⟨w',D⟩:=fun b=>⟨aA _,fun h0=>⟨an b h0,oE (hb.block b (an b h0))⟩⟩
 exact⟨.v y,V,D,⟨[],[]⟩,m,rfl,fun b kW=>dX b (dk hb.size kW),⟨fun b hb=>(by cases hb),fun b hb=>(by cases hb),by simp [aE],by simp⟩,fun b hb=>(by cases hb),fun b hb=>(by cases hb),
  ⟨hb.os,hb.tape,hb.output,hb.size,fun b kW _=>⟨hb.block b kW,rfl⟩⟩,fun b hb=>(by simp [aE] at hb),Ll,fun b=>⟨aA _,fun h=>⟨((hle b).2 h).1,oE rfl⟩⟩,Mem.le_trans hle Ll,⟨y,rfl,hy⟩,rfl,rfl⟩
theorem yc {m m' :Mem} {a:Option Addr} {n sz:Nat} {xs:List Value} (hle:m.le m') (h:ax m a n sz xs):ax m' a n sz xs:=by
 refine⟨h.1,fun h0=> ?_⟩;obtain⟨ad,rfl,hs,hc⟩:=h.2 h0;refine⟨ad,rfl,hs,fun j hj=> ?_⟩;obtain⟨h1,h2⟩:=hc j hj;obtain⟨e1,e2,e3⟩:=kD ad j hs;have hx:xs[j]? =some (xs[j]'(by rw[h.1];exact hj)):=List.getElem?_eq_getElem _;exact⟨(Ah hle e3 (by rw[e1,e2];exact h2) (h1.trans hx)).trans hx.symm,dm h2 (hle _).1⟩
theorem K7 {m m' :Mem} {x:Value} {cs:List Value} (hle:m.le m') (h:Rd m x cs):Rd m' x cs:=by
 obtain⟨ad,rfl,hs,hc⟩:=h;refine⟨ad,rfl,hs,fun j hj=> ?_⟩;obtain⟨h1,h2⟩:=hc j hj;obtain⟨e1,e2,e3⟩:=kD ad j hs;have hx:cs[j]? =some (cs[j]'hj):=List.getElem?_eq_getElem _;exact⟨(Ah hle e3 (by rw[e1,e2];exact h2) (h1.trans hx)).trans hx.symm,dm h2 (hle _).1⟩
def opsL:List (List UInt8):=[[124,124],[38,38],[124],[94],[38],[61,61],[33,61],[60],[60,61],[62],[62,61],[60,60],[62,62],[62,62,62],[43],[45],[42],[47],[37]]
def Glob (m:Mem):Prop:=(∀w D,m.le ⟨w,D⟩->(∃k,w.cell? ⟨1,0,none⟩=some (.int .i64 k))/\True)/\
 ∃ad c,Rd m (.pointer (some ⟨0,0,none⟩)) [.slice (some ad) 19 c]/\19<=c/\ax m (some ad) 19 1 (strs opsL)
theorem Glob.up {m m' :Mem} (h:Glob m) (hm:m.le m'):Glob m' :=
 ⟨fun w D hw=>h.1 w D (Mem.le_trans hm hw),h.2.elim fun ad h=>h.elim fun c h=>⟨ad,c,K7 hm h.1,h.2.1,yc hm h.2.2⟩⟩
theorem MK (s:List UInt8) (c:Int) (m:Mem):FnH Tryz.prog 269 [.v (.string (bs s)),.v (.int .u8 c)] ⟨[],[]⟩ m fun r H' _=>r= .v (.int .i64 (Lib.indexByte s c.toNat.toUInt8))/\H' =⟨[],[]⟩:=by
 refine(KK (args:=[.string (bs s),.int .u8 c]) (R:=fun y=>y= .int .i64 (Lib.indexByte s c.toNat.toUInt8)) fun w D dX hle=> ?_).mono ?_
 ·refine(Tryz.strings_IndexByte (bs s) c w).mono ?_;rintro e w' ⟨rfl,rfl⟩;exact⟨_,rfl,rfl,Below.refl _ _⟩
 ·rintro r H' m' hm ⟨⟨y,rfl,rfl⟩,h1,h2⟩;exact⟨rfl,h1⟩
theorem ZU:oD Tryz.prog 3 5= .int .u8:=by kernel_rfl
attribute [go_sem] ZU
structure Tk where
 k:Int
 s:List UInt8
 n:Int
 at_:Int
abbrev Tk.cells (t:Tk):List SV:=[.v (.int .i64 t.k),.v (.string (bs t.s)),.v (.int .i64 t.n),.v (.int .i64 t.at_)]
def Lr:List UInt8:=[48,49,50,51,52,53,54,55,56,57,97,98,99,100,101,102]
theorem sz5:aK Tryz.prog 5=1:=by kernel_rfl
theorem by5:iH Tryz.prog 5=1:=by kernel_rfl
theorem W4:cU Tryz.prog 5=some [.v (.int .u8 0)]:=by kernel_rfl
theorem aaj:cC Tryz.prog 5=some none:=by kernel_rfl
attribute [go_sem] sz5 by5 W4 aaj
theorem ZT:oD Tryz.prog 5 3= .int .i64:=by kernel_rfl
attribute [go_sem] ZT
def ZM (c:UInt8):List UInt8:=
 if c.toNat=34\/c.toNat=92 then[92,c] else if c.toNat=10 then[92,110] else if c.toNat<32\/126<c.toNat then[92,120,Lr.getD (c.toNat / 16) 0,Lr.getD (c.toNat % 16) 0] else[c]
def Rv (s:List UInt8):List UInt8:=34::(s.map ZM).flatten++[34]
def ZL (t:Tk):Option (List UInt8):=
 if t.k=1 then(if t.n=0/\iu t.s=true/\u5.contains t.s=false then some (Lib.replaceAll t.s [47] [58,58]) else none)
 else if t.k=2 then(if t.n=0/\u5.contains t.s=true then some t.s else none)
 else if t.k=3 then(if(t.s=[]/\0<=t.n)/\t.n<2147483648 then some (Lib.itoa t.n) else none)
 else if t.k=4 then(if t.s=[]/\0<=t.n then some (Lib.itoa t.n++[76]) else none)
 else if t.k=5 then(if t.n=0/\t.s.length<=1024 then some (Rv t.s) else none)
 else if t.k=6 then(if t.n=0/\U4.contains t.s=true then some t.s else none)
 else none
def KX:List Tk->Option (List (List UInt8))
 |[]=>some []
 |t::r=>match ZL t with |none=>none |some x=>match KX r with |none=>none |some y=>some (x::y)
def Xz (ts:List Tk):List UInt8×Int:=
 if 5000<ts.length then([],5) else
  match KX ts with
  |none=>([],1)
  |some l=>if 20000<(Lib.join l [32]).length then([],8) else(Lib.join l [32],0)
theorem dK {m:Mem} {a:Option Addr} {n sz:Nat} {xs:List Value} (h:ax m a n sz xs) {i:Nat} (hi:i<n):Rd m (bc a (i * sz)) ((xs.drop (i * sz)).take sz)/\a≠none:=by
 have hl:=h.1;have hm:(i+1) * sz<=n * sz:=Nat.mul_le_mul_right _ hi;rw[Nat.succ_mul] at hm;obtain⟨ad,rfl,hs,hc⟩:=h.2 (by omega);refine⟨?_,by simp⟩;obtain⟨e1,e2,e3⟩:=kD ad (i * sz) hs;refine⟨ad.add (i * sz),rfl,e3,fun j hj=> ?_⟩;rw[List.length_take,gh] at hj;obtain⟨h1,h2⟩:=hc (i * sz+j) (by omega);obtain⟨f1,f2,f3⟩:=kD (ad.add (i * sz)) j e3;obtain⟨g1,g2,g3⟩:=kD ad (i * sz+j) hs;have zC:(ad.add (i * sz)).add j=ad.add (i * sz+j):=by
  cases hA:(ad.add (i * sz)).add j;cases hB:ad.add (i * sz+j);rw[hA] at f1 f2 f3;rw[hB] at g1 g2 g3;simp only at f1 f2 f3 g1 g2 g3;rw[f1,f2,f3,g1,g2,g3,e1,e2,Nat.add_assoc]
 refine⟨?_,by rw[e1,e2,Nat.add_assoc];exact h2⟩;rw[zC,h1,List.getElem?_take_of_lt (by omega),List.getElem?_drop]
theorem TQ {k:IntKind} {n:Int} {x:Value} (h:kr (.v (.int k n)) (.v x)=true):∃a,x= .int k a:=by
 cases x<;>simp only[kr] at h;case int k' a=>exact⟨a,by have:=of_decide_eq_true h;subst this;rfl⟩
 all_goals cases h
theorem TP {s:ByteArray} {x:Value} (h:kr (.v (.string s)) (.v x)=true):∃a,x= .string a:=by
 cases x<;>simp only[kr] at h;case string a=>exact⟨a,rfl⟩
 all_goals cases h
theorem eq_int {k:IntKind} {a:Int} {y:Value} {e:Bool} (h:kj (.v (.int k a)) (.v y)=some e):∃b,y= .int k b/\e=decide (a=b):=by
 cases y<;>simp only[kj] at h;case int k' b=>
  split at h
  ·rename_i hk;subst hk;exact⟨b,rfl,(Option.some.inj h).symm⟩
  ·cases h
 all_goals cases h
theorem Wr {a:ByteArray} {y:Value} {e:Bool} (h:kj (.v (.string a)) (.v y)=some e):∃b,y= .string b/\e=decide (tl a=tl b):=by
 cases y<;>simp only[kj] at h;case string b=>exact⟨b,rfl,(Option.some.inj h).symm⟩
 all_goals cases h
theorem Pp {z:SV} {zs:List SV} {xs:List Value} (h:jd (z::zs) (xs.map .v)=true):∃x r,xs=x::r/\kr z (.v x)=true/\jd zs (r.map .v)=true:=by
 cases xs with
 |nil=>simp [jd] at h
 |cons x r=>simp only[aG,jd,bw] at h;exact⟨x,r,rfl,h.1,h.2⟩
theorem Rq {xs:List Value} (h:jd [] (xs.map .v)=true):xs=[]:=by
 cases xs with
 |nil=>rfl
 |cons x r=>simp [jd] at h
theorem N7 {x:Value} {xs ys:List Value} {b:Bool} (h:gj ((x::xs).map .v) (ys.map .v)=some b):∃y r e e',ys=y::r/\kj (.v x) (.v y)=some e/\gj (xs.map .v) (r.map .v)=some e' /\b=(e&&e'):=by
 cases ys with
 |nil=>simp [gj] at h
 |cons y r=>
  simp only[aG,gj,Option.bind_eq_some_iff,Option.map_eq_some_iff] at h;obtain⟨e,he,e',oz,rfl⟩:=h;exact⟨y,r,e,e',rfl,he,oz,rfl⟩
theorem PF {ys:List Value} {b:Bool} (h:gj [] (ys.map .v)=some b):ys=[]/\b=true:=by
 cases ys with
 |nil=>simp only[List.map_nil,gj,cn] at h;exact⟨rfl,h.symm⟩
 |cons y r=>simp [gj] at h
def kindOk (P:Program) (t:TypeId):SV->Bool
 | .v (.int _ _)=>match P.underlying t with |some (.int _)=>true |_=>false
 | .v (.string _)=>match P.underlying t with |some .string=>true |_=>false
 | .v (.bool _)=>match P.underlying t with |some .bool=>true |_=>false
 |_=>false
def BJ (P:Program):Nat->List SV->List Field->Bool
 |_,[],[]=>true
 |off,z::zs,f::fs=>f.name != "_" &&decide (f.offset=off)&&decide (cC P f.type=some none)&&kindOk P f.type z&&BJ P (off+1) zs fs
 |_,_,_=>false
theorem NB {P:Program} {t:TypeId} {z:SV} {x y:Value} {e:Bool} {w:World} (d:Nat) (hk:kindOk P t z=true) (hf:kr z (.v x)=true) (he:kj (.v x) (.v y)=some e):
  (Op.equalIn (d+1) t x y).run P w= .ok e w:=by
 cases z with
 |v z=>
  cases z with
  |int k n=>
   obtain⟨a,rfl⟩:=TQ hf;obtain⟨b,rfl,rfl⟩:=eq_int he;simp only[kindOk] at hk;split at hk
   ·rename_i k' hu;rw[run_equalIn_int w d t k k' a b hu,Bool.beq_eq_decide_eq]
   ·cases hk
  |string n=>
   obtain⟨a,rfl⟩:=TP hf;obtain⟨b,rfl,rfl⟩:=Wr he;simp only[kindOk] at hk;split at hk
   ·rename_i hu;rw[run_equalIn_string w d t a b hu,uZ,uZ,Bool.beq_eq_decide_eq]
   ·cases hk
  |bool n=>
   cases x<;>simp only[kr] at hf;case bool a=>
    cases y<;>simp only[kj] at he;case bool b=>
     cases he;simp only[kindOk] at hk;split at hk
     ·rename_i hu;rw[run_equalIn_bool' w d t a b hu]
     ·cases hk
    all_goals cases he
   all_goals cases hf
  |_=>cases hk
 |_=>cases hk
theorem If {P:Program} {d:Nat} {w:World} {cs ds:List Value}:∀{fs:List Field} {zs:List SV} {off:Nat} {us vs:List Value} {b:Bool},
  BJ P off zs fs=true->jd zs (us.map .v)=true->gj (us.map .v) (vs.map .v)=some b->cs.drop off=us->ds.drop off=vs->(Op.eqFields (d+1) ⟨cs⟩ ⟨ds⟩ fs).run P w= .ok b w
 |[],zs,off,us,vs,b,h,hf,he,hu,hv=>by
  cases zs with
  |nil=>
   cases Rq hf;rw[List.map_nil] at he;obtain⟨_,rfl⟩:=PF he;rfl
  |cons z zs=>cases h
 |f::fs,zs,off,us,vs,b,h,hf,he,hu,hv=>by
  cases zs with
  |nil=>cases h
  |cons z zs=>
   simp only[BJ,bw,cS,bne_iff_ne] at h;obtain⟨⟨⟨⟨h1,h2⟩,h3⟩,h4⟩,h5⟩:=h;obtain⟨x,us',rfl,g1,g2⟩:=Pp hf;obtain⟨y,iC,e,e',rfl,g3,g4,rfl⟩:=N7 he;have hx:cs[off]? =some x:=by
    have:=congrArg (fun l:List Value=>l[0]?) hu;simpa using this
   have hy:ds[off]? =some y:=by
    have:=congrArg (fun l:List Value=>l[0]?) hv;simpa using this
   have zu:cs.drop (off+1)=us' :=by
    have:=congrArg (List.drop 1) hu;rw[List.drop_drop] at this;simpa [Nat.add_comm] using this
   have zt:ds.drop (off+1)=iC:=by
    have:=congrArg (List.drop 1) hv;rw[List.drop_drop] at this;simpa [Nat.add_comm] using this
   subst h2;simp only[Op.eqFields,ai h1,Sem.run_bind,Dq h3 (show _ from hx),Dq h3 (show _ from hy),Result.andThen_ok,NB d h4 g1 g3];cases e with
   |false=>simp
   |true=>
    simp only[Bool.not_true,Bool.false_eq_true,if_false,Bool.true_and];exact If h5 g2 g4 zu zt
theorem J6 {P:Program} {t:TypeId} {zs:List SV} {fs:List Field} (hz:cU P t=some zs) (hg:P.eqGuardType P.depth t=false) (hu:P.underlying t=some (.struct (P.fieldsOf t))) (hp:P.stoodInHeld t=false)
  (FE:(P.fieldsOf t).toList=fs) (h:BJ P 0 zs fs=true):wj P t:=by
 intro xs ys b w o o' op he hf;rw[hz] at hf;refine⟨run_eqGuard_agg w op t o o' _ _ hg,?_⟩;show(Op.equalIn (9999+1) t _ _).run _ w=_;rw[run_equalIn_struct w 9999 t _ _ hu hp,FE];exact If (d:=9998) h hf he rfl rfl
end Go.Proofs.YtmdokbohofchgaaGreatDoor.E

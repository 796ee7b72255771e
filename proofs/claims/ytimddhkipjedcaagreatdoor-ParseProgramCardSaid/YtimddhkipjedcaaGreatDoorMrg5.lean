/- Several texts in one. -/
import Derived.Lib.IndexAny
import Derived.Test.YtimddhkipjedcaaGreatDoorMrg4
set_option linter.unusedSimpArgs false
set_option linter.unusedVariables false
set_option maxHeartbeats 4000000
set_option maxRecDepth 20000
namespace Go.Proofs.YtimddhkipjedcaaGreatDoor.E
open Go
theorem Gx:∀(f g:Nat) (t:Ty) (l:List Tk),l.length<=f->l.length<=g->mr f t l=mr g t l
 |0,0,_,_,_,_=>rfl
 |0,g+1,t,l,h,_=>by
  have hl:l=[]:=List.length_eq_zero_iff.1 (by omega);subst hl;rw[mr,mr];rfl
 |f+1,0,t,l,_,h=>by
  have hl:l=[]:=List.length_eq_zero_iff.1 (by omega);subst hl;rw[mr,mr];rfl
 |f+1,g+1,t,l,h1,h2=>by
  rw[mr,mr];by_cases h:aC [91] l=true
  ·rw[aj h,aj h];unfold aW;have q1:=dZ (bI h);have q2:=gn (cF l.tail);dsimp only;rw[Gx f g t.up l.tail.tail (by omega) (by omega)]
  ·rw[ae h,ae h]
theorem GS:∀(f g:Nat) (t:Ty) (l:List Tk),l.length<=f->l.length<=g->lf f t l=lf g t l
 |0,0,_,_,_,_=>rfl
 |0,g+1,t,l,h,_=>by
  have hl:l=[]:=List.length_eq_zero_iff.1 (by omega);subst hl;rw[lf,lf];rfl
 |f+1,0,t,l,_,h=>by
  have hl:l=[]:=List.length_eq_zero_iff.1 (by omega);subst hl;rw[lf,lf];rfl
 |f+1,g+1,t,l,h1,h2=>by
  rw[lf,lf];by_cases h:aC [93] l=true
  ·rw[aj h,aj h];unfold aW;have q1:=dZ (bI h);have q2:=gn (cF l.tail);dsimp only;rw[GS f g t.up l.tail.tail (by omega) (by omega)]
  ·rw[ae h,ae h]
def vq (t:Ty) (l:List Tk):PR Ty:=mr l.length t l
def ub (t:Ty) (l:List Tk):PR Ty:=lf l.length t l
theorem G5 (t:Ty) (l:List Tk):vq t l=(if aC [91] l=true then aW [93] l.tail fun r=>vq t.up r else .ok (t,l)):=by
 rw[vq,Gx l.length (l.length+1) t l (aq _) (by omega),mr];by_cases h:aC [91] l=true
 ·rw[aj h,aj h];unfold aW;have q1:=gn (cF l);have q2:=gn (cF l.tail);dsimp only;rw[vq,Gx l.length l.tail.tail.length t.up l.tail.tail (by omega) (aq _)]
 ·rw[ae h,ae h]
theorem AF (t:Ty) (l:List Tk):ub t l=(if aC [93] l=true then aW [91] l.tail fun r=>ub t.up r else .ok (t,l)):=by
 rw[ub,GS l.length (l.length+1) t l (aq _) (by omega),lf];by_cases h:aC [93] l=true
 ·rw[aj h,aj h];unfold aW;have q1:=gn (cF l);have q2:=gn (cF l.tail);dsimp only;rw[ub,GS l.length l.tail.tail.length t.up l.tail.tail (by omega) (aq _)]
 ·rw[ae h,ae h]
section
variable {t:Tk} {a b:List Tk}
end
theorem NX (l:List Tk):fN l=av (jX l) fun t r=>vq t r:=rfl
end Go.Proofs.YtimddhkipjedcaaGreatDoor.E
namespace Go.Proofs.YtimddhkipjedcaaGreatDoor.E
open Go Go.RowKit
theorem TM (s:List UInt8) (c:UInt8) (m:Mem):FnH Tryz.prog 228 [.v (.string (bs s)),.v (.string (bs [c]))] ⟨[],[]⟩ m fun r H' _=>r= .v (.bool (s.contains c))/\H' =⟨[],[]⟩:=by
 refine(Eb (args:=[.string (bs s),.string (bs [c])]) (R:=fun y=>y= .bool (s.contains c)) fun w D j8 hle=> ?_).mono ?_
 ·refine(Tryz.strings_Contains_one (bs s) c w).mono ?_;rintro e w' ⟨rfl,rfl⟩;refine⟨_,rfl,?_,Below.refl _ _⟩;rw[Lib.contains_iff_indexByte];rfl
 ·rintro r H' m' hm ⟨⟨y,rfl,rfl⟩,h1,h2⟩;exact⟨rfl,h1⟩
section
variable {P:Program} {cfg:Cfg}
def tI (V:Vl) (b:Bx):Bx:=⟨b.id,b.ty,b.cs.map fun s=> .v (bj V s)⟩
theorem MF (V:Vl) (l:List SV):(l.map fun s=>SV.v (bj V s)).map (bj V)=l.map (bj V):=by
 induction l with
 |nil=>rfl
 |cons s r ih=>simp only[br,ih];rfl
theorem Mj {nid:Nat} {vc:List Vc} {V:Vl}:∀l:List SV,fy nid vc (l.map fun s=>SV.v (bj V s))
 |[]=>trivial
 |s::r=>⟨trivial,Mj r⟩
theorem ME (V:Vl):∀l:List Bx,(l.map (tI V)).map (fun b=>V.β b.id)=l.map (fun b=>V.β b.id)
 |[]=>rfl
 |b::r=>by simp only[br,ME V r];rfl
theorem GC (V:Vl) (H:Hp):a7 V ⟨H.bx.map (tI V),H.vc⟩=a7 V H:=by
 unfold a7;rw[ME]
theorem Un {V:Vl} {D:Nat->Nat} {w:World} {H:Hp} (h:HSat V D w H):HSat V D w ⟨H.bx.map (tI V),H.vc⟩:=by
 refine⟨fun b hb=> ?_,h.vc,?_,h.uniq⟩
 ·obtain⟨b0,h0,rfl⟩:=List.mem_map.1 hb;obtain⟨⟨o,h1,h2⟩,h3⟩:=h.bx b0 h0;refine⟨⟨o,h1,?_⟩,h3⟩;show mu b0.ty ((b0.cs.map fun s=>SV.v (bj V s)).map (bj V)) o;rw[MF];exact h2
 ·rw[GC];exact h.apart
theorem R1 {V:Vl} {D:Nat->Nat} {w:World} {H:Hp} (h:HSat V D w ⟨H.bx.map (tI V),H.vc⟩):HSat V D w H:=by
 refine⟨fun b hb=> ?_,h.vc,?_,h.uniq⟩
 ·obtain⟨⟨o,h1,h2⟩,h3⟩:=h.bx (tI V b) (List.mem_map.2 ⟨b,hb,rfl⟩);refine⟨⟨o,h1,?_⟩,h3⟩;have zS:mu b.ty ((b.cs.map fun s=>SV.v (bj V s)).map (bj V)) o:=h2;rw[MF] at zS;exact zS
 ·have:=h.apart;rw[GC] at this;exact this
theorem LC {V:Vl} {H H2:Hp} (hb:H2.bx.Sublist H.bx) (hv:H2.vc.Sublist H.vc):(a7 V H2).Sublist (a7 V H):=by
 unfold a7;exact(hb.map _).append (hv.filterMap _)
theorem Um {V:Vl} {D:Nat->Nat} {w:World} {H H2:Hp} (h:HSat V D w H) (hb:H2.bx.Sublist H.bx) (hv:H2.vc.Sublist H.vc):HSat V D w H2:=
 ⟨fun b h0=>h.bx b (hb.subset h0),fun b h0=>h.vc b (hv.subset h0),h.apart.sublist (LC hb hv),h.uniq.sublist (hv.map _)⟩
theorem NS {f:FuncId} {args:List SV} {H:Hp} {m:Mem} {R R' :SV->Hp->Mem->Prop} (h:FnH P f args H m R)
  (hR:∀r H' m',m.le m' ->R r H' m' ->R' r H' m' \/∃(g:SV->SV) (k u:Nat) (b:Vc) (H2:Hp),cN H'.vc k u=some b/\r=g (.vec k u)/\
   (∀(V:Vl) (v:Value),(V.γ k u).val=v->den V (g (.vec k u))=den V (g (.v v)))/\H2.bx.Sublist H'.bx/\H2.vc.Sublist H'.vc/\
   ∀(a:Option Addr) (c:Nat) (m1:Mem),m'.le m1->b.n<=c->aK m1 a b.n b.sz b.xs->R' (g (.v (.slice a b.n c))) H2 m1):FnH P f args H m R' :=by
 intro V w D j8 hle hH;refine(h V w D j8 hle hH).mono ?_;rintro e w' ⟨r,V',D',H',m',e1,e2,e3,e4,e5,e6,e7,e8,e9,gQ,ke⟩;rcases hR r H' m' e9 ke with hr |⟨g,k,u,b,H2,hb,rfl,hg,s1,s2,hK⟩
 ·exact⟨r,V',D',H',m',e1,e2,e3,e4,e5,e6,e7,e8,e9,gQ,hr⟩
 ·have hW:SatW ⟨w,D,(· ∈a7 V H),⟨[],[]⟩,V',m⟩ (H'.bx.map (tI V')) H'.vc (max (ng (H'.bx.map (tI V'))) (nf H'.vc)) m' V' D' w' :=by
   refine⟨Un e3,e2,e6,fun x hx=> ?_,fun x hx=>(by cases hx),fun x hx=>(by cases hx),⟨fun x hx=>⟨?_,?_⟩,fun x hx=> ?_⟩,e8,e9,gQ⟩
   ·rw[GC] at hx;exact e7 x hx
   ·exact ej (DD hx) (Nat.le_max_left _ _)
   ·obtain⟨b0,_,rfl⟩:=List.mem_map.1 hx;exact Mj _
   ·exact ej (DC hx) (Nat.le_max_right _ _)
  obtain⟨a,c,m1,D2,q1,q2,q3,q4,q5⟩:=SatW.pub (st:=⟨[],[],H'.bx.map (tI V'),H'.vc,max (ng (H'.bx.map (tI V'))) (nf H'.vc),m'⟩) hW hb;have hS:=Um (R1 q5.heap) s1 s2;refine⟨g (.v (.slice a b.n c)),V',D2,H2,m1,?_,q5.wf,hS,e4,e5,q5.frm,fun x hx=>e7 x ((LC s1 s2).subset hx),q5.le0,q5.m0,q5.mle,hK a c m1 q1 q2 q3⟩;rw[e1,hg V' _ q4]
def PV (R' :SV->Hp->Mem->Prop) (r:SV) (H' :Hp) (m' :Mem):Prop:=∃H2:Hp,(rK ⟨[],[],H'.bx,H'.vc,0,m'⟩ H2.bx/\rJ ⟨[],[],H'.bx,H'.vc,0,m'⟩ H2.vc)/\R' r H2 m'
theorem X8 {f:FuncId} {args:List SV} {H:Hp} {m:Mem} {R' :SV->Hp->Mem->Prop} (h:FnH P f args H m (PV R')):FnH P f args H m R' :=by
 intro V w D j8 hle hH;refine(h V w D j8 hle hH).mono ?_;rintro e w' ⟨r,V',D',H',m',e1,e2,e3,e4,e5,e6,e7,e8,e9,gQ,H2,⟨hb,hv⟩,hr⟩;obtain⟨rV,hbu⟩:=Hm hb;obtain⟨lq,hvu⟩:=Hl hv;have xj:=List.nodup_append.1 e3.apart;refine⟨r,V',D',H2,m',e1,e2,⟨fun b hb=>e3.bx b (rV b hb),fun b hb=>e3.vc b (lq b hb),?_,hvu⟩,e4,e5,e6,fun b hb=>e7 b (Ds rV lq b hb),e8,e9,gQ,hr⟩;refine List.nodup_append.2 ⟨?_,?_,fun x hx y hy=> ?_⟩
 ·exact Gp hbu fun x hx y hy e=>Gl xj.1 x (rV x hx) y (rV y hy) e
 ·exact Fs hvu fun x hx y hy b e1 e2=>Dv (lq x hx) (lq y hy) e1 e2 xj.2.1
 ·refine xj.2.2 x ?_ y ?_
  ·obtain⟨z,hz,e⟩:=List.mem_map.1 hx;exact List.mem_map.2 ⟨z,rV z hz,e⟩
  ·obtain⟨z,hz,e⟩:=List.mem_filterMap.1 hy;exact List.mem_filterMap.2 ⟨z,lq z hz,e⟩
def zB (R' :SV->Hp->Mem->Prop) (r:SV) (H' :Hp) (m' :Mem):Prop:=R' r H' m' \/∃(g:SV->SV) (k u:Nat) (b:Vc) (H2:Hp),cN H'.vc k u=some b/\r=g (.vec k u)/\
 (∀(V:Vl) (v:Value),(V.γ k u).val=v->den V (g (.vec k u))=den V (g (.v v)))/\H2.bx.Sublist H'.bx/\H2.vc.Sublist H'.vc/\
 ∀(a:Option Addr) (c:Nat) (m1:Mem),m'.le m1->b.n<=c->aK m1 a b.n b.sz b.xs->R' (g (.v (.slice a b.n c))) H2 m1
theorem iA {f:FuncId} {args:List SV} {H:Hp} {m:Mem} {R' :SV->Hp->Mem->Prop} (h:FnH P f args H m (zB R')):FnH P f args H m R' :=
 NS h fun _ _ _ _ hr=>hr
theorem AE {R' :SV->Hp->Mem->Prop} {H' :Hp} {m' :Mem} {k u:Nat} {b:Vc} (hb:cN H'.vc k u=some b) (H2:Hp) (s1:H2.bx.Sublist H'.bx) (s2:H2.vc.Sublist H'.vc)
  (h:∀(a:Option Addr) (c:Nat) (m1:Mem),m'.le m1->b.n<=c->aK m1 a b.n b.sz b.xs->R' (.v (.slice a b.n c)) H2 m1):zB R' (.vec k u) H' m' :=
 .inr ⟨id,k,u,b,H2,hb,rfl,fun _ _ h=>h,s1,s2,h⟩
theorem DG {V:Vl} {v:Value}:∀{cs:List SV} {i k u:Nat},cs[i]? =some (.vec k u)->(V.γ k u).val=v->(cs.set i (.vec k u)).map (bj V)=(cs.set i (.v v)).map (bj V)
 |c::r,0,k,u,h,e=>by
  show bj V (.vec k u)::_=v::_;rw[<- e];rfl
 |c::r,i+1,k,u,h,e=>by
  simp only[List.set_cons_succ,br];rw[DG (cs:=r) (i:=i) (by simpa using h) e]
theorem qM {R' :SV->Hp->Mem->Prop} {H' :Hp} {m' :Mem} {cs:List SV} {k u:Nat} {b:Vc} (i:Nat) (hi:cs[i]? =some (.vec k u)) (hb:cN H'.vc k u=some b) (H2:Hp) (s1:H2.bx.Sublist H'.bx) (s2:H2.vc.Sublist H'.vc)
  (h:∀(a:Option Addr) (c:Nat) (m1:Mem),m'.le m1->b.n<=c->aK m1 a b.n b.sz b.xs->R' (.agg (cs.set i (.v (.slice a b.n c)))) H2 m1):zB R' (.agg cs) H' m' :=by
 refine .inr ⟨fun z=> .agg (cs.set i z),k,u,b,H2,hb,?_,fun V v e=> ?_,s1,s2,h⟩
 ·obtain⟨hl,he⟩:=List.getElem?_eq_some_iff.1 hi;simp only[<- he,List.set_getElem_self]
 ·show Value.agg ⟨_⟩=Value.agg ⟨_⟩;rw[DG hi e]
def yU (k:Nat) (K:LS->Prop) (st:LS):Prop:=
 aI (.mk (k:=fun b:Bx=>lI (.mk (k:=fun du ak=>fy ak.nid ak.vc du/\K ⟨ak.env,ak.rho,km ak.bx k du,ak.vc,ak.nid,ak.m⟩) (st,b.cs))) (ie st.bx k))
theorem TJ {k:Nat} {K:LS->Prop} {st:LS}:yU k K st=
  aI (.mk (k:=fun b:Bx=>lI (.mk (k:=fun du ak=>fy ak.nid ak.vc du/\K ⟨ak.env,ak.rho,km ak.bx k du,ak.vc,ak.nid,ak.m⟩) (st,b.cs))) (ie st.bx k)):=rfl
theorem At {k:Nat} {cs:List SV}:∀bx:List Bx,(km bx k cs).map (·.id)=bx.map (·.id)
 |[]=>rfl
 |⟨k',t',du⟩::r=>by
  simp only[km];split
  ·rfl
  ·simp only[br,At r]
theorem As {k:Nat} {cs:List SV}:∀{bx:List Bx} {b:Bx},b∈km bx k cs->b∈bx\/∃b0,b0∈bx/\ie bx k=some b0/\b=⟨b0.id,b0.ty,cs⟩
 |⟨k',t',du⟩::r,b,h=>by
  simp only[km] at h;split at h
  ·rename_i e;rcases List.mem_cons.1 h with rfl |h
   ·refine .inr ⟨⟨k',t',du⟩,dz ..,?_,rfl⟩;simp only[ie,aj e]
   ·exact .inl (cS _ h)
  ·rename_i e;rcases List.mem_cons.1 h with rfl |h
   ·exact .inl (dz ..)
   ·rcases As h with h |⟨b0,h1,h2,h3⟩
    ·exact .inl (cS _ h)
    ·refine .inr ⟨b0,cS _ h1,?_,h3⟩;simp only[ie,ae e];exact h2
theorem Xa {V:Vl} {l l' :List Bx} (h:l'.map (·.id)=l.map (·.id)):l'.map (fun b=>V.β b.id)=l.map (fun b=>V.β b.id):=by
 have:=congrArg (List.map V.β) h;simpa only[List.map_map,Function.comp_def] using this
theorem Dt {V:Vl} {bx qB:List Bx} {vc:List Vc} (h:qB.map (·.id)=bx.map (·.id)):a7 V ⟨qB,vc⟩=a7 V ⟨bx,vc⟩:=by
 unfold a7;simp only[Xa h]
theorem RO {C:Ctx} {n:Nat} {st:LS} {a:Act} {w:World} {k:Nat} {K:LS->Prop} (hE:jO C n st a w) (h:yU k K st):∃ak,jO C n ak a w/\K ak:=by
 obtain⟨gi,V,D,hS⟩:=hE;unfold yU at h;obtain⟨b,hb,h⟩:=aG h;obtain⟨du,m1,D1,⟨ho,hK⟩,hW,hd,_⟩:=qC (st:=st) b.cs _ st.m D h hS.w;have eC:=(tE hb).2;refine⟨⟨st.env,st.rho,km st.bx k du,st.vc,st.nid,m1⟩,⟨gi,V,D1,⟨hS.f,hS.ids,⟨⟨fun x hx=> ?_,hW.heap.vc,?_,hW.heap.uniq⟩,hW.wf,hW.frm,?_,hW.baseB,hW.baseV,⟨fun x hx=> ?_,hW.ids.2⟩,hW.le0,hW.m0,hW.mle⟩⟩⟩,hK⟩
 ·rcases As hx with hx |⟨b0,h1,h2,rfl⟩
  ·exact hW.heap.bx x hx
  ·have e:b0=b:=by rw[h2] at hb;exact Option.some.inj hb
   subst e;obtain⟨⟨o,q1,q2⟩,q3⟩:=hW.heap.bx b0 h1;refine⟨⟨o,q1,?_⟩,q3⟩;show mu b0.ty (du.map (bj V)) o;rw[hd];exact q2
 ·rw[Dt (At st.bx)];exact hW.heap.apart
 ·rw[Dt (At st.bx)];exact hW.own
 ·rcases As hx with hx |⟨b0,h1,h2,rfl⟩
  ·exact hW.ids.1 x hx
  ·exact⟨(hW.ids.1 b0 h1).1,ho⟩
theorem Wn (dQ:cK cfg P) {n:Nat} {st:LS} {body:Code} {Q:Exit->LS->Prop} {X:Type} (T:(LS->Prop)->LS->Prop) (hT:∀(K:LS->Prop) (C:Ctx) (st:LS) (a:Act) (w:World),jO C n st a w->T K st->∃ak,jO C n ak a w/\K ak) (S:X->LS) (I:X->Prop) (μ:X->Nat)
  (hd:iW n body=true) (hn:∀x,I x->st.nid<=(S x).nid) (hm:∀x,I x->an st.m (S x).m) (ax:∀x,pv (S x)) (h0:T (fun ak=>∃x,Match ak (S x)/\I x) st)
  (round:∀x,I x->dK (.mk (k:=(cfg,P,n,body,jI (T fun ak=>∃x',Match ak (S x')/\I x' /\μ x' <μ x) Q)) (S x))):jR (.mk (k:=(P,n,.loop body,Q)) st):=by
 rintro C a w ⟨gi,V,D,hS⟩;have hB:∀b∈C.H0.bx,b.id<st.nid:=fun b hb=>(hS.w.baseB b hb).2
 have hV:∀b∈C.H0.vc,b.id<st.nid:=fun b hb=>(hS.w.baseV b hb).2.1
 have Cg:∀x,I x->C.m0.le (S x).m:=fun x hx=>by
  rcases hm x hx with e |h
  ·rw[<- e];exact hS.w.m0
  ·exact Mem.le_trans hS.w.m0 h
 have vv:∀(lk:LS) (a1:Act) (w1:World) (x:X),jO C n lk a1 w1->Match lk (S x)->I x->jO C n (S x) a1 w1:=by
  rintro lk a1 w1 x ⟨_,V1,D1,hS1⟩ hM hx;exact⟨hM.2.1,V1,D1,hS1.weaken hM (ax x) (fun b hb=>ej (hB b hb) (hn x hx)) (fun b hb=>ej (hV b hb) (hn x hx)) (Cg x hx)⟩
 obtain⟨lk,xV,x0,hM0,Fh⟩:=hT _ _ _ _ _ ⟨gi,V,D,hS⟩ h0;refine wp_loop_ghost (fun k a w=>∃x,I x/\μ x=k/\jO C n (S x) a w) (μ x0) ⟨x0,Fh,rfl,vv _ _ _ _ xV hM0 Fh⟩ ?_;rintro k a1 w1 ⟨x,hx,rfl,hE⟩;refine wp_mono (qD dQ hd (round x hx) C a1 w1 hE) ?_;rintro e a2 w2 ⟨bR,bQ,hq⟩;cases e with
 |normal=>
  obtain⟨ES,hE3,x',hM,cB,ao⟩:=hT _ _ _ _ _ bQ hq;exact⟨μ x',ao,x',cB,rfl,vv _ _ _ _ hE3 hM cB⟩
 |exit id=>exact⟨bR,bQ,hq⟩
 |goto l=>exact⟨bR,bQ,hq⟩
 |ret=>exact⟨bR,bQ,hq⟩
 |panic ch=>exact⟨bR,bQ,hq⟩
 |outgrown=>exact⟨bR,bQ,hq⟩
theorem DA (dQ:cK cfg P) {n:Nat} {st:LS} {body:Code} {Q:Exit->LS->Prop} {X:Type} (k:Nat) (S:X->LS) (I:X->Prop) (μ:X->Nat)
  (hd:iW n body=true) (hn:∀x,I x->st.nid<=(S x).nid) (hm:∀x,I x->an st.m (S x).m) (ax:∀x,pv (S x)) (h0:yU k (fun ak=>∃x,Match ak (S x)/\I x) st)
  (round:∀x,I x->dK (.mk (k:=(cfg,P,n,body,jI (yU k fun ak=>∃x',Match ak (S x')/\I x' /\μ x' <μ x) Q)) (S x))):jR (.mk (k:=(P,n,.loop body,Q)) st):=
 Wn dQ (yU k) (fun _ _ _ _ _ hE h=>RO hE h) S I μ hd hn hm ax h0 round
end
@[reducible] def lT (en:Int) (s:PSt):Bx:=⟨0,62,[.vec 1 0,.v (.int .i64 s.i),.v (.int .i64 en),.v (.bool s.fl),.v (.int .i64 s.off)]⟩
@[reducible] def j4 (ts:List Tk):Vc:=⟨1,0,50,4,ts.length,cG ts⟩
attribute [go_sem] lT j4
structure TsB (ts:List Tk):Prop where
 len:ts.length<=1000000
 s:∀t∈ts,t.s.length<=1000000
 n:∀t∈ts,az t.n
theorem TsB.cs {ts:List Tk} (h:TsB ts) (i:Nat):(aO ts i).s.length<=1000000:=by
 by_cases hi:i<ts.length
 ·rw[AJ hi];exact h.s _ (List.getElem_mem hi)
 ·rw[wI (by omega)];exact au _
theorem TsB.cn {ts:List Tk} (h:TsB ts) (i:Nat):az (aO ts i).n:=by
 by_cases hi:i<ts.length
 ·rw[AJ hi];exact h.n _ (List.getElem_mem hi)
 ·rw[wI (by omega)];exact⟨by decide,by decide⟩
theorem TsB.l8 {ts:List Tk} (h:TsB ts):ts.length<=100000000:=cR h.len (by decide)
theorem DN {ts:List Tk} {i:Nat} (h:ee (ts.drop i)=true):i<ts.length:=by
 rcases Nat.lt_or_ge i ts.length with hi |hi
 ·exact hi
 ·rw[List.drop_eq_nil_of_le hi] at h;cases h
theorem tG {ts:List Tk} {i:Nat} (h:eY (ts.drop i)=true):i<ts.length:=by
 rcases Nat.lt_or_ge i ts.length with hi |hi
 ·exact hi
 ·rw[List.drop_eq_nil_of_le hi] at h;cases h
theorem OG {ts:List Tk} {i:Nat} (h:i<ts.length):(cG ts).getD (i * 4+1) undef= .string (bs (aO ts i).s):=by
 have:=congrArg (fun l=>l[1]?) (Ao h);simp only[List.getElem?_take,List.getElem?_drop] at this;rw[aj (by decide)] at this;rw[List.getD_eq_getElem?_getD,this];rfl
def Eu:List Value->Option (Prop×Value)
 |[.string a,.string b]=>some (tl b=[47],.bool ((tl a).contains 47))
 |_=>none
attribute [go_sem] Eu.eq_1
theorem WV:ou Tryz.prog 228 Eu:=fun cL y hy hB m=>by
 unfold Eu at hy;split at hy
 ·rename_i a b;cases hy;have h:=TM (tl a) 47 m;have e:b=bs [47]:=by rw[<- lH b,hB]
  rw[e];rwa [lH] at h
 ·cases hy
abbrev cfC:Cfg:=fP (fun _=>false) [(134,eZ BL fun s=> .bool (dT s)),(228,Eu)]
theorem vP:cK cfC Tryz.prog:=pure_cons (by kernel_rfl) (fM fun a m h=>Ab a m h) (pure_cons (by kernel_rfl) WV pure_nil)
theorem eV (ts:List Tk) (en:Int) (s:PSt) (w:List UInt8) (m:Mem) (hn:ts.length<=100000000):FnH Tryz.prog 52 [.box 0 0,.v (.string (bs w))] (pH ts en s) m fun r H' m' =>an m m' /\r= .tup []/\H' =pH ts en (aU ts en s w):=RV ts en s w m hn
section
variable (ts:List Tk) (en:Int) (s:PSt) (m:Mem)
theorem Fz (hT:TsB ts):FnH Tryz.prog 126 [.box 0 0] (pH ts en s) m fun r H' m' =>an m m' /\r= .v (.bool (ee (ts.drop s.i)))/\H' =pH ts en s:=by
 have hp:=yw ts en s m hT.l8;have hb:=hT.cs s.i;rw[ee,nQ,kf];refine aL vP Tryz.func126 ?_
 ·simp only[go_sem];refine ab (hp.mono ?_);clear hp;rintro r H' m1 aN ⟨rfl,rfl⟩;simp only[go_sem];exact⟨fun _=>by unfold BL;omega,.inr aN⟩
theorem Fy (hT:TsB ts):FnH Tryz.prog 190 [.box 0 0] (pH ts en s) m fun r H' m' =>an m m' /\r= .v (.bool (eY (ts.drop s.i)))/\H' =pH ts en s:=by
 have hp:=yw ts en s m hT.l8;have hb:=hT.cs s.i;rw[eY,nQ,kf];refine aL vP Tryz.func190 ?_
 ·simp only[go_sem];refine ab (hp.mono ?_);clear hp;rintro r H' m1 aN ⟨rfl,rfl⟩;simp only[go_sem];exact⟨fun _=>by unfold BL;omega,.inr aN⟩
theorem oN (hT:TsB ts) (hI:Inv ts s):FnH Tryz.prog 50 [.box 0 0] (pH ts en s) m fun r H' m' =>an m m' /\∃w s',r= .v (.string (bs w))/\w.length<=1000000/\H' =pH ts en s' /\Res ts en s (fw (ts.drop s.i)) w s' :=by
 have hp:=Fz ts en s m hT;have hb:=hT.cs s.i;by_cases h:ee (ts.drop s.i)=true
 ·rw[h] at hp;have hi:=DN h;have hR:Res ts en s (fw (ts.drop s.i)) (aO ts s.i).s s.next:=by
   rw[fw,aj h,kf,<- bD];exact bO hI hi (bY _ (hI.next hi))
  refine aL vP Tryz.func50 ?_
  ·simp only[go_sem];refine ab (hp.mono ?_);clear hp;rintro r H' m1 aN ⟨l1,rfl,rfl⟩;simp only[go_sem];have hl:=hT.len;have ht:=DR ts;have e:(s.i+1 - 1:Int).toNat=s.i:=by omega
   refine⟨by unfold az;omega,?_⟩;refine cg (.hoist 0 (.hoist 1 (.hoist 2 (.hoist 3 (.hoist 4 (.hoist 5 (.hoist 6 (.hoist 7 (.hoist 8 (.hoist 9 (.hoist 10 (.hoist 11 (.hoist 12 .done))))))))))))) vP (by kernel_rfl) (by kernel_rfl) ?_;simp only[go_sem];refine⟨by unfold az;omega,⟨by omega,by omega⟩,by omega,by omega,l1,(aO ts s.i).s,s.next,?_,hb,rfl,hR⟩;rw[e];exact OG hi
 ·have h' :ee (ts.drop s.i)=false:=by simpa using h
  rw[h'] at hp;have hf:=fun m' =>Aj ts en s m' hT.l8
  have hR:Res ts en s (fw (ts.drop s.i)) [] (jV ts en s):=by
   rw[fw,ae h];exact Dg _ hI
  refine aL vP Tryz.func50 ?_
  ·simp only[go_sem];refine ab (hp.mono ?_);clear hp;rintro r H' m1 aN ⟨l1,rfl,rfl⟩;simp only[go_sem];refine ab ((hf m1).mono ?_);clear hf;rintro r H' m2 aH ⟨rfl,rfl,rfl⟩;simp only[go_sem];exact⟨l1,[],_,rfl,au _,rfl,hR⟩
theorem qF (hT:TsB ts) (hI:Inv ts s):FnH Tryz.prog 130 [.box 0 0] (pH ts en s) m fun r H' m' =>an m m' /\∃w s',r= .v (.string (bs w))/\w.length<=1000000/\H' =pH ts en s' /\Res ts en s (dr (ts.drop s.i)) w s' :=by
 have hp:=Fy ts en s m hT;have hb:=hT.cs s.i;by_cases h:eY (ts.drop s.i)=true
 ·rw[h] at hp;have hi:=tG h;have hR:Res ts en s (dr (ts.drop s.i)) (aO ts s.i).s s.next:=by
   rw[dr,aj h,kf,<- bD];exact bO hI hi (bY _ (hI.next hi))
  refine aL vP Tryz.func130 ?_
  ·simp only[go_sem];refine ab (hp.mono ?_);clear hp;rintro r H' m1 aN ⟨l1,rfl,rfl⟩;simp only[go_sem];have hl:=hT.len;have ht:=DR ts;have e:(s.i+1 - 1:Int).toNat=s.i:=by omega
   refine⟨by unfold az;omega,?_⟩;refine cg (.hoist 0 (.hoist 1 (.hoist 2 (.hoist 3 (.hoist 4 (.hoist 5 (.hoist 6 (.hoist 7 (.hoist 8 (.hoist 9 (.hoist 10 (.hoist 11 (.hoist 12 .done))))))))))))) vP (by kernel_rfl) (by kernel_rfl) ?_;simp only[go_sem];refine⟨by unfold az;omega,⟨by omega,by omega⟩,by omega,by omega,l1,(aO ts s.i).s,s.next,?_,hb,rfl,hR⟩;rw[e];exact OG hi
 ·have h' :eY (ts.drop s.i)=false:=by simpa using h
  rw[h'] at hp;have hf:=fun m' =>Aj ts en s m' hT.l8
  have hR:Res ts en s (dr (ts.drop s.i)) [] (jV ts en s):=by
   rw[dr,ae h];exact Dg _ hI
  refine aL vP Tryz.func130 ?_
  ·simp only[go_sem];refine ab (hp.mono ?_);clear hp;rintro r H' m1 aN ⟨l1,rfl,rfl⟩;simp only[go_sem];refine ab ((hf m1).mono ?_);clear hf;rintro r H' m2 aH ⟨rfl,rfl,rfl⟩;simp only[go_sem];exact⟨l1,[],_,rfl,au _,rfl,hR⟩
abbrev ER (t:Ty):SV:= .agg [.v (.int .i64 t.dim),.v (.int .u8 t.base),.v (.string (bs t.name))]
theorem Kv (hT:TsB ts) (hI:Inv ts s):FnH Tryz.prog 153 [.box 0 0] (pH ts en s) m fun r H' m' =>an m m' /\∃t s',r=ER t/\t.dim=0/\(0<=t.base/\t.base<256)/\t.name.length<=1000000/\H' =pH ts en s' /\Res ts en s (jX (ts.drop s.i)) t s' :=by
 have ha:=td ts en s iI m hT.l8;have hb:=fun m' =>td ts en s iE m' hT.l8
 have hc:=fun m' =>oN ts en s m' hT hI
 by_cases h1:ah ts s.i iI=true
 ·rw[h1] at ha;have hi:=aJ h1;have hR:Res ts en s (jX (ts.drop s.i)) ⟨0,73,[]⟩ s.next:=by
   rw[jX,<- ar,aj h1,<- bD];exact bO hI hi (bY _ (hI.next hi))
  refine aL ay Tryz.func153 ?_
  ·simp only[go_sem];refine ab (ha.mono ?_);clear ha hb hc;rintro r H' m1 aN ⟨l1,rfl,rfl⟩;simp only[go_sem];exact⟨l1,⟨0,73,[]⟩,s.next,rfl,rfl,by decide,au _,rfl,hR⟩
 ·have Cu:ah ts s.i iI=false:=by simpa using h1
  rw[Cu] at ha;by_cases h2:ah ts s.i iE=true
  ·have oJ:=fun m' =>(hb m').mono fun r H' m2 _ h=>(⟨h.1,by have:=h.2.1;rw[h2] at this;exact this,by have:=h.2.2;rw[aj h2] at this;exact this⟩:an m' m2/\r= .v (.bool true)/\H' =pH ts en s.next)
   clear hb;have hi:=aJ h2;have hR:Res ts en s (jX (ts.drop s.i)) ⟨0,74,[]⟩ s.next:=by
    rw[jX,<- ar,ae h1,<- ar,aj h2,<- bD];exact bO hI hi (bY _ (hI.next hi))
   refine aL ay Tryz.func153 ?_
   ·simp only[go_sem];refine ab (ha.mono ?_);clear ha hc;rintro r H' m1 aN ⟨l1,rfl,rfl⟩;simp only[go_sem];refine ab ((oJ m1).mono ?_);clear oJ;rintro r H' m2 aH ⟨l2,rfl,rfl⟩;simp only[go_sem];exact⟨aa l1 l2,⟨0,74,[]⟩,s.next,rfl,rfl,by decide,au _,rfl,hR⟩
  ·have zS:ah ts s.i iE=false:=by simpa using h2
   have oJ:=fun m' =>(hb m').mono fun r H' m2 _ h=>(⟨h.1,by have:=h.2.1;rw[zS] at this;exact this,by have:=h.2.2;rw[ae h2] at this;exact this⟩:an m' m2/\r= .v (.bool false)/\H' =pH ts en s)
   clear hb;refine aL ay Tryz.func153 ?_
   ·simp only[go_sem];refine ab (ha.mono ?_);clear ha;rintro r H' m1 aN ⟨l1,rfl,rfl⟩;simp only[go_sem];refine ab ((oJ m1).mono ?_);clear oJ;rintro r H' m2 aH ⟨l2,rfl,rfl⟩;simp only[go_sem];refine ab ((hc m2).mono ?_);clear hc;rintro r H' m3 bN ⟨l3,w,s',rfl,hw,rfl,hR⟩;simp only[go_sem];refine⟨aa (aa l1 l2) l3,⟨0,76,w⟩,s',rfl,rfl,(by decide:(0:Int)<=76/\(76:Int)<256),hw,rfl,?_⟩;rw[jX,<- ar,ae h1,<- ar,ae h2];exact aR hR (bY _ hR.inv)
theorem wx (hT:TsB ts) (hI:Inv ts s):FnH Tryz.prog 63 [.box 0 0] (pH ts en s) m fun r H' m' =>an m m' /\∃t s',r=ER t/\lh t/\t.name.length<=1000000/\H' =pH ts en s' /\Res ts en s (fN (ts.drop s.i)) t s' :=by
 have hb:=Kv ts en s m hT hI;refine aL ay Tryz.func63 ?_
 ·simp only[go_sem];refine ab (hb.mono ?_);clear hb;rintro r H' m1 aN ⟨l1,t1,s1,rfl,ht1,ht2,ht3,rfl,dR⟩;simp only[go_sem];refine cO ay (fun y:PSt×Ty×Mem=>⟨[⟨0,[],.box 0 0⟩,⟨2,[],.box 2 0⟩,⟨3,[],.box 5 0⟩],[],[⟨5,30,[.v (.int .i64 y.2.1.dim),.v (.int .u8 y.2.1.base),.v (.string (bs y.2.1.name))]⟩,lT en y.1,⟨2,30,[.v (.int .i64 0),.v (.int .u8 0),.v (.string (bs []))]⟩],[j4 ts],20,y.2.2⟩)
   (fun y=>an m1 y.2.2/\Inv ts y.1/\y.2.1.name.length<=1000000/\(0<=y.2.1.base/\y.2.1.base<256)/\(0<=y.2.1.dim/\y.2.1.dim<=y.1.i)/\∀a s',Res ts en y.1 (vq y.2.1 (ts.drop y.1.i)) a s' ->Res ts en s (fN (ts.drop s.i)) a s')
   (fun y=>ts.length - y.1.i) (s1,t1,m1) (fun _ _=>dL rfl) (fun y hy=>hy.1) ?_ ?_ ?_
  ·simp only[go_sem]
  ·exact⟨.inl rfl,dR.inv,ht3,ht2,⟨by dsimp only;omega,by dsimp only;omega⟩,fun a s' h=>by rw[NX];exact aR dR h⟩
  ·rintro⟨s2,t2,m2⟩ ⟨q1,q2,q3,q4,q5,q6⟩;dsimp only at q1 q2 q3 q4 q5 q6;have hl:=hT.len;have dM:=q2.le;have ha:=td ts en s2 [91] m2 hT.l8;by_cases h1:ah ts s2.i [91]=true
   ·rw[h1] at ha;have hi:=aJ h1;have nC:=q2.next hi;have he:=fun m' =>eV ts en s2.next [93] m' hT.l8
    have Co:Inv ts (aU ts en s2.next [93]):=ff nC;have hle:s2.i+1<=(aU ts en s2.next [93]).i:=gC nC;simp only[go_sem];refine ab (ha.mono ?_);clear ha;rintro r H' m3 bN ⟨l3,rfl,rfl⟩;simp only[go_sem];refine ab ((he m3).mono ?_);clear he;rintro r H' m4 dd ⟨l4,rfl,rfl⟩;simp only[go_sem];refine⟨by unfold az;omega,(aU ts en s2.next [93],t2.up,m4),⟨⟨⟨rfl,rfl,rfl⟩,⟨rfl,rfl,rfl⟩⟩,.inl rfl⟩,⟨aa (aa q1 l3) l4,Co,q3,q4,⟨by show 0<=t2.dim+1;omega,by show t2.dim+1<=((aU ts en s2.next [93]).i:Int);omega⟩,fun a s' h=>q6 a s' ?_⟩,by dsimp only;omega⟩;rw[G5,aj (by rw[<- ar];exact h1),<- bD];exact bO q2 hi (dI nC h)
   ·have Cu:ah ts s2.i [91]=false:=by simpa using h1
    rw[Cu] at ha;simp only[go_sem];refine ab (ha.mono ?_);clear ha;rintro r H' m3 bN ⟨l3,rfl,rfl⟩;simp only[go_sem];refine⟨aa (aa l1 q1) l3,t2,s2,rfl,⟨by unfold az;omega,q4,by unfold aA;omega⟩,q3,rfl,q6 _ _ ?_⟩;rw[G5,ae (by rw[<- ar];exact h1)];exact bY _ q2
end
theorem TV (n:Nat) (hn:n<=9) (m:Mem):FnH Tryz.prog 152 [.v (.int .i64 n)] ⟨[],[]⟩ m fun r H' m' =>m' =m/\r= .vec 0 0/\H' =⟨[],[⟨0,0,9,1,(fH n).length,strs (fH n)⟩]⟩:=by
 refine aL ay Tryz.func152 ?_
 ·simp only[go_sem];exact⟨fun h=>by obtain rfl:n=0:=(by omega);rfl,fun h0=>⟨fun h=>by obtain rfl:n=1:=(by omega);rfl,fun h1=>⟨fun h=>by obtain rfl:n=2:=(by omega);rfl,fun h2=>⟨fun h=>by obtain rfl:n=3:=(by omega);rfl,fun h3=>⟨fun h=>by obtain rfl:n=4:=(by omega);rfl,fun h4=>⟨fun h=>by obtain rfl:n=5:=(by omega);rfl,fun h5=>⟨fun h=>by obtain rfl:n=6:=(by omega);rfl,fun h6=>⟨fun h=>by obtain rfl:n=7:=(by omega);rfl,fun h7=>⟨fun h=>by obtain rfl:n=8:=(by omega);rfl,fun h8=>by obtain rfl:n=9:=(by omega);rfl⟩⟩⟩⟩⟩⟩⟩⟩⟩
theorem SH (n:Nat) (hn:n<=9) (m:Mem):FnH Tryz.prog 152 [.v (.int .i64 n)] ⟨[],[]⟩ m fun r H' m' =>m.le m' /\∃a c,r= .v (.slice a (fH n).length c)/\(fH n).length<=c/\aK m' a (fH n).length 1 (strs (fH n))/\H' =⟨[],[]⟩:=by
 refine NS (TV n hn m) ?_;rintro r H' m' hm ⟨rfl,rfl,rfl⟩;refine .inr ⟨id,0,0,_,⟨[],[]⟩,rfl,rfl,fun V v h=>h,List.Sublist.refl _,List.nil_sublist _,fun a c m1 h1 h2 h3=>⟨h1,a,c,rfl,h2,h3,rfl⟩⟩
section
variable (ts:List Tk) (en:Int) (s:PSt) (m:Mem)
theorem HA {ts:List Tk} {n i:Nat} (h:iF n (ts.drop i)=true):i<ts.length:=by
 rcases Nat.lt_or_ge i ts.length with hi |hi
 ·exact hi
 ·rw[List.drop_eq_nil_of_le hi,iF] at h;cases h
theorem JL (n:Nat) (hn:n<=9) (hT:TsB ts):FnH Tryz.prog 62 [.box 0 0,.v (.int .i64 n)] (pH ts en s) m fun r H' m' =>an m m' /\
  ∃w,r= .tup [.v (.string (bs w)),.v (.bool (iF n (ts.drop s.i)))]/\(iF n (ts.drop s.i)=true->w=kQ (ts.drop s.i))/\H' =pH ts en (if iF n (ts.drop s.i)=true then s.next else s):=by
 have hp:=yw ts en s m hT.l8;have hl:=fun m' =>SH n hn m'
 refine aL ay Tryz.func62 ?_
 ·simp only[go_sem];refine ab (hp.mono ?_);clear hp;rintro r H' m1 aN ⟨rfl,rfl⟩;simp only[go_sem];refine cg (.hoist 0 (.hoist 1 (.hoist 2 (.hoist 3 (.hoist 4 (.hoist 6 (.hoist 7 (.alt 5 [7,6] (.alt 8 [] (.hoist 9 .done) .stop) .stop)))))))) ay (by kernel_rfl) (by kernel_rfl) ?_;simp only[go_sem];have hlen:(fH n).length<=4611686018427387904:=by unfold fH;repeat (first |(split;decide) |split |decide)
  refine⟨fun hk=>ab ((hl m1).mono ?_),fun hk=> ?_⟩
  ·clear hl;rintro r H' m2 aH ⟨_,a,c,rfl,bl,cu,rfl⟩;have hc:=yf (fH n) (aO ts s.i).s a _ c m2 cu hlen;simp only[go_sem];refine⟨⟨.inr aH,.inr aH⟩,by kernel_rfl,dh (hc.mono ?_)⟩;clear hc;rintro r H' m3 bN ⟨rfl,rfl⟩;simp only[go_sem];have Ci:an m m3:= .inr (Mem.le_trans aN (Mem.le_trans aH bN));refine⟨fun h=> ?_,fun h=> ?_⟩
   ·have hf:iF n (ts.drop s.i)=true:=by rw[iF,nQ,kf,hk,h];rfl
    have hi:=HA hf;have hl:=hT.len;rw[hf];exact⟨by unfold az;omega,Ci,_,rfl,fun _=>(kf ts s.i).symm,rfl⟩
   ·have hf:iF n (ts.drop s.i)=false:=by rw[iF,kf,h,Bool.and_false]
    rw[hf];exact⟨Ci,[],rfl,fun h=>(by cases h),rfl⟩
  ·have hf:iF n (ts.drop s.i)=false:=by rw[iF,nQ];simp [hk]
   rw[hf];exact⟨.inr aN,[],rfl,fun h=>(by cases h),rfl⟩
end
abbrev Nd.svs (x:Nd):List SV:=[.v (.int .i64 x.k),.v (.int .i64 x.n),.v (.string (bs x.s)),.v (.string (bs x.c)),.v (.int .i64 x.ty.dim),.v (.int .u8 x.ty.base),.v (.string (bs x.ty.name)),.v (.slice x.a x.l x.cp)]
abbrev gu (ts:List Tk) (en:Int) (s:PSt) (K:PR Ex) (m:Mem):SV->Hp->Mem->Prop:=fun r H' m' =>an m m' /\∃(x:Nd) (e:Ex) (s' :PSt),r= .agg x.svs/\bk m' e x.cs/\H' =pH ts en s' /\Res ts en s K e s'
abbrev adX (ts:List Tk) (en:Int) (s:PSt) (K:PR (List Ex)) (m:Mem):SV->Hp->Mem->Prop:=fun r H' m' =>an m m' /\∃(es:List Ex) (a:Option Addr) (c:Nat) (xs:List Value) (s' :PSt),r= .v (.slice a es.length c)/\es.length<=c/\es.length<=1000001/\aK m' a es.length 8 xs/\ea m' es xs/\H' =pH ts en s' /\Res ts en s K es s'
theorem byE:nE Tryz.prog 33=104:=by kernel_rfl
theorem byS:nE Tryz.prog 73=312:=by kernel_rfl
attribute [go_sem] byE byS
theorem fK {n b:Nat} (hn:n<=2000002) (hb:b<=1000):room n b:=by
 have:n * b<=2000002 * 1000:=Nat.mul_le_mul hn hb;exact⟨by omega,by unfold maxLen;omega⟩
theorem cX (m:Mem) (z:Nat):aK m none 0 z []:=⟨by simp,fun h=>absurd h (by decide)⟩
theorem fC {m:Mem} {k n:Int} {s c:List UInt8} {ty:Ty} {es:List Ex} {a:Option Addr} {cp:Nat} {xs:List Value} (hk:az k) (hn:az n) (hs:s.length<=1000000) (hc:c.length<=1000000) (ht:lh ty)
  (hl:es.length<=1000002) (bl:es.length<=cp) (hr:aK m a es.length 8 xs) (he:ea m es xs):bk m (.mk k n s c ty es) (Nd.cs ⟨k,n,s,c,ty,a,es.length,cp⟩):=by
 simp only[bk];exact⟨a,cp,xs,rfl,bl,hr,⟨hk,hn,by unfold aA;omega,by unfold aA;omega,ht,by unfold aA;omega⟩,he⟩
theorem lY {m:Mem} {k n:Int} {s c:List UInt8} {ty:Ty} (hk:az k) (hn:az n) (hs:s.length<=1000000) (hc:c.length<=1000000) (ht:lh ty):bk m (.mk k n s c ty []) (Nd.cs ⟨k,n,s,c,ty,none,0,0⟩):=
 fC (es:=[]) hk hn hs hc ht (au _) (aq _) (cX m 8) (by simp only[ea])
theorem cI:lh ai:=⟨⟨by decide,by decide⟩,by decide,by decide⟩
theorem kq {m:Mem} {e:Ex} {x:Nd} (h:bk m e x.cs):ea m [e] x.cs:=by
 simp only[ea,and_true];exact h
theorem EP {m:Mem} {e e2:Ex} {x y:Nd} (h:bk m e x.cs) (h2:bk m e2 y.cs):ea m [e,e2] (x.cs++y.cs):=by
 simp only[ea,and_true];exact⟨h,h2⟩
theorem G2 {m:Mem} {e:Ex} {x:Nd} (hx:bk m e x.cs):∀{es:List Ex} {xs:List Value},xs.length=es.length * 8->ea m es xs->ea m (es++[e]) (xs++x.cs)
 |[],xs,hl,_=>by
  have:xs=[]:=List.eq_nil_of_length_eq_zero (by simpa using hl);subst this;exact kq hx
 |y::r,xs,hl,h=>by
  simp only[ea,jD] at h ⊢;simp only[cv] at hl;have h8:8<=xs.length:=by omega
  rw[List.take_append_of_le_length h8,List.drop_append_of_le_length h8];exact⟨h.1,G2 hx (by rw[cH];omega) h.2⟩
theorem uW {m m' :Mem} {es:List Ex} {xs:List Value} (hle:an m m') (h:ea m es xs):ea m' es xs:=by
 rcases hle with rfl |hle
 ·exact h
 ·exact C3 hle es xs h
theorem Zh {m:Mem} {e:Ex} {cs:List Value} (h:bk m e cs):∀u∈cs,u.oneCell' =true:=by
 obtain⟨x,rfl⟩:=qI h;intro u hu;simp only[Nd.cs,List.mem_cons,List.not_mem_nil,or_false] at hu;rcases hu with rfl |rfl |rfl |rfl |rfl |rfl |rfl |rfl<;>rfl
theorem Dn {m:Mem}:∀{es:List Ex} {xs:List Value},xs.length=es.length * 8->ea m es xs->∀u∈xs,u.oneCell' =true
 |[],xs,hl,_=>by
  have:xs=[]:=List.eq_nil_of_length_eq_zero (by simpa using hl);subst this;intro u hu;cases hu
 |y::r,xs,hl,h=>by
  simp only[ea] at h;simp only[cv] at hl;intro u hu;rw[<- List.take_append_drop 8 xs] at hu;rcases List.mem_append.1 hu with hu |hu
  ·exact Zh h.1 u hu
  ·exact Dn (by rw[cH];omega) h.2 u hu
theorem Gu {m:Mem} {e:Ex} {x:Nd} {es:List Ex} {xs:List Value} (hx:bk m e x.cs) (h:ea m es xs):ea m (e::es) (x.cs++xs):=by
 simp only[ea];exact⟨hx,h⟩
def ov (ts:List Tk) (en:Int) (n:Nat) (s:PSt):Prop:=∀m:Mem,FnH Tryz.prog 31 [.box 0 0,.v (.int .i64 n)] (pH ts en s) m (gu ts en s (cj n (ts.drop s.i)) m)
def vu (ts:List Tk) (en:Int) (s:PSt):Prop:=∀m:Mem,FnH Tryz.prog 167 [.box 0 0] (pH ts en s) m (adX ts en s (jw (ts.drop s.i)) m)
def Ea (ts:List Tk) (en:Int) (s:PSt):Prop:=∀m:Mem,FnH Tryz.prog 166 [.box 0 0] (pH ts en s) m (gu ts en s (gf (ts.drop s.i)) m)
def zV (ts:List Tk) (en:Int) (s:PSt):Prop:=∀m:Mem,FnH Tryz.prog 61 [.box 0 0] (pH ts en s) m (gu ts en s (nW (ts.drop s.i)) m)
section
variable {ts:List Tk} {en:Int} {s:PSt}
theorem L8 (hT:TsB ts) (hI:Inv ts s) (hE:ov ts en 0 (aU ts en s [40])):Ea ts en s:=fun m=>by
 have h1:=eV ts en s [40] m hT.l8;have Cp:∀m' :Mem,FnH Tryz.prog 31 [.box 0 0,.v (.int .i64 0)] (pH ts en (aU ts en s [40])) m' (gu ts en (aU ts en s [40]) (cj 0 (ts.drop (aU ts en s [40]).i)) m'):=hE;rw[Gj];refine aL ay Tryz.func166 ?_
 ·simp only[go_sem];refine ab (h1.mono ?_);clear h1;rintro r H' m1 aN ⟨l1,rfl,rfl⟩;simp only[go_sem];refine ab ((Cp m1).mono ?_);clear Cp;rintro r H' m2 aH ⟨l2,x,e,s2,rfl,hx,rfl,hR⟩;have h3:=eV ts en s2 [41] m2 hT.l8;simp only[go_sem];refine ab (h3.mono ?_);clear h3;rintro r H' m3 bN ⟨l3,rfl,rfl⟩;simp only[go_sem];exact⟨aa (aa l1 l2) l3,x,e,_,rfl,aZ l3 hx,rfl,dI hI (aR hR (dI hR.inv (bY _ (ff hR.inv))))⟩
theorem X4 (hT:TsB ts) (hI:Inv ts s) (hE:∀s1,Inv ts s1->s.i<=s1.i->ov ts en 0 s1):vu ts en s:=fun m=>by
 have h1:=eV ts en s [40] m hT.l8;have uI:Inv ts (aU ts en s [40]):=ff hI;have sM:s.i<=(aU ts en s [40]).i:=gC hI;by_cases hc:ah ts (aU ts en s [40]).i [41]=true
 ·have h2:=fun m' =>(td ts en (aU ts en s [40]) [41] m' hT.l8).mono fun r H' m2 _ h=>(⟨h.1,by have:=h.2.1;rw[hc] at this;exact this,by have:=h.2.2;rw[aj hc] at this;exact this⟩:an m' m2/\r= .v (.bool true)/\H' =pH ts en (aU ts en s [40]).next)
  have hi:=aJ hc;have hR:Res ts en s (jw (ts.drop s.i)) [] (aU ts en s [40]).next:=by
   rw[G8];refine dI hI ?_;rw[<- ar,aj hc,<- bD];exact bO uI hi (bY _ (uI.next hi))
  refine aL ay Tryz.func167 ?_
  ·simp only[go_sem];refine ab (h1.mono ?_);clear h1;rintro r H' m1 aN ⟨l1,rfl,rfl⟩;simp only[go_sem];refine ab ((h2 m1).mono ?_);clear h2 hE;rintro r H' m2 aH ⟨l2,rfl,rfl⟩;simp only[go_sem];exact⟨aa l1 l2,[],none,0,[],_,rfl,aq _,au _,cX _ _,by simp only[ea],rfl,hR⟩
 ·have zO:ah ts (aU ts en s [40]).i [41]=false:=by simpa using hc
  have h2:=fun m' =>(td ts en (aU ts en s [40]) [41] m' hT.l8).mono fun r H' m2 _ h=>(⟨h.1,by have:=h.2.1;rw[zO] at this;exact this,by have:=h.2.2;rw[ae hc] at this;exact this⟩:an m' m2/\r= .v (.bool false)/\H' =pH ts en (aU ts en s [40]))
  have Cp:∀m' :Mem,FnH Tryz.prog 31 [.box 0 0,.v (.int .i64 0)] (pH ts en (aU ts en s [40])) m' (gu ts en (aU ts en s [40]) (cj 0 (ts.drop (aU ts en s [40]).i)) m'):=hE _ uI sM;refine iA (aL ay Tryz.func167 ?_)
  ·simp only[go_sem];refine ab (h1.mono ?_);clear h1;rintro r H' m1 aN ⟨l1,rfl,rfl⟩;simp only[go_sem];refine ab ((h2 m1).mono ?_);clear h2;rintro r H' m2 aH ⟨l2,rfl,rfl⟩;simp only[go_sem];refine ab ((Cp m2).mono ?_);clear Cp;rintro r H' m3 bN ⟨l3,x,e,s3,rfl,hx,rfl,hR3⟩;simp only[go_sem];have kL:s.i<=s3.i:=cR sM hR3.mono;refine⟨fK (by decide) (by decide),?_⟩;refine cO ay (fun y:PSt×List Ex×List Value×Nat×Mem=>⟨[⟨0,[],.box 0 0⟩,⟨3,[],.vec 9 y.2.2.2.1⟩],[],[lT en y.1],[⟨9,y.2.2.2.1,33,8,y.2.1.length,y.2.2.1⟩,j4 ts],20,y.2.2.2.2⟩)
    (fun y=>an m3 y.2.2.2.2/\Inv ts y.1/\s.i<=y.1.i/\y.2.1.length<=y.1.i+1/\y.2.2.1.length=y.2.1.length * 8/\ea y.2.2.2.2 y.2.1 y.2.2.1/\∀a s',Res ts en y.1 (wV y.2.1 (ts.drop y.1.i)) a s' ->Res ts en s (jw (ts.drop s.i)) a s')
    (fun y=>ts.length - y.1.i) (s3,[e],x.cs,0,m3) (fun _ _=>dL rfl) (fun y hy=>hy.1) ?_ ?_ ?_
   ·simp only[go_sem];exact rfl
   ·exact⟨.inl rfl,hR3.inv,kL,by simp,by simp [Nd.cs],kq hx,fun a s' h=>by
     rw[G8];refine dI hI ?_;rw[<- ar,ae hc]
     exact aR hR3 h⟩
   ·rintro⟨s4,es,xs,u,m4⟩ ⟨q1,q2,q3,q4,q5,q6,q7⟩;dsimp only at q1 q2 q3 q4 q5 q6 q7;have hl:=hT.len;have dM:=q2.le;have ha:=td ts en s4 [44] m4 hT.l8;by_cases h1:ah ts s4.i [44]=true
    ·rw[h1] at ha;have hi:=aJ h1;have fU:=q2.next hi;have xV:∀m' :Mem,FnH Tryz.prog 31 [.box 0 0,.v (.int .i64 0)] (pH ts en s4.next) m' (gu ts en s4.next (cj 0 (ts.drop s4.next.i)) m'):=hE s4.next fU (Nat.le_succ_of_le q3);clear hE;simp only[go_sem];refine ab (ha.mono ?_);clear ha;rintro r H' m5 cW ⟨l5,rfl,rfl⟩;simp only[go_sem];refine ab ((xV m5).mono ?_);clear xV;rintro r H' m6 fb ⟨l6,x6,e6,s6,rfl,hx6,rfl,hR6⟩;simp only[go_sem];have hm:=hR6.mono;have rP:s4.next.i=s4.i+1:=rfl;refine⟨fK (by omega) (by decide),(s6,es++[e6],xs++x6.cs,u+1,m6),⟨rfl,⟨rfl,rfl,rfl⟩,⟨rfl,by simp,rfl⟩,.inl rfl⟩,⟨aa q1 (aa l5 l6),hR6.inv,by dsimp only;omega,by simp only[bM,fr];omega,by simp only[bM,fr,q5,Nd.cs,cv,eM];omega,G2 hx6 q5 (uW (aa l5 l6) q6),fun a s' h=>q7 a s' ?_⟩,by dsimp only;omega⟩;rw[Ay,aj (by rw[<- ar];exact h1),<- bD];exact bO q2 hi (aR hR6 h)
    ·have Cu:ah ts s4.i [44]=false:=by simpa using h1
     rw[Cu] at ha;have he:=fun m' =>eV ts en s4 [41] m' hT.l8
     clear hE;simp only[go_sem];refine ab (ha.mono ?_);clear ha;rintro r H' m5 cW ⟨l5,rfl,rfl⟩;simp only[go_sem];refine ab ((he m5).mono ?_);clear he;rintro r H' m6 fb ⟨l6,rfl,rfl⟩;simp only[go_sem];refine AE (b:=⟨9,u,33,8,es.length,xs⟩) (by simp [cN]) (pH ts en (aU ts en s4 [41])) (List.Sublist.refl _) (.cons_cons _ (List.nil_sublist _)) fun a c mm w1 w2 w3=>⟨aa (aa (aa (aa l1 l2) l3) q1) (aa (aa l5 l6) (.inr w1)),es,a,c,xs,_,rfl,w2,by omega,w3,uW (aa (aa l5 l6) (.inr w1)) q6,rfl,q7 _ _ ?_⟩
     rw[Ay,ae (by rw[<- ar];exact h1)];exact dI q2 (bY _ (ff q2))
end
section
variable {ts:List Tk} {en:Int} {s:PSt}
theorem dA {w:List UInt8} (hT:TsB ts) (h:ah ts s.i w=true) (m:Mem):FnH Tryz.prog 49 [.box 0 0,.v (.string (bs w))] (pH ts en s) m fun r H' m' =>an m m' /\r= .v (.bool true)/\H' =pH ts en s.next:=
 (td ts en s w m hT.l8).mono fun r H' m2 _ q=>⟨q.1,by have:=q.2.1;rw[h] at this;exact this,by have:=q.2.2;rw[aj h] at this;exact this⟩
theorem dC {w:List UInt8} (hT:TsB ts) (h:¬ah ts s.i w=true) (m:Mem):FnH Tryz.prog 49 [.box 0 0,.v (.string (bs w))] (pH ts en s) m fun r H' m' =>an m m' /\r= .v (.bool false)/\H' =pH ts en s:=
 (td ts en s w m hT.l8).mono fun r H' m2 _ q=>⟨q.1,by have:=q.2.1;rw[(by simpa using h:ah ts s.i w=false)] at this;exact this,by have:=q.2.2;rw[ae h] at this;exact this⟩
theorem mi {w:List UInt8} (hT:TsB ts) (h:ah ts s.i w=true) (m:Mem):FnH Tryz.prog 74 [.box 0 0,.v (.string (bs w))] (pH ts en s) m fun r H' m' =>an m m' /\r= .v (.bool true)/\H' =pH ts en s:=
 (Dh ts en s w m hT.l8).mono fun r H' m2 _ q=>⟨q.1,by have:=q.2.1;rw[h] at this;exact this,q.2.2⟩
theorem mo {w:List UInt8} (hT:TsB ts) (h:¬ah ts s.i w=true) (m:Mem):FnH Tryz.prog 74 [.box 0 0,.v (.string (bs w))] (pH ts en s) m fun r H' m' =>an m m' /\r= .v (.bool false)/\H' =pH ts en s:=
 (Dh ts en s w m hT.l8).mono fun r H' m2 _ q=>⟨q.1,by have:=q.2.1;rw[(by simpa using h:ah ts s.i w=false)] at this;exact this,q.2.2⟩
theorem Yx {α:Type} {K:PR α} {a:α} {s' :PSt} (h:Res ts en s K a s') (hI:Inv ts s) (hi:s.i<ts.length) (hK:∀x r,K= .ok (x,r)->r.length<(ts.drop s.i).length):s.i<s'.i:=by
 have hf:=hI.nfl hi;cases e:K with
 |error r=>
  have:=h.inv.fl (h.er hf r e).1;omega
 |ok p=>
  obtain⟨x,r⟩:=p;obtain⟨_,_,rfl⟩:=h.ok hf x r e;have:=hK x _ e;simp only[cH] at this;omega
def Ez (l:List Tk):PR Ex:=if mM l=3 then .ok (.mk 1 (uE l) [] [] ai [],l.tail) else if mM l=4 then .ok (.mk 2 (uE l) [] [] ai [],l.tail) else .ok (.mk 3 0 (kQ l) [] ai [],l.tail)
noncomputable def OS (l:List Tk):PR Ex:=av (fw l) fun c r=>aW [46] r fun r2=>av (dr r2) fun s r3=>if aC [40] r3=true then av (jw r3) fun es r4=> .ok (.mk 11 0 s c ai es,r4) else .ok (.mk 8 0 s c ai [],r3)
noncomputable def abA (l:List Tk):PR Ex:=aW [46] l fun r=>av (dr r) fun s r2=>av (jw r2) fun es r3=> .ok (.mk 12 0 s [] ai es,r3)
noncomputable def Iw (l:List Tk):PR Ex:=av (jX l) fun t r=>
 if t.base=76/\aC [40] r=true then av (jw r) fun es r2=> .ok (.mk 13 0 [] t.name ai es,r2)
 else aW [91] r fun r2=>av (ub t r2) fun t2 r3=>av (cj 0 r3) fun e r4=>aW [93] r4 fun r5=> .ok (.mk 14 0 [] [] t2 [e],r5)
noncomputable def aaE (k:Int) (l:List Tk):PR Ex:=av (gf l) fun e r=> .ok (.mk k 0 [] [] ai [e],r)
theorem SG (hT:TsB ts) (hI:Inv ts s) (m:Mem):FnH Tryz.prog 206 [.box 0 0] (pH ts en s) m (gu ts en s (av (dr (ts.drop s.i)) fun w r=> .ok (.mk 6 0 w [] ai [],r)) m):=by
 have h1:=fun m' =>qF ts en s m' hT hI
 refine aL ay Tryz.func206 ?_
 ·simp only[go_sem];refine ab ((h1 m).mono ?_);clear h1;rintro r H' m1 aN ⟨l1,w,s1,rfl,hw,rfl,hR⟩;simp only[go_sem];exact⟨l1,⟨6,0,w,[],ai,none,0,0⟩,.mk 6 0 w [] ai [],s1,rfl,lY ⟨by decide,by decide⟩ ⟨by decide,by decide⟩ hw (au _) cI,rfl,aR hR (bY _ hR.inv)⟩
theorem Hw (hT:TsB ts) (k:Int) (hk:az k) (hP:Ea ts en s) (m:Mem):FnH Tryz.prog 239 [.box 0 0,.v (.int .i64 k)] (pH ts en s) m (gu ts en s (aaE k (ts.drop s.i)) m):=by
 refine iA (aL ay Tryz.func239 ?_)
 ·simp only[go_sem];refine ab ((hP m).mono ?_);clear hP;rintro r H' m1 aN ⟨l1,x,e,s1,rfl,hx,rfl,hR⟩;simp only[go_sem];exact qM 7 rfl rfl (pH ts en s1) (List.Sublist.refl _) (.cons _ (List.Sublist.refl _)) fun a cp mm w1 w2 w3=>⟨aa l1 (.inr w1),⟨k,0,[],[],ai,a,1,cp⟩,.mk k 0 [] [] ai [e],s1,rfl,fC (es:=[e]) hk ⟨by decide,by decide⟩ (au _) (au _) cI (by simp) w2 w3 (kq (aZ (.inr w1) hx)),rfl,aR hR (bY _ hR.inv)⟩
theorem Rp (hT:TsB ts) (hI:Inv ts s) (hi:s.i<ts.length) (m:Mem):FnH Tryz.prog 205 [.box 0 0] (pH ts en s) m (gu ts en s (Ez (ts.drop s.i)) m):=by
 have hp:=yw ts en s m hT.l8;have hl:=hT.len;have hn:=hT.cn s.i;have hs:=hT.cs s.i;rw[Ez,nQ,ND,kf,<- bD];refine aL ay Tryz.func205 ?_
 ·simp only[go_sem];refine ab (hp.mono ?_);clear hp;rintro r H' m1 aN ⟨rfl,rfl⟩;simp only[go_sem];refine⟨by unfold az;omega,fun h3=> ?_,fun h3=>⟨fun h4=> ?_,fun h4=> ?_⟩⟩
  ·rw[aj h3];exact⟨.inr aN,⟨1,(aO ts s.i).n,[],[],ai,none,0,0⟩,_,s.next,rfl,lY ⟨by decide,by decide⟩ hn (au _) (au _) cI,rfl,bO hI hi (bY _ (hI.next hi))⟩
  ·rw[ae h3,aj h4];exact⟨.inr aN,⟨2,(aO ts s.i).n,[],[],ai,none,0,0⟩,_,s.next,rfl,lY ⟨by decide,by decide⟩ hn (au _) (au _) cI,rfl,bO hI hi (bY _ (hI.next hi))⟩
  ·rw[ae h3,ae h4];exact⟨.inr aN,⟨3,0,(aO ts s.i).s,[],ai,none,0,0⟩,_,s.next,rfl,lY ⟨by decide,by decide⟩ ⟨by decide,by decide⟩ hs (au _) cI,rfl,bO hI hi (bY _ (hI.next hi))⟩
theorem Th (hT:TsB ts) (hI:Inv ts s) (hc:ee (ts.drop s.i)=true) (hA:∀s1,Inv ts s1->s.i<s1.i->vu ts en s1) (m:Mem):FnH Tryz.prog 207 [.box 0 0] (pH ts en s) m (gu ts en s (OS (ts.drop s.i)) m):=by
 have h1:=fun m' =>oN ts en s m' hT hI
 have hi:=DN hc;refine aL ay Tryz.func207 ?_
 ·simp only[go_sem];refine ab ((h1 m).mono ?_);clear h1;rintro r H' m1 aN ⟨l1,c,s1,rfl,bW,rfl,dR⟩;simp only[go_sem];have ao:s.i<s1.i:=Yx dR hI hi fun x r e=>by
   rw[fw,aj hc] at e;cases e;have cP:ts.drop s.i≠[]:=fun e=>by rw[e] at hc;cases hc
   exact dZ cP
  have h2:=fun m' =>eV ts en s1 [46] m' hT.l8
  have xU:Inv ts (aU ts en s1 [46]):=ff dR.inv;have aY:s1.i<=(aU ts en s1 [46]).i:=gC dR.inv;have h3:=fun m' =>qF ts en (aU ts en s1 [46]) m' hT xU
  refine ab ((h2 m1).mono ?_);clear h2;rintro r H' m2 aH ⟨l2,rfl,rfl⟩;simp only[go_sem];refine ab ((h3 m2).mono ?_);clear h3;rintro r H' m3 bN ⟨l3,w,s3,rfl,hw,rfl,hR3⟩;simp only[go_sem];have kL:=hR3.mono;by_cases db:ah ts s3.i [40]=true
  ·have h4:=mi (en:=en) hT db;have h5:=hA s3 hR3.inv (by omega);clear hA;refine ab ((h4 m3).mono ?_);clear h4;rintro r H' m4 dd ⟨l4,rfl,rfl⟩;simp only[go_sem];refine ab ((h5 m4).mono ?_);clear h5;rintro r H' m5 cW ⟨l5,es,a,cp,xs,s5,rfl,ha1,ha2,ha3,ha4,rfl,hR5⟩;simp only[go_sem];refine⟨(aa (aa (aa (aa l1 l2) l3) l4) l5),⟨11,0,w,c,ai,a,es.length,cp⟩,.mk 11 0 w c ai es,s5,rfl,fC ⟨by decide,by decide⟩ ⟨by decide,by decide⟩ hw bW cI (Nat.le_succ_of_le ha2) ha1 ha3 ha4,rfl,?_⟩;refine aR dR (dI dR.inv (aR hR3 ?_));rw[aj (by rw[<- ar];exact db)];exact aR hR5 (bY _ hR5.inv)
  ·have h4:=mo (en:=en) hT db;clear hA;refine ab ((h4 m3).mono ?_);clear h4;rintro r H' m4 dd ⟨l4,rfl,rfl⟩;simp only[go_sem];refine⟨(aa (aa (aa l1 l2) l3) l4),⟨8,0,w,c,ai,none,0,0⟩,.mk 8 0 w c ai [],s3,rfl,lY ⟨by decide,by decide⟩ ⟨by decide,by decide⟩ hw bW cI,rfl,?_⟩;refine aR dR (dI dR.inv (aR hR3 ?_));rw[ae (by rw[<- ar];exact db)];exact bY _ hR3.inv
theorem WC (hT:TsB ts) (hI:Inv ts s) (hA:∀s1,Inv ts s1->s.i<=s1.i->vu ts en s1) (m:Mem):FnH Tryz.prog 237 [.box 0 0] (pH ts en s) m (gu ts en s (abA (ts.drop s.i)) m):=by
 have h2:=fun m' =>eV ts en s [46] m' hT.l8
 have xU:Inv ts (aU ts en s [46]):=ff hI;have aY:s.i<=(aU ts en s [46]).i:=gC hI;have h3:=fun m' =>qF ts en (aU ts en s [46]) m' hT xU
 refine aL ay Tryz.func237 ?_
 ·simp only[go_sem];refine ab ((h2 m).mono ?_);clear h2;rintro r H' m1 aN ⟨l1,rfl,rfl⟩;simp only[go_sem];refine ab ((h3 m1).mono ?_);clear h3;rintro r H' m2 aH ⟨l2,w,s3,rfl,hw,rfl,hR3⟩;simp only[go_sem];have kL:=hR3.mono;have h5:=hA s3 hR3.inv (by omega);clear hA;refine ab ((h5 m2).mono ?_);clear h5;rintro r H' m3 bN ⟨l3,es,a,cp,xs,s5,rfl,ha1,ha2,ha3,ha4,rfl,hR5⟩;simp only[go_sem];exact⟨(aa (aa l1 l2) l3),⟨12,0,w,[],ai,a,es.length,cp⟩,.mk 12 0 w [] ai es,s5,rfl,fC ⟨by decide,by decide⟩ ⟨by decide,by decide⟩ hw (au _) cI (Nat.le_succ_of_le ha2) ha1 ha3 ha4,rfl,dI hI (aR hR3 (aR hR5 (bY _ hR5.inv)))⟩
end
@[reducible] def uq (k:Nat):Bx:=⟨k,33,[.v (.int .i64 0),.v (.int .i64 0),.v (.string (bs [])),.v (.string (bs [])),.v (.int .i64 0),.v (.int .u8 0),.v (.string (bs [])),.v (.slice none 0 0)]⟩
attribute [go_sem] uq
noncomputable def Ew (t2:Ty) (r3:List Tk):PR Ex:=av (cj 0 r3) fun e r4=>aW [93] r4 fun r5=> .ok (.mk 14 0 [] [] t2 [e],r5)
theorem Hx {α β:Type} {w:List UInt8} {l:List Tk} {k:List Tk->PR α} {F:α->List Tk->PR β}:av (aW w l k) F=aW w l fun r=>av (k r) F:=by
 unfold aW;split<;>rfl
section
variable {ts:List Tk} {en:Int} {s:PSt}
theorem RX (hT:TsB ts) (hI:Inv ts s) (hA:∀s1,Inv ts s1->s.i<=s1.i->vu ts en s1) (hE:∀s1,Inv ts s1->s.i<=s1.i->ov ts en 0 s1) (m:Mem):FnH Tryz.prog 238 [.box 0 0] (pH ts en s) m (gu ts en s (Iw (ts.drop s.i)) m):=by
 have h1:=fun m' =>Kv ts en s m' hT hI
 refine iA (aL ay Tryz.func238 ?_)
 ·simp only[go_sem];refine ab ((h1 m).mono ?_);clear h1;rintro r H' m1 aN ⟨l1,t1,s1,rfl,ht1,ht2,ht3,rfl,dR⟩;simp only[go_sem];have sM:=dR.mono;refine⟨fun hb=> ?_,fun hb=> ?_⟩
  ·by_cases db:ah ts s1.i [40]=true
   ·have h2:=mi (en:=en) hT db;have h3:=hA s1 dR.inv sM;clear hA hE;refine ab ((h2 m1).mono ?_);clear h2;rintro r H' m2 aH ⟨l2,rfl,rfl⟩;simp only[go_sem];refine cg (.hoist 0 (.hoist 1 (.hoist 2 (.alt 3 [1,0] (.hoist 4 (.alt 5 [] .done .stop)) .stop)))) ay (by kernel_rfl) (by kernel_rfl) ?_;simp only[go_sem];refine ab ((h3 m2).mono ?_);clear h3;rintro r H' m3 bN ⟨l3,es,a,cp,xs,s5,rfl,ha1,ha2,ha3,ha4,rfl,hR5⟩;simp only[go_sem];refine⟨⟨l3,l3⟩,.inl ⟨(aa (aa l1 l2) l3),⟨13,0,[],t1.name,ai,a,es.length,cp⟩,.mk 13 0 [] t1.name ai es,s5,rfl,fC ⟨by decide,by decide⟩ ⟨by decide,by decide⟩ (au _) ht3 cI (Nat.le_succ_of_le ha2) ha1 ha3 ha4,rfl,?_⟩⟩;refine aR dR ?_;rw[aj ⟨hb,by rw[<- ar];exact db⟩];exact aR hR5 (bY _ hR5.inv)
   ·have h2:=mo (en:=en) hT db;refine ab ((h2 m1).mono ?_);clear h2;rintro r H' m2 aH ⟨l2,rfl,rfl⟩;simp only[go_sem];have h2:=fun m' =>eV ts en s1 [91] m' hT.l8
    have xU:Inv ts (aU ts en s1 [91]):=ff dR.inv;have aY:s1.i<=(aU ts en s1 [91]).i:=gC dR.inv;clear hA;refine ab ((h2 m2).mono ?_);clear h2;rintro r H' m3 bN ⟨l3,rfl,rfl⟩;simp only[go_sem];refine cO ay (fun y:PSt×Ty×Mem=>⟨[⟨0,[],.box 0 0⟩,⟨2,[],.box 2 0⟩,⟨3,[],.box 5 0⟩],[],[⟨5,30,[.v (.int .i64 y.2.1.dim),.v (.int .u8 y.2.1.base),.v (.string (bs y.2.1.name))]⟩,lT en y.1,uq 2],[j4 ts],40,y.2.2⟩)
     (fun y=>an m3 y.2.2/\Inv ts y.1/\s.i<=y.1.i/\y.2.1.name.length<=1000000/\(0<=y.2.1.base/\y.2.1.base<256)/\(0<=y.2.1.dim/\y.2.1.dim<=y.1.i)/\∀a s',Res ts en y.1 (av (ub y.2.1 (ts.drop y.1.i)) Ew) a s' ->Res ts en s (Iw (ts.drop s.i)) a s')
     (fun y=>ts.length - y.1.i) (aU ts en s1 [91],t1,m3) (fun _ _=>dL rfl) (fun y hy=>hy.1) ?_ ?_ ?_
    ·simp only[go_sem]
    ·exact⟨.inl rfl,xU,by dsimp only;omega,ht3,ht2,⟨by dsimp only;omega,by dsimp only;omega⟩,fun a s' h=>aR dR (by rw[ae (fun q=>db (by rw[ar];exact q.2))];exact dI dR.inv h)⟩
    ·rintro⟨s4,t4,m4⟩ ⟨q1,q2,q3,q4,q5,q6,q7⟩;dsimp only at q1 q2 q3 q4 q5 q6 q7;have hl:=hT.len;have dM:=q2.le;by_cases iy:ah ts s4.i [93]=true
     ·have ha:=dA (en:=en) hT iy;have hi:=aJ iy;have fU:=q2.next hi;have he:=fun m' =>eV ts en s4.next [91] m' hT.l8
      have xT:Inv ts (aU ts en s4.next [91]):=ff fU;have sL:s4.i+1<=(aU ts en s4.next [91]).i:=gC fU;clear hE;simp only[go_sem];refine ab ((ha m4).mono ?_);clear ha;rintro r H' m5 cW ⟨l5,rfl,rfl⟩;simp only[go_sem];refine⟨by unfold az;omega,by kernel_rfl,dh ((he m5).mono ?_)⟩;clear he;rintro r H' m6 fb ⟨l6,rfl,rfl⟩;simp only[go_sem];refine⟨(aU ts en s4.next [91],t4.up,m6),⟨⟨⟨rfl,rfl,rfl⟩,⟨rfl,rfl,rfl⟩⟩,.inl rfl⟩,⟨aa q1 (aa l5 l6),xT,by dsimp only;omega,q4,q5,⟨by show 0<=t4.dim+1;omega,by show t4.dim+1<=((aU ts en s4.next [91]).i:Int);omega⟩,fun a s' h=>q7 a s' ?_⟩,by dsimp only;omega⟩;rw[AF,aj (by rw[<- ar];exact iy),<- bD,Hx];exact bO q2 hi (dI fU h)
     ·have ha:=dC (en:=en) hT iy;have he:=hE s4 q2 q3;have Ck:∀m' :Mem,FnH Tryz.prog 31 [.box 0 0,.v (.int .i64 0)] (pH ts en s4) m' (gu ts en s4 (cj 0 (ts.drop s4.i)) m'):=he;clear hE he;simp only[go_sem];refine ab ((ha m4).mono ?_);clear ha;rintro r H' m5 cW ⟨l5,rfl,rfl⟩;simp only[go_sem];refine ab ((Ck m5).mono ?_);clear Ck;rintro r H' m6 fb ⟨l6,x,e,s6,rfl,hx,rfl,hR6⟩;have h7:=fun m' =>eV ts en s6 [93] m' hT.l8
      simp only[go_sem];refine ab ((h7 m6).mono ?_);clear h7;rintro r H' m7 gM ⟨l7,rfl,rfl⟩;simp only[go_sem];exact qM 7 rfl rfl (pH ts en (aU ts en s6 [93])) (List.Sublist.refl _) (.cons _ (List.Sublist.refl _)) fun a cp mm w1 w2 w3=>⟨aa (aa (aa (aa l1 l2) l3) (aa q1 (aa l5 (aa l6 l7)))) (.inr w1),⟨14,0,[],[],t4,a,1,cp⟩,.mk 14 0 [] [] t4 [e],(aU ts en s6 [93]),rfl,fC (es:=[e]) ⟨by decide,by decide⟩ ⟨by decide,by decide⟩ (au _) (au _) ⟨by unfold az;omega,q5,by unfold aA;omega⟩ (by simp) w2 w3 (kq (aZ (aa l7 (.inr w1)) hx)),rfl,q7 _ _ (by rw[AF,ae (by rw[<- ar];exact iy)];exact aR (bY t4 q2) (aR hR6 (dI hR6.inv (bY _ (ff hR6.inv)))))⟩
  ·have h2:=fun m' =>eV ts en s1 [91] m' hT.l8
   have xU:Inv ts (aU ts en s1 [91]):=ff dR.inv;have aY:s1.i<=(aU ts en s1 [91]).i:=gC dR.inv;clear hA;refine ab ((h2 m1).mono ?_);clear h2;rintro r H' m2 aH ⟨l2,rfl,rfl⟩;simp only[go_sem];refine cO ay (fun y:PSt×Ty×Mem=>⟨[⟨0,[],.box 0 0⟩,⟨2,[],.box 2 0⟩,⟨3,[],.box 5 0⟩],[],[⟨5,30,[.v (.int .i64 y.2.1.dim),.v (.int .u8 y.2.1.base),.v (.string (bs y.2.1.name))]⟩,lT en y.1,uq 2],[j4 ts],40,y.2.2⟩)
    (fun y=>an m2 y.2.2/\Inv ts y.1/\s.i<=y.1.i/\y.2.1.name.length<=1000000/\(0<=y.2.1.base/\y.2.1.base<256)/\(0<=y.2.1.dim/\y.2.1.dim<=y.1.i)/\∀a s',Res ts en y.1 (av (ub y.2.1 (ts.drop y.1.i)) Ew) a s' ->Res ts en s (Iw (ts.drop s.i)) a s')
    (fun y=>ts.length - y.1.i) (aU ts en s1 [91],t1,m2) (fun _ _=>dL rfl) (fun y hy=>hy.1) ?_ ?_ ?_
   ·simp only[go_sem]
   ·exact⟨.inl rfl,xU,by dsimp only;omega,ht3,ht2,⟨by dsimp only;omega,by dsimp only;omega⟩,fun a s' h=>aR dR (by rw[ae (fun q=>hb q.1)];exact dI dR.inv h)⟩
   ·rintro⟨s4,t4,m4⟩ ⟨q1,q2,q3,q4,q5,q6,q7⟩;dsimp only at q1 q2 q3 q4 q5 q6 q7;have hl:=hT.len;have dM:=q2.le;by_cases iy:ah ts s4.i [93]=true
    ·have ha:=dA (en:=en) hT iy;have hi:=aJ iy;have fU:=q2.next hi;have he:=fun m' =>eV ts en s4.next [91] m' hT.l8
     have xT:Inv ts (aU ts en s4.next [91]):=ff fU;have sL:s4.i+1<=(aU ts en s4.next [91]).i:=gC fU;clear hE;simp only[go_sem];refine ab ((ha m4).mono ?_);clear ha;rintro r H' m5 cW ⟨l5,rfl,rfl⟩;simp only[go_sem];refine⟨by unfold az;omega,by kernel_rfl,dh ((he m5).mono ?_)⟩;clear he;rintro r H' m6 fb ⟨l6,rfl,rfl⟩;simp only[go_sem];refine⟨(aU ts en s4.next [91],t4.up,m6),⟨⟨⟨rfl,rfl,rfl⟩,⟨rfl,rfl,rfl⟩⟩,.inl rfl⟩,⟨aa q1 (aa l5 l6),xT,by dsimp only;omega,q4,q5,⟨by show 0<=t4.dim+1;omega,by show t4.dim+1<=((aU ts en s4.next [91]).i:Int);omega⟩,fun a s' h=>q7 a s' ?_⟩,by dsimp only;omega⟩;rw[AF,aj (by rw[<- ar];exact iy),<- bD,Hx];exact bO q2 hi (dI fU h)
    ·have ha:=dC (en:=en) hT iy;have he:=hE s4 q2 q3;have Ck:∀m' :Mem,FnH Tryz.prog 31 [.box 0 0,.v (.int .i64 0)] (pH ts en s4) m' (gu ts en s4 (cj 0 (ts.drop s4.i)) m'):=he;clear hE he;simp only[go_sem];refine ab ((ha m4).mono ?_);clear ha;rintro r H' m5 cW ⟨l5,rfl,rfl⟩;simp only[go_sem];refine ab ((Ck m5).mono ?_);clear Ck;rintro r H' m6 fb ⟨l6,x,e,s6,rfl,hx,rfl,hR6⟩;have h7:=fun m' =>eV ts en s6 [93] m' hT.l8
     simp only[go_sem];refine ab ((h7 m6).mono ?_);clear h7;rintro r H' m7 gM ⟨l7,rfl,rfl⟩;simp only[go_sem];exact qM 7 rfl rfl (pH ts en (aU ts en s6 [93])) (List.Sublist.refl _) (.cons _ (List.Sublist.refl _)) fun a cp mm w1 w2 w3=>⟨aa (aa (aa l1 l2) (aa q1 (aa l5 (aa l6 l7)))) (.inr w1),⟨14,0,[],[],t4,a,1,cp⟩,.mk 14 0 [] [] t4 [e],(aU ts en s6 [93]),rfl,fC (es:=[e]) ⟨by decide,by decide⟩ ⟨by decide,by decide⟩ (au _) (au _) ⟨by unfold az;omega,q5,by unfold aA;omega⟩ (by simp) w2 w3 (kq (aZ (aa l7 (.inr w1)) hx)),rfl,q7 _ _ (by rw[AF,ae (by rw[<- ar];exact iy)];exact aR (bY t4 q2) (aR hR6 (dI hR6.inv (bY _ (ff hR6.inv)))))⟩
end
section
variable {ts:List Tk} {en:Int} {s:PSt}
theorem SK (hT:TsB ts) (hI:Inv ts s) (hA:∀s1,Inv ts s1->s.i<s1.i->vu ts en s1) (hP:∀s1,Inv ts s1->s.i<s1.i->Ea ts en s1) (hE:∀s1,Inv ts s1->s.i<s1.i->ov ts en 0 s1) (m:Mem):FnH Tryz.prog 204 [.box 0 0] (pH ts en s) m (gu ts en s (lK (ts.drop s.i)) m):=by
 refine aL ay Tryz.func204 ?_
 ·simp only[go_sem];by_cases h0:ah ts s.i [110,117,108,108]=true
  ·have ha:=dA (en:=en) hT h0;have hi:=aJ h0;have fq:=hI.next hi;clear hA hP hE;refine ab ((ha m).mono ?_);clear ha;rintro r H' m1 aN ⟨l1,rfl,rfl⟩;simp only[go_sem];exact⟨l1,⟨4,0,[],[],ai,none,0,0⟩,_,s.next,rfl,lY ⟨by decide,by decide⟩ ⟨by decide,by decide⟩ (au _) (au _) cI,rfl,by rw[kV,aj (by rw[<- ar];exact h0),<- bD];exact bO hI hi (bY _ fq)⟩
  ·have ha:=dC (en:=en) hT h0;refine ab ((ha m).mono ?_);clear ha;rintro r H' m1 aN ⟨l1,rfl,rfl⟩;simp only[go_sem];by_cases h1:ah ts s.i [116,104,105,115]=true
   ·have ha:=dA (en:=en) hT h1;have hi:=aJ h1;have fq:=hI.next hi;clear hA hP hE;refine ab ((ha m1).mono ?_);clear ha;rintro r H' m2 aH ⟨l2,rfl,rfl⟩;simp only[go_sem];exact⟨(aa l1 l2),⟨5,0,[],[],ai,none,0,0⟩,_,s.next,rfl,lY ⟨by decide,by decide⟩ ⟨by decide,by decide⟩ (au _) (au _) cI,rfl,by rw[kV,ae (by rw[<- ar];exact h0),aj (by rw[<- ar];exact h1),<- bD];exact bO hI hi (bY _ fq)⟩
   ·have ha:=dC (en:=en) hT h1;refine ab ((ha m1).mono ?_);clear ha;rintro r H' m2 aH ⟨l2,rfl,rfl⟩;simp only[go_sem];by_cases h2:ah ts s.i [115,117,112,101,114]=true
    ·have ha:=dA (en:=en) hT h2;have hi:=aJ h2;have fq:=hI.next hi;have hs:=WC (s:=s.next) (en:=en) hT fq (fun s1 g1 g2=>hA s1 g1 (ej (Nat.lt_succ_self _) g2));clear hA hP hE;refine ab ((ha m2).mono ?_);clear ha;rintro r H' m3 bN ⟨l3,rfl,rfl⟩;simp only[go_sem];refine ab ((hs m3).mono ?_);clear hs;rintro r H' m4 dd ⟨l4,x,e,s1,rfl,hx,rfl,hR⟩;simp only[go_sem];exact⟨(aa (aa (aa l1 l2) l3) l4),x,e,s1,rfl,hx,rfl,by rw[kV,ae (by rw[<- ar];exact h0),ae (by rw[<- ar];exact h1),aj (by rw[<- ar];exact h2),<- bD];exact bO hI hi hR⟩
    ·have ha:=dC (en:=en) hT h2;refine ab ((ha m2).mono ?_);clear ha;rintro r H' m3 bN ⟨l3,rfl,rfl⟩;simp only[go_sem];by_cases h3:ah ts s.i [110,101,119]=true
     ·have ha:=dA (en:=en) hT h3;have hi:=aJ h3;have fq:=hI.next hi;have hs:=RX (s:=s.next) (en:=en) hT fq (fun s1 g1 g2=>hA s1 g1 (ej (Nat.lt_succ_self _) g2)) (fun s1 g1 g2=>hE s1 g1 (ej (Nat.lt_succ_self _) g2));clear hA hP hE;refine ab ((ha m3).mono ?_);clear ha;rintro r H' m4 dd ⟨l4,rfl,rfl⟩;simp only[go_sem];refine ab ((hs m4).mono ?_);clear hs;rintro r H' m5 cW ⟨l5,x,e,s1,rfl,hx,rfl,hR⟩;simp only[go_sem];exact⟨(aa (aa (aa (aa l1 l2) l3) l4) l5),x,e,s1,rfl,hx,rfl,by rw[kV,ae (by rw[<- ar];exact h0),ae (by rw[<- ar];exact h1),ae (by rw[<- ar];exact h2),aj (by rw[<- ar];exact h3),<- bD];exact bO hI hi hR⟩
     ·have ha:=dC (en:=en) hT h3;refine ab ((ha m3).mono ?_);clear ha;rintro r H' m4 dd ⟨l4,rfl,rfl⟩;simp only[go_sem];by_cases h4:ah ts s.i [108,101,110]=true
      ·have ha:=dA (en:=en) hT h4;have hi:=aJ h4;have fq:=hI.next hi;have hs:=Hw (s:=s.next) (en:=en) hT 19 ⟨by decide,by decide⟩ (hP s.next fq (Nat.lt_succ_self _));clear hA hP hE;refine ab ((ha m4).mono ?_);clear ha;rintro r H' m5 cW ⟨l5,rfl,rfl⟩;simp only[go_sem];refine ab ((hs m5).mono ?_);clear hs;rintro r H' m6 fb ⟨l6,x,e,s1,rfl,hx,rfl,hR⟩;simp only[go_sem];exact⟨(aa (aa (aa (aa (aa l1 l2) l3) l4) l5) l6),x,e,s1,rfl,hx,rfl,by rw[kV,ae (by rw[<- ar];exact h0),ae (by rw[<- ar];exact h1),ae (by rw[<- ar];exact h2),ae (by rw[<- ar];exact h3),aj (by rw[<- ar];exact h4),<- bD];exact bO hI hi hR⟩
      ·have ha:=dC (en:=en) hT h4;refine ab ((ha m4).mono ?_);clear ha;rintro r H' m5 cW ⟨l5,rfl,rfl⟩;simp only[go_sem];by_cases h5:ah ts s.i iI=true
       ·have ha:=dA (en:=en) hT h5;have hi:=aJ h5;have fq:=hI.next hi;have hs:=Hw (s:=s.next) (en:=en) hT 20 ⟨by decide,by decide⟩ (hP s.next fq (Nat.lt_succ_self _));clear hA hP hE;refine ab ((ha m5).mono ?_);clear ha;rintro r H' m6 fb ⟨l6,rfl,rfl⟩;simp only[go_sem];refine ab ((hs m6).mono ?_);clear hs;rintro r H' m7 gM ⟨l7,x,e,s1,rfl,hx,rfl,hR⟩;simp only[go_sem];exact⟨(aa (aa (aa (aa (aa (aa l1 l2) l3) l4) l5) l6) l7),x,e,s1,rfl,hx,rfl,by rw[kV,ae (by rw[<- ar];exact h0),ae (by rw[<- ar];exact h1),ae (by rw[<- ar];exact h2),ae (by rw[<- ar];exact h3),ae (by rw[<- ar];exact h4),aj (by rw[<- ar];exact h5),<- bD];exact bO hI hi hR⟩
       ·have ha:=dC (en:=en) hT h5;refine ab ((ha m5).mono ?_);clear ha;rintro r H' m6 fb ⟨l6,rfl,rfl⟩;simp only[go_sem];by_cases h6:ah ts s.i iE=true
        ·have ha:=dA (en:=en) hT h6;have hi:=aJ h6;have fq:=hI.next hi;have hs:=Hw (s:=s.next) (en:=en) hT 21 ⟨by decide,by decide⟩ (hP s.next fq (Nat.lt_succ_self _));clear hA hP hE;refine ab ((ha m6).mono ?_);clear ha;rintro r H' m7 gM ⟨l7,rfl,rfl⟩;simp only[go_sem];refine ab ((hs m7).mono ?_);clear hs;rintro r H' m8 ku ⟨l8,x,e,s1,rfl,hx,rfl,hR⟩;simp only[go_sem];exact⟨(aa (aa (aa (aa (aa (aa (aa l1 l2) l3) l4) l5) l6) l7) l8),x,e,s1,rfl,hx,rfl,by rw[kV,ae (by rw[<- ar];exact h0),ae (by rw[<- ar];exact h1),ae (by rw[<- ar];exact h2),ae (by rw[<- ar];exact h3),ae (by rw[<- ar];exact h4),ae (by rw[<- ar];exact h5),aj (by rw[<- ar];exact h6),<- bD];exact bO hI hi hR⟩
        ·have ha:=dC (en:=en) hT h6;refine ab ((ha m6).mono ?_);clear ha;rintro r H' m7 gM ⟨l7,rfl,rfl⟩;simp only[go_sem];have hf:=fun m' =>Aj ts en s m' hT.l8
         clear hA hP hE;refine ab ((hf m7).mono ?_);clear hf;rintro r H' m8 ku ⟨rfl,rfl,rfl⟩;simp only[go_sem];exact⟨(aa (aa (aa (aa (aa (aa l1 l2) l3) l4) l5) l6) l7),⟨0,0,[],[],ai,none,0,0⟩,.mk 0 0 [] [] ai [],_,rfl,lY ⟨by decide,by decide⟩ ⟨by decide,by decide⟩ (au _) (au _) cI,rfl,by rw[kV,ae (by rw[<- ar];exact h0),ae (by rw[<- ar];exact h1),ae (by rw[<- ar];exact h2),ae (by rw[<- ar];exact h3),ae (by rw[<- ar];exact h4),ae (by rw[<- ar];exact h5),ae (by rw[<- ar];exact h6)];exact Dg _ hI⟩
end
section
variable {ts:List Tk} {en:Int} {s:PSt}
theorem YR (hT:TsB ts) (h:eY (ts.drop s.i)=true) (m:Mem):FnH Tryz.prog 190 [.box 0 0] (pH ts en s) m fun r H' m' =>an m m' /\r= .v (.bool true)/\H' =pH ts en s:=
 (Fy ts en s m hT).mono fun r H' m2 _ q=>⟨q.1,by have:=q.2.1;rw[h] at this;exact this,q.2.2⟩
theorem YS (hT:TsB ts) (h:¬eY (ts.drop s.i)=true) (m:Mem):FnH Tryz.prog 190 [.box 0 0] (pH ts en s) m fun r H' m' =>an m m' /\r= .v (.bool false)/\H' =pH ts en s:=
 (Fy ts en s m hT).mono fun r H' m2 _ q=>⟨q.1,by have:=q.2.1;rw[(by simpa using h:eY (ts.drop s.i)=false)] at this;exact this,q.2.2⟩
theorem Ok (hT:TsB ts) (h:ee (ts.drop s.i)=true) (m:Mem):FnH Tryz.prog 126 [.box 0 0] (pH ts en s) m fun r H' m' =>an m m' /\r= .v (.bool true)/\H' =pH ts en s:=
 (Fz ts en s m hT).mono fun r H' m2 _ q=>⟨q.1,by have:=q.2.1;rw[h] at this;exact this,q.2.2⟩
theorem Ol (hT:TsB ts) (h:¬ee (ts.drop s.i)=true) (m:Mem):FnH Tryz.prog 126 [.box 0 0] (pH ts en s) m fun r H' m' =>an m m' /\r= .v (.bool false)/\H' =pH ts en s:=
 (Fz ts en s m hT).mono fun r H' m2 _ q=>⟨q.1,by have:=q.2.1;rw[(by simpa using h:ee (ts.drop s.i)=false)] at this;exact this,q.2.2⟩
theorem SD (hT:TsB ts) (hI:Inv ts s) (hA:∀s1,Inv ts s1->s.i<s1.i->vu ts en s1) (hE:∀s1,Inv ts s1->s.i<s1.i->ov ts en 0 s1) (hK:∀m,FnH Tryz.prog 204 [.box 0 0] (pH ts en s) m (gu ts en s (lK (ts.drop s.i)) m)) (m:Mem):
  FnH Tryz.prog 150 [.box 0 0] (pH ts en s) m (gu ts en s (nI (ts.drop s.i)) m):=by
 have hp:=yw ts en s m hT.l8;refine aL ay Tryz.func150 ?_
 ·simp only[go_sem];refine ab (hp.mono ?_);clear hp;rintro r H' m1 aN ⟨rfl,rfl⟩;simp only[go_sem];refine⟨fun hk=> ?_,fun hk=> ?_⟩
  ·have hi:s.i<ts.length:=by
    rcases Nat.lt_or_ge s.i ts.length with h |h
    ·exact h
    ·rw[wI h] at hk;exact absurd hk (by decide)
   have hl:=Rp (en:=en) hT hI hi;have e:nI (ts.drop s.i)=Ez (ts.drop s.i):=by
    rw[FH,Ez,nQ];by_cases h3:(aO ts s.i).k=3
    ·rw[aj h3,aj h3]
    ·by_cases h4:(aO ts s.i).k=4
     ·rw[ae h3,ae h3,aj h4,aj h4]
     ·rw[ae h3,ae h3,ae h4,ae h4,aj (by omega)]
   rw[e];clear hA hE hK;refine ab ((hl m1).mono ?_);clear hl;rintro r H' m2 aH ⟨l2,x,e,s1,rfl,hx,rfl,hR⟩;simp only[go_sem];exact⟨.inr (Of (.inr aN:an m m1) aH),x,e,s1,rfl,hx,rfl,hR⟩
  ·have e:nI (ts.drop s.i)=(if eY (ts.drop s.i)=true then av (dr (ts.drop s.i)) fun s r=> .ok (.mk 6 0 s [] ai [],r) else if ee (ts.drop s.i)=true then OS (ts.drop s.i) else if ah ts s.i [40]=true then gf (ts.drop s.i) else lK (ts.drop s.i)):=by
    rw[FH,nQ,ae (by omega),ae (by omega),ae (by omega),ar];rfl
   rw[e];by_cases h1:eY (ts.drop s.i)=true
   ·have ha:=YR (en:=en) hT h1;have hb:=SG (en:=en) hT hI;clear hA hE hK;rw[aj h1];refine ab ((ha m1).mono ?_);clear ha;rintro r H' m2 aH ⟨l2,rfl,rfl⟩;simp only[go_sem];refine ab ((hb m2).mono ?_);clear hb;rintro r H' m3 bN ⟨l3,x,e,s1,rfl,hx,rfl,hR⟩;simp only[go_sem];exact⟨aa (.inr aN) (aa l2 l3),x,e,s1,rfl,hx,rfl,hR⟩
   ·have ha:=YS (en:=en) hT h1;rw[ae h1];refine ab ((ha m1).mono ?_);clear ha;rintro r H' m2 aH ⟨l2,rfl,rfl⟩;simp only[go_sem];by_cases h2:ee (ts.drop s.i)=true
    ·have ha:=Ok (en:=en) hT h2;have hb:=Th (en:=en) hT hI h2 hA;clear hA hE hK;rw[aj h2];refine ab ((ha m2).mono ?_);clear ha;rintro r H' m3 bN ⟨l3,rfl,rfl⟩;simp only[go_sem];refine ab ((hb m3).mono ?_);clear hb;rintro r H' m4 dd ⟨l4,x,e,s1,rfl,hx,rfl,hR⟩;simp only[go_sem];exact⟨aa (.inr aN) (aa l2 (aa l3 l4)),x,e,s1,rfl,hx,rfl,hR⟩
    ·have ha:=Ol (en:=en) hT h2;rw[ae h2];refine ab ((ha m2).mono ?_);clear ha;rintro r H' m3 bN ⟨l3,rfl,rfl⟩;simp only[go_sem];by_cases h3:ah ts s.i [40]=true
     ·have hi:=aJ h3;have e4:aU ts en s [40]=s.next:=aj h3;have ha:=mi (en:=en) hT h3;have hb:=L8 (en:=en) hT hI (by rw[e4];exact hE s.next (hI.next hi) (Nat.lt_succ_self _));clear hA hE hK;rw[aj h3];refine ab ((ha m3).mono ?_);clear ha;rintro r H' m4 dd ⟨l4,rfl,rfl⟩;simp only[go_sem];refine ab ((hb m4).mono ?_);clear hb;rintro r H' m5 cW ⟨l5,x,e,s1,rfl,hx,rfl,hR⟩;simp only[go_sem];exact⟨aa (.inr aN) (aa l2 (aa l3 (aa l4 l5))),x,e,s1,rfl,hx,rfl,hR⟩
     ·have ha:=mo (en:=en) hT h3;clear hA hE;rw[ae h3];refine ab ((ha m3).mono ?_);clear ha;rintro r H' m4 dd ⟨l4,rfl,rfl⟩;simp only[go_sem];refine ab ((hK m4).mono ?_);clear hK;rintro r H' m5 cW ⟨l5,x,e,s1,rfl,hx,rfl,hR⟩;simp only[go_sem];exact⟨aa (.inr aN) (aa l2 (aa l3 (aa l4 l5))),x,e,s1,rfl,hx,rfl,hR⟩
end
attribute [go_sem] TJ km Nd.svs
section
variable {ts:List Tk} {en:Int} {s:PSt}
theorem Sx (hT:TsB ts) (hI:Inv ts s) (hA:∀s1,Inv ts s1->s.i<s1.i->vu ts en s1) (hE:∀s1,Inv ts s1->s.i<s1.i->ov ts en 0 s1) (x:Nd) (e:Ex) (m:Mem) (hx:bk m e x.cs):
  FnH Tryz.prog 149 [.box 0 0,.agg x.svs] (pH ts en s) m (gu ts en s (p9 e (ts.drop s.i)) m):=by
 refine aL ay Tryz.func149 ?_
 ·simp only[go_sem];refine DA ay 2 (fun y:PSt×Nd×Ex×Mem=>⟨[⟨0,[],.box 0 0⟩,⟨3,[],.box 2 0⟩,⟨4,[],.box 3 0⟩],[],[uq 3,⟨2,33,y.2.1.svs⟩,lT en y.1],[j4 ts],40,y.2.2.2⟩)
   (fun y=>an m y.2.2.2/\Inv ts y.1/\s.i<=y.1.i/\bk y.2.2.2 y.2.2.1 y.2.1.cs/\∀a s',Res ts en y.1 (p9 y.2.2.1 (ts.drop y.1.i)) a s' ->Res ts en s (p9 e (ts.drop s.i)) a s')
   (fun y=>ts.length - y.1.i) (by kernel_rfl) (fun _ _=>dL rfl) (fun y hy=>hy.1) (fun _=> ?_) ?_ ?_
  ·simp only[go_sem]
  ·simp only[go_sem];exact⟨(s,x,e,m),⟨⟨⟨rfl,rfl,rfl,rfl,rfl,rfl,rfl,rfl⟩,⟨rfl,rfl,rfl⟩⟩,.inl rfl⟩,.inl rfl,hI,aq _,hx,fun a s' h=>h⟩
  ·rintro⟨s4,x4,e4,m4⟩ ⟨q1,q2,q3,q4,q5⟩;dsimp only at q1 q2 q3 q4 q5;have hl:=hT.len;have dM:=q2.le;by_cases iO:ah ts s4.i [46]=true
   ·have ha:=dA (en:=en) hT iO;have hi:=aJ iO;have fU:=q2.next hi;have h5:=qF ts en s4.next;simp only[go_sem];refine ab ((ha m4).mono ?_);clear ha;rintro r H' m5 cW ⟨l5,rfl,rfl⟩;simp only[go_sem];refine ab ((h5 m5 hT fU).mono ?_);clear h5;rintro r H' m6 fb ⟨l6,w,s6,rfl,hw,rfl,hR6⟩;have sL:=hR6.mono;have rP:s4.next.i=s4.i+1:=rfl;by_cases db:ah ts s6.i [40]=true
    ·have ha:=mi (en:=en) hT db;have hb:=hA s6 hR6.inv (by omega);clear hA hE;simp only[go_sem];refine ab ((ha m6).mono ?_);clear ha;rintro r H' m7 gM ⟨l7,rfl,rfl⟩;simp only[go_sem];refine cg (.hoist 0 (.hoist 1 (.hoist 3 (.alt 2 [3,0] (.alt 4 [0] (.alt 5 [0] (.hoist 6 (.alt 7 [] .done .stop)) .stop) .stop) (.alt 4 [1,0] (.alt 2 [0] (.alt 5 [0] (.hoist 6 (.alt 7 [] .done .stop)) .stop) .stop) .stop))))) ay (by kernel_rfl) (by kernel_rfl) ?_;simp only[go_sem];refine⟨ab ((hb m7).mono ?_),ab ((hb m7).mono ?_)⟩
     ·clear hb;rintro r H' m8 ku ⟨l8,es,a,cp,xs,s8,rfl,ha1,ha2,ha3,ha4,rfl,hR8⟩;simp only[go_sem];refine⟨l8,⟨xs,ha3,Dn ha3.1 ha4,fK (by omega) (by decide),l8,fun a9 c9 m9 w1 w2 w3=> ?_⟩⟩;have qs:1+es.length=(e4::es).length:=by rw[cv,Nat.add_comm]
      rw[qs] at w2 w3 ⊢;have nA:=hR8.mono;refine⟨(s8,⟨10,0,w,[],ai,a9,(e4::es).length,c9⟩,.mk 10 0 w [] ai (e4::es),m9),⟨⟨⟨rfl,rfl,rfl,rfl,rfl,rfl,rfl,rfl⟩,⟨rfl,rfl,rfl⟩⟩,.inl rfl⟩,⟨aa q1 (aa l5 (aa l6 (aa l7 (aa l8 (.inr w1))))),hR8.inv,by dsimp only;omega,fC ⟨by decide,by decide⟩ ⟨by decide,by decide⟩ hw (au _) cI (by rw[cv];omega) w2 w3 (Gu (aZ (aa l5 (aa l6 (aa l7 (aa l8 (.inr w1))))) q4) (uW (.inr w1) ha4)),fun a s' h=>q5 a s' ?_⟩,by dsimp only;omega⟩;rw[yB,aj (by rw[<- ar];exact iO),<- bD];exact bO q2 hi (aR hR6 (by rw[aj (by rw[<- ar];exact db)];exact aR hR8 h))
     ·clear hb;rintro r H' m8 ku ⟨l8,es,a,cp,xs,s8,rfl,ha1,ha2,ha3,ha4,rfl,hR8⟩;simp only[go_sem];refine⟨⟨l8,l8⟩,l8,⟨xs,ha3,Dn ha3.1 ha4,fK (by omega) (by decide),l8,fun a9 c9 m9 w1 w2 w3=> ?_⟩⟩;have qs:1+es.length=(e4::es).length:=by rw[cv,Nat.add_comm]
      rw[qs] at w2 w3 ⊢;have nA:=hR8.mono;refine⟨(s8,⟨10,0,w,[],ai,a9,(e4::es).length,c9⟩,.mk 10 0 w [] ai (e4::es),m9),⟨⟨⟨rfl,rfl,rfl,rfl,rfl,rfl,rfl,rfl⟩,⟨rfl,rfl,rfl⟩⟩,.inl rfl⟩,⟨aa q1 (aa l5 (aa l6 (aa l7 (aa l8 (.inr w1))))),hR8.inv,by dsimp only;omega,fC ⟨by decide,by decide⟩ ⟨by decide,by decide⟩ hw (au _) cI (by rw[cv];omega) w2 w3 (Gu (aZ (aa l5 (aa l6 (aa l7 (aa l8 (.inr w1))))) q4) (uW (.inr w1) ha4)),fun a s' h=>q5 a s' ?_⟩,by dsimp only;omega⟩;rw[yB,aj (by rw[<- ar];exact iO),<- bD];exact bO q2 hi (aR hR6 (by rw[aj (by rw[<- ar];exact db)];exact aR hR8 h))
    ·have ha:=mo (en:=en) hT db;clear hA hE;simp only[go_sem];refine ab ((ha m6).mono ?_);clear ha;rintro r H' m7 gM ⟨l7,rfl,rfl⟩;simp only[go_sem];intro a c m8 w1 w2 w3;refine⟨(s6,⟨7,0,w,[],ai,a,1,c⟩,.mk 7 0 w [] ai [e4],m8),⟨⟨⟨rfl,rfl,rfl,rfl,rfl,rfl,rfl,rfl⟩,⟨rfl,rfl,rfl⟩⟩,.inl rfl⟩,⟨aa q1 (aa l5 (aa l6 (aa l7 (.inr w1)))),hR6.inv,by dsimp only;omega,fC (es:=[e4]) ⟨by decide,by decide⟩ ⟨by decide,by decide⟩ hw (au _) cI (by simp) w2 w3 (kq (aZ (aa l5 (aa l6 (aa l7 (.inr w1)))) q4)),fun a s' h=>q5 a s' ?_⟩,by dsimp only;omega⟩;rw[yB,aj (by rw[<- ar];exact iO),<- bD];exact bO q2 hi (aR hR6 (by rw[ae (by rw[<- ar];exact db)];exact h))
   ·have ha:=dC (en:=en) hT iO;clear hA;simp only[go_sem];refine ab ((ha m4).mono ?_);clear ha;rintro r H' m5 cW ⟨l5,rfl,rfl⟩;simp only[go_sem];by_cases pI:ah ts s4.i [91]=true
    ·have ha:=dA (en:=en) hT pI;have hi:=aJ pI;have fU:=q2.next hi;have hb:∀m' :Mem,FnH Tryz.prog 31 [.box 0 0,.v (.int .i64 0)] (pH ts en s4.next) m' (gu ts en s4.next (cj 0 (ts.drop s4.next.i)) m'):=hE s4.next fU (Nat.lt_succ_of_le q3);clear hE;refine ab ((ha m5).mono ?_);clear ha;rintro r H' m6 fb ⟨l6,rfl,rfl⟩;simp only[go_sem];refine ab ((hb m6).mono ?_);clear hb;rintro r H' m7 gM ⟨l7,x7,e7,s7,rfl,hx7,rfl,hR7⟩;have Bw:=hR7.mono;have rP:s4.next.i=s4.i+1:=rfl;have he:=fun m' =>eV ts en s7 [93] m' hT.l8
     have ac6:s7.i<=(aU ts en s7 [93]).i:=gC hR7.inv;simp only[go_sem];refine ab ((he m7).mono ?_);clear he;rintro r H' m8 ku ⟨l8,rfl,rfl⟩;simp only[go_sem];intro a c m9 w1 w2 w3;refine⟨(aU ts en s7 [93],⟨9,0,[],[],ai,a,2,c⟩,.mk 9 0 [] [] ai [e4,e7],m9),⟨⟨⟨rfl,rfl,rfl,rfl,rfl,rfl,rfl,rfl⟩,⟨rfl,rfl,rfl⟩⟩,.inl rfl⟩,⟨aa q1 (aa l5 (aa l6 (aa l7 (aa l8 (.inr w1))))),ff hR7.inv,by dsimp only;omega,fC (es:=[e4,e7]) ⟨by decide,by decide⟩ ⟨by decide,by decide⟩ (au _) (au _) cI (by simp) w2 w3 (EP (aZ (aa l5 (aa l6 (aa l7 (aa l8 (.inr w1))))) q4) (aZ (aa l8 (.inr w1)) hx7)),fun a s' h=>q5 a s' ?_⟩,by dsimp only;omega⟩;rw[yB,ae (by rw[<- ar];exact iO),aj (by rw[<- ar];exact pI),<- bD];exact bO q2 hi (aR hR7 (dI hR7.inv h))
    ·have ha:=dC (en:=en) hT pI;clear hE;refine ab ((ha m5).mono ?_);clear ha;rintro r H' m6 fb ⟨l6,rfl,rfl⟩;simp only[go_sem];refine⟨aa q1 (aa l5 l6),x4,e4,s4,rfl,aZ (aa l5 l6) q4,rfl,q5 _ _ ?_⟩;rw[yB,ae (by rw[<- ar];exact iO),ae (by rw[<- ar];exact pI)];exact bY _ q2
end
section
variable {ts:List Tk} {en:Int} {s:PSt}
def Pn (ts:List Tk) (en:Int) (s:PSt):Prop:=∀(x:Nd) (e:Ex) (m:Mem),bk m e x.cs->FnH Tryz.prog 149 [.box 0 0,.agg x.svs] (pH ts en s) m (gu ts en s (p9 e (ts.drop s.i)) m)
def Po (ts:List Tk) (en:Int) (s:PSt):Prop:=∀m:Mem,FnH Tryz.prog 150 [.box 0 0] (pH ts en s) m (gu ts en s (nI (ts.drop s.i)) m)
theorem UH (hT:TsB ts) (hI:Inv ts s) (hU:∀s1,Inv ts s1->s.i<s1.i->zV ts en s1) (hO:Po ts en s) (hP:∀s1,Inv ts s1->s.i<=s1.i->Pn ts en s1):zV ts en s:=fun m=>by
 refine iA (aL ay Tryz.func61 ?_)
 ·simp only[go_sem];refine cO ay (fun y:Nat×Mem=>⟨[⟨0,[],.box 0 0⟩,⟨2,[],.box 2 0⟩,⟨5,[],.vec 3 0⟩,⟨6,[],.v (.int .i64 2)⟩,⟨7,[],.v (.int .i64 y.1)⟩],[],[uq 2,lT en s],[⟨3,0,9,1,2,[.string (bs [45]),.string (bs [33])]⟩,j4 ts],40,y.2⟩)
   (fun y=>an m y.2/\y.1<=2/\(1<=y.1->¬ah ts s.i [45]=true)/\(2<=y.1->¬ah ts s.i [33]=true))
   (fun y=>2 - y.1) (0,m) (fun _ _=>dL rfl) (fun y hy=>hy.1) ?_ ?_ ?_
  ·simp only[go_sem];exact⟨rfl,rfl⟩
  ·exact⟨.inl rfl,au _,fun h=>absurd h (Nat.not_succ_le_zero _),fun h=>absurd h (Nat.not_succ_le_zero _)⟩
  ·rintro⟨i,m1⟩ ⟨q1,q2,q3,q4⟩;dsimp only at q1 q2 q3 q4;have hs:i=0\/i=1\/i=2:=by omega
   rcases hs with rfl |rfl |rfl
   ·by_cases hc:ah ts s.i [45]=true
    ·have ha:=dA (en:=en) hT hc;have hi:=aJ hc;have fq:=hI.next hi;have hu:=hU s.next fq (Nat.lt_succ_self _);clear hU hO hP;simp only[go_sem];refine⟨fun _=>⟨⟨by decide,by decide⟩,by kernel_rfl,dh ((ha m1).mono ?_)⟩,fun h=>absurd (by decide) h⟩;clear ha;rintro r H' m2 aH ⟨l2,rfl,rfl⟩;simp only[go_sem];refine ab ((hu m2).mono ?_);clear hu;rintro r H' m3 bN ⟨l3,x,e,s1,rfl,hx,rfl,hR⟩;simp only[go_sem];exact qM 7 rfl rfl (pH ts en s1) (List.Sublist.refl _) (.cons _ (List.Sublist.refl _)) fun a cp mm w1 w2 w3=>⟨aa (aa q1 (aa l2 l3)) (.inr w1),⟨15,0,[45],[],ai,a,1,cp⟩,.mk 15 0 [45] [] ai [e],s1,rfl,fC (es:=[e]) ⟨by decide,by decide⟩ ⟨by decide,by decide⟩ (by decide) (au _) cI (by simp) w2 w3 (kq (aZ (.inr w1) hx)),rfl,by rw[Ad,aj (by rw[<- ar];exact hc),<- bD];exact bO hI hi (aR hR (bY _ hR.inv))⟩
    ·have ha:=dC (en:=en) hT hc;clear hU hO hP;simp only[go_sem];refine⟨fun _=>⟨⟨by decide,by decide⟩,by kernel_rfl,dh ((ha m1).mono ?_)⟩,fun h=>absurd (by decide) h⟩;clear ha;rintro r H' m2 aH ⟨l2,rfl,rfl⟩;simp only[go_sem];exact⟨⟨by decide,by decide⟩,(1,m2),⟨rfl,.inl rfl⟩,⟨aa q1 l2,(by decide:1<=2),fun _=>hc,fun h=>absurd h (by decide:¬2<=1)⟩,(by decide:2 - 1<2 - 0)⟩
   ·by_cases hc:ah ts s.i [33]=true
    ·have ha:=dA (en:=en) hT hc;have hi:=aJ hc;have fq:=hI.next hi;have hu:=hU s.next fq (Nat.lt_succ_self _);clear hU hO hP;simp only[go_sem];refine⟨fun _=>⟨⟨by decide,by decide⟩,by kernel_rfl,dh ((ha m1).mono ?_)⟩,fun h=>absurd (by decide) h⟩;clear ha;rintro r H' m2 aH ⟨l2,rfl,rfl⟩;simp only[go_sem];refine ab ((hu m2).mono ?_);clear hu;rintro r H' m3 bN ⟨l3,x,e,s1,rfl,hx,rfl,hR⟩;simp only[go_sem];exact qM 7 rfl rfl (pH ts en s1) (List.Sublist.refl _) (.cons _ (List.Sublist.refl _)) fun a cp mm w1 w2 w3=>⟨aa (aa q1 (aa l2 l3)) (.inr w1),⟨15,0,[33],[],ai,a,1,cp⟩,.mk 15 0 [33] [] ai [e],s1,rfl,fC (es:=[e]) ⟨by decide,by decide⟩ ⟨by decide,by decide⟩ (by decide) (au _) cI (by simp) w2 w3 (kq (aZ (.inr w1) hx)),rfl,by rw[Ad,ae (by rw[<- ar];exact q3 (aq _)),aj (by rw[<- ar];exact hc),<- bD];exact bO hI hi (aR hR (bY _ hR.inv))⟩
    ·have ha:=dC (en:=en) hT hc;clear hU hO hP;simp only[go_sem];refine⟨fun _=>⟨⟨by decide,by decide⟩,by kernel_rfl,dh ((ha m1).mono ?_)⟩,fun h=>absurd (by decide) h⟩;clear ha;rintro r H' m2 aH ⟨l2,rfl,rfl⟩;simp only[go_sem];exact⟨⟨by decide,by decide⟩,(2,m2),⟨rfl,.inl rfl⟩,⟨aa q1 l2,(by decide:2<=2),fun _=>q3 (aq _),fun h=>hc⟩,(by decide:2 - 2<2 - 1)⟩
   ·have hu:=hO;clear hU hO;simp only[go_sem];refine⟨fun h=>absurd h (by decide),fun _=>ab ((hu m1).mono ?_)⟩;clear hu;rintro r H' m2 aH ⟨l2,x,e,s1,rfl,hx,rfl,hR⟩;have hp:=fun m' h=>hP s1 hR.inv hR.mono x e m' h
    clear hP;simp only[go_sem];refine ab ((hp m2 hx).mono ?_);clear hp;rintro r H' m3 bN ⟨l3,x2,e2,s2,rfl,hx2,rfl,hR2⟩;simp only[go_sem];refine .inl ⟨aa q1 (aa l2 l3),x2,e2,s2,rfl,hx2,rfl,?_⟩;rw[Ad,ae (by rw[<- ar];exact q3 (by decide)),ae (by rw[<- ar];exact q4 (by decide))];exact aR hR hR2
end
section
variable {ts:List Tk} {en:Int} {s:PSt}
theorem acn {n:Nat} (hn:n<=9) (hT:TsB ts) (h:iF n (ts.drop s.i)=true) (m:Mem):FnH Tryz.prog 62 [.box 0 0,.v (.int .i64 n)] (pH ts en s) m fun r H' m' =>an m m' /\r= .tup [.v (.string (bs (kQ (ts.drop s.i)))),.v (.bool true)]/\H' =pH ts en s.next:=
 (JL ts en s m n hn hT).mono fun r H' m2 _ ⟨q1,w,q2,q3,q4⟩=>⟨q1,by rw[h] at q2;rw[q2,q3 h],by rw[aj h] at q4;exact q4⟩
theorem aco {n:Nat} (hn:n<=9) (hT:TsB ts) (h:¬iF n (ts.drop s.i)=true) (m:Mem):FnH Tryz.prog 62 [.box 0 0,.v (.int .i64 n)] (pH ts en s) m fun r H' m' =>an m m' /\∃w,r= .tup [.v (.string (bs w)),.v (.bool false)]/\H' =pH ts en s:=
 (JL ts en s m n hn hT).mono fun r H' m2 _ ⟨q1,w,q2,q3,q4⟩=>⟨q1,w,by rw[(by simpa using h:iF n (ts.drop s.i)=false)] at q2;exact q2,by rw[ae h] at q4;exact q4⟩
theorem VP (hT:TsB ts) (hU:zV ts en s):ov ts en 10 s:=fun m=>by
 rw[Lp];refine aL ay Tryz.func31 ?_
 ·simp only[go_sem];refine⟨fun _=>ab ((hU m).mono ?_),fun h=>absurd rfl h⟩;clear hU;rintro r H' m1 aN ⟨l1,x,e,s1,rfl,hx,rfl,hR⟩;simp only[go_sem];exact⟨l1,x,e,s1,rfl,hx,rfl,hR⟩
theorem VQ (hT:TsB ts) (hI:Inv ts s) (n:Nat) (hn:n<=9) (hN:ov ts en (n+1) s) (hE:∀s1,Inv ts s1->s.i<s1.i->ov ts en (n+1) s1):ov ts en n s:=fun m=>by
 have QD:∀m' :Mem,FnH Tryz.prog 31 [.box 0 0,.v (.int .i64 ((n:Int)+1))] (pH ts en s) m' (gu ts en s (cj (n+1) (ts.drop s.i)) m'):=hN;clear hN;refine aL ay Tryz.func31 ?_
 ·simp only[go_sem];refine⟨fun h=>absurd h (by omega),fun _=> ?_⟩;refine⟨by unfold az;omega,by kernel_rfl,dh ((QD m).mono ?_)⟩;clear QD;rintro r H' m1 aN ⟨l1,x,e,s1,rfl,hx,rfl,hR⟩;have sM:=hR.mono;simp only[go_sem];refine DA ay 5 (fun y:PSt×Nd×Ex×Mem=>⟨[⟨0,[],.box 0 0⟩,⟨1,[],.v (.int .i64 n)⟩,⟨4,[],.box 2 0⟩,⟨5,[],.box 5 0⟩],[],[⟨5,33,y.2.1.svs⟩,lT en y.1,uq 2],[j4 ts],40,y.2.2.2⟩)
   (fun y=>an m1 y.2.2.2/\Inv ts y.1/\s.i<=y.1.i/\bk y.2.2.2 y.2.2.1 y.2.1.cs/\∀a s',Res ts en y.1 (vm n y.2.2.1 (ts.drop y.1.i)) a s' ->Res ts en s (cj n (ts.drop s.i)) a s')
   (fun y=>ts.length - y.1.i) (by kernel_rfl) (fun _ _=>dL rfl) (fun y hy=>hy.1) (fun _=> ?_) ?_ ?_
  ·simp only[go_sem]
  ·simp only[go_sem];exact⟨(s1,x,e,m1),⟨⟨⟨rfl,rfl,rfl,rfl,rfl,rfl,rfl,rfl⟩,⟨rfl,rfl,rfl⟩⟩,.inl rfl⟩,.inl rfl,hR.inv,sM,hx,fun a s' h=>by rw[MI hn];exact aR hR h⟩
  ·rintro⟨s4,x4,e4,m4⟩ ⟨q1,q2,q3,q4,q5⟩;dsimp only at q1 q2 q3 q4 q5;have hl:=hT.len;have dM:=q2.le;by_cases qp:iF n (ts.drop s4.i)=true
   ·have ha:=acn (en:=en) hn hT qp;have hi:=HA qp;have fU:=q2.next hi;have hb:∀m' :Mem,FnH Tryz.prog 31 [.box 0 0,.v (.int .i64 ((n:Int)+1))] (pH ts en s4.next) m' (gu ts en s4.next (cj (n+1) (ts.drop s4.next.i)) m'):=hE s4.next fU (Nat.lt_succ_of_le q3);clear hE;have hw:(kQ (ts.drop s4.i)).length<=1000000:=by rw[kf];exact hT.cs s4.i
    simp only[go_sem];refine ab ((ha m4).mono ?_);clear ha;rintro r H' m5 cW ⟨l5,rfl,rfl⟩;simp only[go_sem];refine cg (.hoist 0 (.hoist 1 (.hoist 2 (.hoist 3 (.hoist 4 (.alt 5 [1,0] (.alt 6 [0] (.hoist 7 (.alt 8 [] .done .stop)) .stop) .stop)))))) ay (by kernel_rfl) (by kernel_rfl) ?_;simp only[go_sem];refine⟨by unfold az;omega,by kernel_rfl,dh ((hb m5).mono ?_)⟩;clear hb;rintro r H' m6 fb ⟨l6,x6,e6,s6,rfl,hx6,rfl,hR6⟩;have sL:=hR6.mono;have rP:s4.next.i=s4.i+1:=rfl;simp only[go_sem];try simp only[l6,true_and,and_self]
    intro a c m7 w1 w2 w3;refine⟨(s6,⟨16,0,kQ (ts.drop s4.i),[],ai,a,2,c⟩,.mk 16 0 (kQ (ts.drop s4.i)) [] ai [e4,e6],m7),⟨⟨⟨rfl,rfl,rfl,rfl,rfl,rfl,rfl,rfl⟩,⟨rfl,rfl,rfl⟩⟩,.inl rfl⟩,⟨aa q1 (aa l5 (aa l6 (.inr w1))),hR6.inv,by dsimp only;omega,fC (es:=[e4,e6]) ⟨by decide,by decide⟩ ⟨by decide,by decide⟩ hw (au _) cI (by simp) w2 w3 (EP (aZ (aa l5 (aa l6 (.inr w1))) q4) (aZ (.inr w1) hx6)),fun a s' h=>q5 a s' ?_⟩,by dsimp only;omega⟩;rw[wB hn,aj qp,<- bD];exact bO q2 hi (aR hR6 h)
   ·have ha:=aco (en:=en) hn hT qp;clear hE;simp only[go_sem];refine ab ((ha m4).mono ?_);clear ha;rintro r H' m5 cW ⟨l5,w5,rfl,rfl⟩;simp only[go_sem];have EK:∀m',an m5 m' ->(¬(n=6/\aC [105,115] (ts.drop s4.i)=true))->(¬(n=6/\aC [97,115] (ts.drop s4.i)=true))->gu ts en s (cj n (ts.drop s.i)) m (.agg x4.svs) (pH ts en s4) m' :=fun m' Qu h1 h2=>
     ⟨aa (aa l1 q1) (aa l5 Qu),x4,e4,s4,rfl,aZ (aa l5 Qu) q4,rfl,q5 _ _ (by rw[wB hn,ae qp,ae h1,ae h2];exact bY _ q2)⟩
    refine⟨fun h6=> ?_,fun h6=>⟨fun h=>absurd h h6,fun _=>EK m5 (.inl rfl) (fun h=>h6 (by rw[h.1];rfl)) (fun h=>h6 (by rw[h.1];rfl))⟩⟩;have Fj:n=6:=by omega
    by_cases oI:ah ts s4.i [105,115]=true
    ·have ha:=dA (en:=en) hT oI;have hi:=aJ oI;have fU:=q2.next hi;have hb:=fun m' =>wx ts en s4.next m' hT fU
     clear EK;refine ab ((ha m5).mono ?_);clear ha;rintro r H' m6 fb ⟨l6,rfl,rfl⟩;simp only[go_sem];refine cg (.hoist 0 (.hoist 2 (.alt 1 [2] (.alt 3 [] (.hoist 4 (.alt 5 [] .done .stop)) .stop) (.alt 3 [0] (.alt 1 [] (.hoist 4 (.alt 5 [] .done .stop)) .stop) .stop)))) ay (by kernel_rfl) (by kernel_rfl) ?_;simp only[go_sem];refine⟨ab ((hb m6).mono ?_),ab ((hb m6).mono ?_)⟩
     ·clear hb;rintro r H' m7 gM ⟨l7,t,s7,rfl,cZ,htn,rfl,hR7⟩;have Bw:=hR7.mono;have rP:s4.next.i=s4.i+1:=rfl;simp only[go_sem];try simp only[l7,true_and,and_self]
      intro a c mz w1 w2 w3;refine⟨(s7,⟨18,0,[],[],t,a,1,c⟩,.mk 18 0 [] [] t [e4],mz),⟨⟨⟨rfl,rfl,rfl,rfl,rfl,rfl,rfl,rfl⟩,⟨rfl,rfl,rfl⟩⟩,.inl rfl⟩,⟨aa q1 (aa l5 (aa l6 (aa l7 (.inr w1)))),hR7.inv,by dsimp only;omega,fC (es:=[e4]) ⟨by decide,by decide⟩ ⟨by decide,by decide⟩ (au _) (au _) cZ (by simp) w2 w3 (kq (aZ (aa l5 (aa l6 (aa l7 (.inr w1)))) q4)),fun a s' h=>q5 a s' ?_⟩,by dsimp only;omega⟩;rw[wB hn,ae qp,aj ⟨Fj,by rw[<- ar];exact oI⟩,<- bD];exact bO q2 hi (aR hR7 h)
     ·clear hb;rintro r H' m7 gM ⟨l7,t,s7,rfl,cZ,htn,rfl,hR7⟩;have Bw:=hR7.mono;have rP:s4.next.i=s4.i+1:=rfl;simp only[go_sem];try simp only[l7,true_and,and_self]
      intro a c mz w1 w2 w3;refine⟨(s7,⟨18,0,[],[],t,a,1,c⟩,.mk 18 0 [] [] t [e4],mz),⟨⟨⟨rfl,rfl,rfl,rfl,rfl,rfl,rfl,rfl⟩,⟨rfl,rfl,rfl⟩⟩,.inl rfl⟩,⟨aa q1 (aa l5 (aa l6 (aa l7 (.inr w1)))),hR7.inv,by dsimp only;omega,fC (es:=[e4]) ⟨by decide,by decide⟩ ⟨by decide,by decide⟩ (au _) (au _) cZ (by simp) w2 w3 (kq (aZ (aa l5 (aa l6 (aa l7 (.inr w1)))) q4)),fun a s' h=>q5 a s' ?_⟩,by dsimp only;omega⟩;rw[wB hn,ae qp,aj ⟨Fj,by rw[<- ar];exact oI⟩,<- bD];exact bO q2 hi (aR hR7 h)
    ·have ha:=dC (en:=en) hT oI;refine ab ((ha m5).mono ?_);clear ha;rintro r H' m6 fb ⟨l6,rfl,rfl⟩;simp only[go_sem];refine⟨fun _=> ?_,fun h=>absurd h6 h⟩;by_cases has:ah ts s4.i [97,115]=true
     ·have ha:=dA (en:=en) hT has;have hi:=aJ has;have fU:=q2.next hi;have hb:=fun m' =>wx ts en s4.next m' hT fU
      clear EK;refine ab ((ha m6).mono ?_);clear ha;rintro r H' m7 gM ⟨l7,rfl,rfl⟩;simp only[go_sem];refine cg (.hoist 0 (.hoist 2 (.alt 1 [2] (.alt 3 [] (.hoist 4 (.alt 5 [] .done .stop)) .stop) (.alt 3 [0] (.alt 1 [] (.hoist 4 (.alt 5 [] .done .stop)) .stop) .stop)))) ay (by kernel_rfl) (by kernel_rfl) ?_;simp only[go_sem];refine⟨ab ((hb m7).mono ?_),ab ((hb m7).mono ?_)⟩
      ·clear hb;rintro r H' m8 ku ⟨l8,t,s7,rfl,cZ,htn,rfl,hR7⟩;have Bw:=hR7.mono;have rP:s4.next.i=s4.i+1:=rfl;simp only[go_sem];try simp only[l8,true_and,and_self]
       intro a c mz w1 w2 w3;refine⟨(s7,⟨17,0,[],[],t,a,1,c⟩,.mk 17 0 [] [] t [e4],mz),⟨⟨⟨rfl,rfl,rfl,rfl,rfl,rfl,rfl,rfl⟩,⟨rfl,rfl,rfl⟩⟩,.inl rfl⟩,⟨aa q1 (aa l5 (aa l6 (aa l7 (aa l8 (.inr w1))))),hR7.inv,by dsimp only;omega,fC (es:=[e4]) ⟨by decide,by decide⟩ ⟨by decide,by decide⟩ (au _) (au _) cZ (by simp) w2 w3 (kq (aZ (aa l5 (aa l6 (aa l7 (aa l8 (.inr w1))))) q4)),fun a s' h=>q5 a s' ?_⟩,by dsimp only;omega⟩;rw[wB hn,ae qp,ae (fun h=>oI (by rw[ar];exact h.2)),aj ⟨Fj,by rw[<- ar];exact has⟩,<- bD];exact bO q2 hi (aR hR7 h)
      ·clear hb;rintro r H' m8 ku ⟨l8,t,s7,rfl,cZ,htn,rfl,hR7⟩;have Bw:=hR7.mono;have rP:s4.next.i=s4.i+1:=rfl;simp only[go_sem];try simp only[l8,true_and,and_self]
       intro a c mz w1 w2 w3;refine⟨(s7,⟨17,0,[],[],t,a,1,c⟩,.mk 17 0 [] [] t [e4],mz),⟨⟨⟨rfl,rfl,rfl,rfl,rfl,rfl,rfl,rfl⟩,⟨rfl,rfl,rfl⟩⟩,.inl rfl⟩,⟨aa q1 (aa l5 (aa l6 (aa l7 (aa l8 (.inr w1))))),hR7.inv,by dsimp only;omega,fC (es:=[e4]) ⟨by decide,by decide⟩ ⟨by decide,by decide⟩ (au _) (au _) cZ (by simp) w2 w3 (kq (aZ (aa l5 (aa l6 (aa l7 (aa l8 (.inr w1))))) q4)),fun a s' h=>q5 a s' ?_⟩,by dsimp only;omega⟩;rw[wB hn,ae qp,ae (fun h=>oI (by rw[ar];exact h.2)),aj ⟨Fj,by rw[<- ar];exact has⟩,<- bD];exact bO q2 hi (aR hR7 h)
     ·have ha:=dC (en:=en) hT has;refine ab ((ha m6).mono ?_);clear ha;rintro r H' m7 gM ⟨l7,rfl,rfl⟩;simp only[go_sem];exact EK m7 (aa l6 l7) (fun h=>oI (by rw[ar];exact h.2)) (fun h=>has (by rw[ar];exact h.2))
end
structure EXW (ts:List Tk) (en:Int) (s:PSt):Prop where
 expr:∀n,n<=10->ov ts en n s
 un:zV ts en s
 args:vu ts en s
 paren:Ea ts en s
theorem Zg {ts:List Tk} {en:Int} (hT:TsB ts) (L:Nat) (ih:∀s:PSt,Inv ts s->ts.length - s.i<L->EXW ts en s):∀s,Inv ts s->ts.length - s.i=L->EXW ts en s:=by
 have later:∀s:PSt,ts.length - s.i=L->∀s1,Inv ts s1->s.i<s1.i->EXW ts en s1:=fun s hL s1 h1 h2=>ih s1 h1 (by have:=h1.le;omega)
 have hx:∀s,Inv ts s->ts.length - s.i=L->zV ts en s/\∀n,n<=10->ov ts en n s:=fun s hI hL=>by
  have lt:=later s hL;have hA:=fun s1 h1 h2=>(lt s1 h1 h2).args
  have hE:=fun s1 h1 h2=>(lt s1 h1 h2).expr 0 (by decide)
  have hK:=SK hT hI hA (fun s1 h1 h2=>(lt s1 h1 h2).paren) hE;have hO:Po ts en s:=SD hT hI hA hE hK;have hP:∀s1,Inv ts s1->s.i<=s1.i->Pn ts en s1:=fun s1 h1 h2 x e m hx=>
   Sx hT h1 (fun s2 g1 g2=>hA s2 g1 (Nat.lt_of_le_of_lt h2 g2)) (fun s2 g1 g2=>hE s2 g1 (Nat.lt_of_le_of_lt h2 g2)) x e m hx
  have hU:zV ts en s:=UH hT hI (fun s1 h1 h2=>(lt s1 h1 h2).un) hO hP;have hN:∀k n,n+k=10->ov ts en n s:=fun k=>by
   induction k with
   |zero=>
    intro n hn;obtain rfl:n=10:=by omega
    exact VP hT hU
   |succ k ihk=>
    intro n hn;exact VQ hT hI n (by omega) (ihk (n+1) (by omega)) fun s1 h1 h2=>(lt s1 h1 h2).expr (n+1) (by omega)
  exact⟨hU,fun n hn=>hN (10 - n) n (by omega)⟩
 intro s hI hL;have he:∀s1,Inv ts s1->s.i<=s1.i->ov ts en 0 s1:=fun s1 h1 h2=>by
  rcases Nat.lt_or_ge s.i s1.i with h |h
  ·exact(later s hL s1 h1 h).expr 0 (by decide)
  ·exact(hx s1 h1 (by omega)).2 0 (by decide)
 exact⟨(hx s hI hL).2,(hx s hI hL).1,X4 hT hI he,L8 hT hI (he _ (ff hI) (gC hI))⟩
theorem Hr {ts:List Tk} {en:Int} (hT:TsB ts):∀(L:Nat) (s:PSt),Inv ts s->ts.length - s.i<L->EXW ts en s
 |0,s,_,h=>absurd h (Nat.not_lt_zero _)
 |L+1,s,hI,h=>by
  rcases Nat.lt_or_ge (ts.length - s.i) L with h1 |h1
  ·exact Hr hT L s hI h1
  ·exact Zg hT L (fun s h2 h3=>Hr hT L s h2 h3) s hI (by omega)
theorem tb {ts:List Tk} {en:Int} {s:PSt} (hT:TsB ts) (hI:Inv ts s):EXW ts en s:=Hr hT _ s hI (Nat.lt_succ_self _)
abbrev Sd.svs (x:Sd):List SV:=[.v (.int .i64 x.k),.v (.string (bs x.name)),.v (.int .i64 x.ty.dim),.v (.int .u8 x.ty.base),.v (.string (bs x.ty.name)),.v (.int .i64 x.tg.k),.v (.int .i64 x.tg.n),.v (.string (bs x.tg.s)),.v (.string (bs x.tg.c)),.v (.int .i64 x.tg.ty.dim),.v (.int .u8 x.tg.ty.base),.v (.string (bs x.tg.ty.name)),.v (.slice x.tg.a x.tg.l x.tg.cp),.v (.int .i64 x.ex.k),.v (.int .i64 x.ex.n),.v (.string (bs x.ex.s)),.v (.string (bs x.ex.c)),.v (.int .i64 x.ex.ty.dim),.v (.int .u8 x.ex.ty.base),.v (.string (bs x.ex.ty.name)),.v (.slice x.ex.a x.ex.l x.ex.cp),.v (.slice x.a x.l x.cp),.v (.slice x.b x.l2 x.cp2)]
attribute [go_sem] Sd.svs
abbrev rr (ts:List Tk) (en:Int) (s:PSt) (K:PR St) (m:Mem):SV->Hp->Mem->Prop:=fun r H' m' =>an m m' /\∃(x:Sd) (e:St) (s' :PSt),r= .agg x.svs/\fu m' e x.cs/\H' =pH ts en s' /\Res ts en s K e s'
abbrev adV (ts:List Tk) (en:Int) (s:PSt) (K:PR (List St)) (m:Mem):SV->Hp->Mem->Prop:=fun r H' m' =>an m m' /\∃(es:List St) (a:Option Addr) (c:Nat) (xs:List Value) (s' :PSt),r= .v (.slice a es.length c)/\es.length<=c/\(es.length+s.i<=s'.i+(if s'.fl=true then 1 else 0)/\es.length<=1000001)/\aK m' a es.length 23 xs/\bF m' es xs/\H' =pH ts en s' /\Res ts en s K es s'
def Bi (ts:List Tk) (en:Int) (s:PSt):Prop:=∀m:Mem,FnH Tryz.prog 38 [.box 0 0] (pH ts en s) m (rr ts en s (pY (ts.drop s.i)) m)
def pX (ts:List Tk) (en:Int) (s:PSt):Prop:=∀m:Mem,FnH Tryz.prog 128 [.box 0 0] (pH ts en s) m (adV ts en s (fE (ts.drop s.i)) m)
theorem iX {m:Mem} {k:Int} {nm:List UInt8} {ty:Ty} {tx ex:Nd} {tg e:Ex} {body alt:List St} {a b:Option Addr} {cp cp2:Nat} {xs ys:List Value} (hk:az k) (hn:nm.length<=1000000) (ht:lh ty)
  (h1:bk m tg tx.cs) (h2:bk m e ex.cs) (hl:body.length<=1000001) (hc:body.length<=cp) (hr:aK m a body.length 23 xs) (hs:bF m body xs)
  (bP:alt.length<=1000001) (ky:alt.length<=cp2) (bJ:aK m b alt.length 23 ys) (uB:bF m alt ys):
  fu m (.mk k nm ty tg e body alt) (Sd.cs ⟨k,nm,ty,tx,ex,a,body.length,cp,b,alt.length,cp2⟩):=by
 simp only[fu];exact⟨⟨k,nm,ty,tx,ex,a,body.length,cp,b,alt.length,cp2⟩,⟨rfl,rfl,rfl,rfl⟩,h1,h2,⟨rfl,hc,rfl,ky⟩,⟨hk,by unfold aA;omega,ht,by unfold aA;omega,by unfold aA;omega⟩,xs,ys,hr,bJ,hs,uB⟩
theorem dN (m:Mem) (xs:List Value):bF m [] xs:=by simp only[bF]
theorem abC {m:Mem} {e:St} {x:Sd} (h:fu m e x.cs):bF m [e] x.cs:=by
 simp only[bF,and_true];exact h
theorem De {m:Mem} {e:St} {x:Sd} (hx:fu m e x.cs):∀{es:List St} {xs:List Value},xs.length=es.length * 23->bF m es xs->bF m (es++[e]) (xs++x.cs)
 |[],xs,hl,_=>by
  have:xs=[]:=List.eq_nil_of_length_eq_zero (by simpa using hl);subst this;exact abC hx
 |y::r,xs,hl,h=>by
  simp only[bF,jD] at h ⊢;simp only[cv] at hl;have h8:23<=xs.length:=by omega
  rw[List.take_append_of_le_length h8,List.drop_append_of_le_length h8];exact⟨h.1,De hx (by rw[cH];omega) h.2⟩
theorem nN {m m' :Mem} {es:List St} {xs:List Value} (hle:an m m') (h:bF m es xs):bF m' es xs:=by
 rcases hle with rfl |hle
 ·exact h
 ·exact Ae hle es xs h
section
variable {ts:List Tk} {en:Int} {s:PSt}
theorem AP {α:Type} {K:PR α} (a:α) (hI:Inv ts s) (h:s.fl=true):Res ts en s K a s:=
 ⟨hI,aq _,fun _=>rfl,fun e=>(by rw[h] at e;cases e),fun e=>(by rw[h] at e;cases e)⟩
theorem lW {α:Type} {K:PR α} {a:α} {s' :PSt} (h:Res ts en s K a s') (hf:s.fl=false) (hK:∀x r,K= .ok (x,r)->r.length<(ts.drop s.i).length):s'.fl=true\/s.i<s'.i:=by
 cases e:K with
 |error r=>exact .inl (h.er hf r e).1
 |ok p=>
  obtain⟨x,r⟩:=p;obtain⟨_,_,rfl⟩:=h.ok hf x r e;have:=hK x _ e;simp only[cH] at this;exact .inr (by omega)
theorem vo {w:List UInt8} (hT:TsB ts) (h:ah ts s.i w=true) (m:Mem):FnH Tryz.prog 52 [.box 0 0,.v (.string (bs w))] (pH ts en s) m fun r H' m' =>an m m' /\r= .tup []/\H' =pH ts en s.next:=
 (eV ts en s w m hT.l8).mono fun r H' m2 _ q=>⟨q.1,q.2.1,by have:=q.2.2;rw[aU,aj h] at this;exact this⟩
theorem MW (l:List Tk):∀x r,pY l= .ok (x,r)->r.length<l.length:=fun x r h=>((pQ l).stmt.good.ok x r h).2 rfl
theorem Wc (hT:TsB ts) (hI:Inv ts s) (hS:∀s1,Inv ts s1->s.i<s1.i->Bi ts en s1):pX ts en s:=fun m=>by
 have h1:=eV ts en s [123] m hT.l8;have uI:Inv ts (aU ts en s [123]):=ff hI;have sM:s.i<=(aU ts en s [123]).i:=gC hI;refine iA (aL ay Tryz.func128 ?_)
 ·simp only[go_sem];refine ab (h1.mono ?_);clear h1;rintro r H' m1 aN ⟨l1,rfl,rfl⟩;simp only[go_sem];refine pO 3 73 23 (by decide) rfl ?_;refine cO ay (fun y:PSt×List St×List Value×Nat×Mem=>⟨[⟨0,[],.box 0 0⟩,⟨3,[],.vec 4 y.2.2.2.1⟩],[],[lT en y.1],[⟨4,y.2.2.2.1,73,23,y.2.1.length,y.2.2.1⟩,j4 ts],40,y.2.2.2.2⟩)
   (fun y=>an m1 y.2.2.2.2/\Inv ts y.1/\(y.1.fl=false->s.i<y.1.i)/\(y.2.1.length+s.i<=y.1.i+(if y.1.fl=true then 1 else 0))/\y.2.2.1.length=y.2.1.length * 23/\bF y.2.2.2.2 y.2.1 y.2.2.1/\∀a s',Res ts en y.1 (yO y.2.1 (ts.drop y.1.i)) a s' ->Res ts en s (fE (ts.drop s.i)) a s')
   (fun y=>if y.1.fl=true then 0 else ts.length - y.1.i+1) (aU ts en s [123],[],[],0,m1) (fun _ _=>dL rfl) (fun y hy=>hy.1) ?_ ?_ ?_
  ·simp only[go_sem]
  ·refine⟨.inl rfl,uI,fun h=> ?_,by dsimp only[eM];omega,rfl,dN _ _,fun a s' h=> ?_⟩
   ·dsimp only at h ⊢;unfold aU at h ⊢;split at h
    ·rename_i h';rw[aj h'];exact Nat.lt_succ_self _
    ·rw[Az] at h;cases h
   ·rw[LB];exact dI hI h
  ·rintro⟨s4,es,xs,u,m4⟩ ⟨q1,q2,q3,q4,q5,q6,q7⟩;dsimp only at q1 q2 q3 q4 q5 q6 q7;have hl:=hT.len;have dM:=q2.le;by_cases hf:s4.fl=true
   ·clear hS;have II:=q4;rw[aj hf] at q4;simp only[go_sem];refine⟨fun h=>(by rw[hf] at h;cases h),fun _=>AE (b:=⟨4,u,73,23,es.length,xs⟩) (by simp [cN]) (pH ts en s4) (List.Sublist.refl _) (.cons _ (List.Sublist.refl _)) fun a c mm w1 w2 w3=>⟨aa (aa l1 q1) (.inr w1),es,a,c,xs,s4,rfl,w2,⟨II,by omega⟩,w3,nN (.inr w1) q6,rfl,q7 _ _ (AP es q2 hf)⟩⟩
   ·have rR:s4.fl=false:=by simpa using hf
    have ao:=q3 rR;by_cases h1:ah ts s4.i [125]=true
    ·have ha:=dA (en:=en) hT h1;have hi:=aJ h1;have fU:=q2.next hi;clear hS;rw[ae hf] at q4;simp only[go_sem];refine⟨fun _=>ab ((ha m4).mono ?_),fun h=>by rw[rR] at h;cases h⟩;clear ha;rintro r H' m5 cW ⟨l5,rfl,rfl⟩;simp only[go_sem];refine AE (b:=⟨4,u,73,23,es.length,xs⟩) (by simp [cN]) (pH ts en s4.next) (List.Sublist.refl _) (.cons_cons _ (List.nil_sublist _)) fun a c mm w1 w2 w3=>⟨aa (aa l1 q1) (aa l5 (.inr w1)),es,a,c,xs,s4.next,rfl,w2,⟨by have hn:s4.next.i=s4.i+1:=rfl;omega,by omega⟩,w3,nN (aa l5 (.inr w1)) q6,rfl,q7 _ _ ?_⟩
     rw[F7,aj (by rw[<- ar];exact h1),<- bD];exact bO q2 hi (bY _ fU)
    ·have ha:=dC (en:=en) hT h1;have hb:=hS s4 q2 ao;clear hS;rw[ae hf] at q4;simp only[go_sem];refine⟨fun _=>ab ((ha m4).mono ?_),fun h=>by rw[rR] at h;cases h⟩;clear ha;rintro r H' m5 cW ⟨l5,rfl,rfl⟩;simp only[go_sem];refine ab ((hb m5).mono ?_);clear hb;rintro r H' m6 fb ⟨l6,x6,e6,s6,rfl,hx6,rfl,hR6⟩;have sL:=hR6.mono;have fI:=lW hR6 rR (MW _);have xT:=hR6.inv.le;simp only[go_sem];refine⟨fK (by omega) (by decide),(s6,es++[e6],xs++x6.cs,u+1,m6),⟨rfl,⟨rfl,rfl,rfl⟩,⟨rfl,by simp,rfl⟩,.inl rfl⟩,⟨aa q1 (aa l5 l6),hR6.inv,fun h=>by dsimp only;omega,?_,by simp only[bM,fr,q5,Sd.cs,cv,eM];omega,De hx6 q5 (nN (aa l5 l6) q6),fun a s' h=>q7 a s' ?_⟩,?_⟩
     ·dsimp only;rw[bM,fr];rcases fI with h |h
      ·rw[aj h];omega
      ·omega
     ·rw[F7,ae (by rw[<- ar];exact h1)];exact aR hR6 h
     ·dsimp only;rw[ae hf];rcases fI with h |h
      ·rw[aj h];omega
      ·split<;>omega
end
noncomputable def ifK (l:List Tk):PR St:=av (gf l) fun e r=>av (fE r) fun b r2=>if aC sq r2=true then av (fE r2.tail) fun a r3=> .ok (.mk 4 [] ai zE e b a,r3) else .ok (.mk 4 [] ai zE e b [],r2)
noncomputable def OA (k:Int) (l:List Tk):PR St:=av (gf l) fun e r=>av (fE r) fun b r2=> .ok (.mk k [] ai zE e b [],r2)
noncomputable def Ic (l:List Tk):PR St:=if aC [59] l=true then .ok (.mk 6 [] ai zE zE [] [],l.tail) else av (cj 0 l) fun e r=>aW [59] r fun r2=> .ok (.mk 6 [] ai zE e [] [],r2)
noncomputable def Yr (l:List Tk):PR St:=av (cj 0 l) fun e r=>aW [59] r fun r2=> .ok (.mk 7 [] ai zE e [] [],r2)
noncomputable def Bo (l:List Tk):PR St:=av (fE l) fun b r=>aW oe r fun r2=>aW [40] r2 fun r3=>av (fN r3) fun t r4=>av (dr r4) fun s r5=>aW [41] r5 fun r6=>av (fE r6) fun a r7=> .ok (.mk 8 s t zE zE b a,r7)
noncomputable def ZU (l:List Tk):PR St:=av (fE l) fun b r=> .ok (.mk 10 [] ai zE zE b [],r)
noncomputable def aaF (l:List Tk):PR St:=av (jw l) fun es r=>aW [59] r fun r2=> .ok (.mk 11 [] ai zE (.mk 0 0 [] [] ai es) [] [],r2)
noncomputable def ze (l:List Tk):PR St:=av (fN l) fun t r=>av (dr r) fun s r2=>aW [61] r2 fun r3=>av (cj 0 r3) fun e r4=>aW [59] r4 fun r5=> .ok (.mk 1 s t zE e [] [],r5)
noncomputable def vh (l:List Tk):PR St:=av (cj 0 l) fun e r=>
 if aC [61] r=true then av (cj 0 r.tail) fun x r2=>aW [59] r2 fun r3=> .ok (.mk 2 [] ai e x [] [],r3)
 else aW [59] r fun r2=> .ok (.mk 3 [] ai zE e [] [],r2)
section
variable {ts:List Tk} {en:Int} {s:PSt}
theorem Z4 (hT:TsB ts) (hI:Inv ts s) (kz:ah ts s.i mI=true) (hB:∀s1,Inv ts s1->s.i<s1.i->pX ts en s1) (m:Mem):FnH Tryz.prog 75 [.box 0 0] (pH ts en s) m (rr ts en s.next (ifK (ts.drop (s.next).i)) m):=by
 have hi:=aJ kz;have fq:=hI.next hi;have hn:s.next.i=s.i+1:=rfl;refine aL ay Tryz.func75 ?_
 ·simp only[go_sem];have q1:=fun m' =>vo (en:=en) hT kz m'
  refine ab ((q1 m).mono ?_);clear q1;rintro r H' m1 aN ⟨l1,rfl,rfl⟩;simp only[go_sem];have q2:=fun m' =>(tb (en:=en) hT fq).paren m'
  refine ab ((q2 m1).mono ?_);clear q2;rintro r H' m2 aH ⟨l2,x2,e2,s2,rfl,hx2,rfl,hR2⟩;simp only[go_sem];have aY:=hR2.mono;have q3:=hB s2 hR2.inv (by omega);refine ab ((q3 m2).mono ?_);clear q3;rintro r H' m3 bN ⟨l3,bs3,a3,c3,xs3,s3,rfl,ha3,hb3,hc3,v8,rfl,hR3⟩;simp only[go_sem];have kL:=hR3.mono;by_cases hc4:ah ts (s3).i sq=true
  ·have q5:=fun m' =>dA (en:=en) hT hc4 m'
   refine ab ((q5 m3).mono ?_);clear q5;rintro r H' m4 dd ⟨l4,rfl,rfl⟩;simp only[go_sem];have fU:=hR3.inv.next (aJ hc4);have By:(s3).next.i=(s3).i+1:=rfl;have q6:=hB (s3).next fU (by omega);refine ab ((q6 m4).mono ?_);clear q6;rintro r H' m5 cW ⟨l5,bs6,a6,c6,xs6,s6,rfl,ha6,hb6,hc6,hd6,rfl,hR6⟩;simp only[go_sem];have sL:=hR6.mono;exact⟨(aa l1 (aa l2 (aa l3 (aa l4 l5)))),⟨4,[],ai,aM,x2,a3,bs3.length,c3,a6,bs6.length,c6⟩,.mk 4 [] ai zE e2 bs3 bs6,s6,rfl,iX ⟨by decide,by decide⟩ (au _) cI eA (aZ (aa l3 (aa l4 l5)) hx2) hb3.2 ha3 (aD (aa l4 l5) hc3) (nN (aa l4 l5) v8) hb6.2 ha6 hc6 hd6,rfl,(aR hR2 (aR hR3 (by rw[aj (by rw[<- ar];exact hc4),<- bD];exact bO hR3.inv (aJ hc4) (aR hR6 (bY _ hR6.inv)))))⟩
  ·have q5:=fun m' =>dC (en:=en) hT hc4 m'
   refine ab ((q5 m3).mono ?_);clear q5;rintro r H' m4 dd ⟨l4,rfl,rfl⟩;simp only[go_sem];exact⟨(aa l1 (aa l2 (aa l3 l4))),⟨4,[],ai,aM,x2,a3,bs3.length,c3,none,0,0⟩,.mk 4 [] ai zE e2 bs3 [],s3,rfl,iX ⟨by decide,by decide⟩ (au _) cI eA (aZ (aa l3 l4) hx2) hb3.2 ha3 (aD l4 hc3) (nN l4 v8) (au _) (aq _) (cX _ _) (dN _ _),rfl,(aR hR2 (aR hR3 (by rw[ae (by rw[<- ar];exact hc4)];exact(bY _ hR3.inv))))⟩
theorem Uo (hT:TsB ts) (hI:Inv ts s) (kz:ah ts s.i mQ=true) (hB:∀s1,Inv ts s1->s.i<s1.i->pX ts en s1) (m:Mem):FnH Tryz.prog 76 [.box 0 0] (pH ts en s) m (rr ts en s.next (OA 5 (ts.drop (s.next).i)) m):=by
 have hi:=aJ kz;have fq:=hI.next hi;have hn:s.next.i=s.i+1:=rfl;refine aL ay Tryz.func76 ?_
 ·simp only[go_sem];have q1:=fun m' =>vo (en:=en) hT kz m'
  refine ab ((q1 m).mono ?_);clear q1;rintro r H' m1 aN ⟨l1,rfl,rfl⟩;simp only[go_sem];have q2:=fun m' =>(tb (en:=en) hT fq).paren m'
  refine ab ((q2 m1).mono ?_);clear q2;rintro r H' m2 aH ⟨l2,x2,e2,s2,rfl,hx2,rfl,hR2⟩;simp only[go_sem];have aY:=hR2.mono;have q3:=hB s2 hR2.inv (by omega);refine ab ((q3 m2).mono ?_);clear q3;rintro r H' m3 bN ⟨l3,bs3,a3,c3,xs3,s3,rfl,ha3,hb3,hc3,v8,rfl,hR3⟩;simp only[go_sem];have kL:=hR3.mono;exact⟨(aa l1 (aa l2 l3)),⟨5,[],ai,aM,x2,a3,bs3.length,c3,none,0,0⟩,.mk 5 [] ai zE e2 bs3 [],s3,rfl,iX ⟨by decide,by decide⟩ (au _) cI eA (aZ l3 hx2) hb3.2 ha3 hc3 v8 (au _) (aq _) (cX _ _) (dN _ _),rfl,(aR hR2 (aR hR3 (bY _ hR3.inv)))⟩
theorem WB (hT:TsB ts) (hI:Inv ts s) (kz:ah ts s.i qT=true) (hB:∀s1,Inv ts s1->s.i<s1.i->pX ts en s1) (m:Mem):FnH Tryz.prog 80 [.box 0 0] (pH ts en s) m (rr ts en s.next (OA 9 (ts.drop (s.next).i)) m):=by
 have hi:=aJ kz;have fq:=hI.next hi;have hn:s.next.i=s.i+1:=rfl;refine aL ay Tryz.func80 ?_
 ·simp only[go_sem];have q1:=fun m' =>vo (en:=en) hT kz m'
  refine ab ((q1 m).mono ?_);clear q1;rintro r H' m1 aN ⟨l1,rfl,rfl⟩;simp only[go_sem];have q2:=fun m' =>(tb (en:=en) hT fq).paren m'
  refine ab ((q2 m1).mono ?_);clear q2;rintro r H' m2 aH ⟨l2,x2,e2,s2,rfl,hx2,rfl,hR2⟩;simp only[go_sem];have aY:=hR2.mono;have q3:=hB s2 hR2.inv (by omega);refine ab ((q3 m2).mono ?_);clear q3;rintro r H' m3 bN ⟨l3,bs3,a3,c3,xs3,s3,rfl,ha3,hb3,hc3,v8,rfl,hR3⟩;simp only[go_sem];have kL:=hR3.mono;exact⟨(aa l1 (aa l2 l3)),⟨9,[],ai,aM,x2,a3,bs3.length,c3,none,0,0⟩,.mk 9 [] ai zE e2 bs3 [],s3,rfl,iX ⟨by decide,by decide⟩ (au _) cI eA (aZ l3 hx2) hb3.2 ha3 hc3 v8 (au _) (aq _) (cX _ _) (dN _ _),rfl,(aR hR2 (aR hR3 (bY _ hR3.inv)))⟩
theorem Yw (hT:TsB ts) (hI:Inv ts s) (kz:ah ts s.i ox=true) (m:Mem):FnH Tryz.prog 77 [.box 0 0] (pH ts en s) m (rr ts en s.next (Ic (ts.drop (s.next).i)) m):=by
 have hi:=aJ kz;have fq:=hI.next hi;have hn:s.next.i=s.i+1:=rfl;refine aL ay Tryz.func77 ?_
 ·simp only[go_sem];have q1:=fun m' =>vo (en:=en) hT kz m'
  refine ab ((q1 m).mono ?_);clear q1;rintro r H' m1 aN ⟨l1,rfl,rfl⟩;simp only[go_sem];by_cases ky:ah ts (s.next).i [59]=true
  ·have q3:=fun m' =>mi (en:=en) hT ky m'
   refine ab ((q3 m1).mono ?_);clear q3;rintro r H' m2 aH ⟨l2,rfl,rfl⟩;simp only[go_sem];have q4:=fun m' =>vo (en:=en) hT ky m'
   refine ab ((q4 m2).mono ?_);clear q4;rintro r H' m3 bN ⟨l3,rfl,rfl⟩;simp only[go_sem];exact⟨(aa l1 (aa l2 l3)),⟨6,[],ai,aM,aM,none,0,0,none,0,0⟩,.mk 6 [] ai zE zE [] [],(s.next).next,rfl,iX ⟨by decide,by decide⟩ (au _) cI eA eA (au _) (aq _) (cX _ _) (dN _ _) (au _) (aq _) (cX _ _) (dN _ _),rfl,(by rw[Ic,aj (by rw[<- ar];exact ky),<- bD];exact bO fq (aJ ky) (bY _ (fq.next (aJ ky))))⟩
  ·have q3:=fun m' =>mo (en:=en) hT ky m'
   refine ab ((q3 m1).mono ?_);clear q3;rintro r H' m2 aH ⟨l2,rfl,rfl⟩;simp only[go_sem];have q4:=fun m' =>(show ∀m' :Mem,FnH Tryz.prog 31 [.box 0 0,.v (.int .i64 0)] (pH ts en s.next) m' (gu ts en s.next (cj 0 (ts.drop (s.next).i)) m') from(tb hT fq).expr 0 (by decide)) m'
   refine ab ((q4 m2).mono ?_);clear q4;rintro r H' m3 bN ⟨l3,x4,e4,s4,rfl,hx4,rfl,hR4⟩;simp only[go_sem];have EF:=hR4.mono;have q5:=fun m' =>eV ts en s4 [59] m' hT.l8
   have fU:Inv ts (aU ts en s4 [59]):=ff hR4.inv;have By:(s4).i<=(aU ts en s4 [59]).i:=gC hR4.inv;refine ab ((q5 m3).mono ?_);clear q5;rintro r H' m4 dd ⟨l4,rfl,rfl⟩;simp only[go_sem];exact⟨(aa l1 (aa l2 (aa l3 l4))),⟨6,[],ai,aM,x4,none,0,0,none,0,0⟩,.mk 6 [] ai zE e4 [] [],(aU ts en s4 [59]),rfl,iX ⟨by decide,by decide⟩ (au _) cI eA (aZ l4 hx4) (au _) (aq _) (cX _ _) (dN _ _) (au _) (aq _) (cX _ _) (dN _ _),rfl,(by rw[Ic,ae (by rw[<- ar];exact ky)];exact(aR hR4 (dI hR4.inv (bY _ fU))))⟩
theorem UL (hT:TsB ts) (hI:Inv ts s) (kz:ah ts s.i oU=true) (m:Mem):FnH Tryz.prog 78 [.box 0 0] (pH ts en s) m (rr ts en s.next (Yr (ts.drop (s.next).i)) m):=by
 have hi:=aJ kz;have fq:=hI.next hi;have hn:s.next.i=s.i+1:=rfl;refine aL ay Tryz.func78 ?_
 ·simp only[go_sem];have q1:=fun m' =>vo (en:=en) hT kz m'
  refine ab ((q1 m).mono ?_);clear q1;rintro r H' m1 aN ⟨l1,rfl,rfl⟩;simp only[go_sem];have q2:=fun m' =>(show ∀m' :Mem,FnH Tryz.prog 31 [.box 0 0,.v (.int .i64 0)] (pH ts en s.next) m' (gu ts en s.next (cj 0 (ts.drop (s.next).i)) m') from(tb hT fq).expr 0 (by decide)) m'
  refine ab ((q2 m1).mono ?_);clear q2;rintro r H' m2 aH ⟨l2,x2,e2,s2,rfl,hx2,rfl,hR2⟩;simp only[go_sem];have aY:=hR2.mono;have q3:=fun m' =>eV ts en s2 [59] m' hT.l8
  have nC:Inv ts (aU ts en s2 [59]):=ff hR2.inv;have kL:(s2).i<=(aU ts en s2 [59]).i:=gC hR2.inv;refine ab ((q3 m2).mono ?_);clear q3;rintro r H' m3 bN ⟨l3,rfl,rfl⟩;simp only[go_sem];exact⟨(aa l1 (aa l2 l3)),⟨7,[],ai,aM,x2,none,0,0,none,0,0⟩,.mk 7 [] ai zE e2 [] [],(aU ts en s2 [59]),rfl,iX ⟨by decide,by decide⟩ (au _) cI eA (aZ l3 hx2) (au _) (aq _) (cX _ _) (dN _ _) (au _) (aq _) (cX _ _) (dN _ _),rfl,(aR hR2 (dI hR2.inv (bY _ nC)))⟩
theorem Ym (hT:TsB ts) (hI:Inv ts s) (kz:ah ts s.i qd=true) (hB:∀s1,Inv ts s1->s.i<s1.i->pX ts en s1) (m:Mem):FnH Tryz.prog 79 [.box 0 0] (pH ts en s) m (rr ts en s.next (Bo (ts.drop (s.next).i)) m):=by
 have hi:=aJ kz;have fq:=hI.next hi;have hn:s.next.i=s.i+1:=rfl;refine aL ay Tryz.func79 ?_
 ·simp only[go_sem];have q1:=fun m' =>vo (en:=en) hT kz m'
  refine ab ((q1 m).mono ?_);clear q1;rintro r H' m1 aN ⟨l1,rfl,rfl⟩;simp only[go_sem];have q2:=hB s.next fq (by omega);refine ab ((q2 m1).mono ?_);clear q2;rintro r H' m2 aH ⟨l2,bs2,a2,c2,xs2,s2,rfl,ha2,rW,ky,Cm,rfl,hR2⟩;simp only[go_sem];have aY:=hR2.mono;have q3:=fun m' =>eV ts en s2 oe m' hT.l8
  have nC:Inv ts (aU ts en s2 oe):=ff hR2.inv;have kL:(s2).i<=(aU ts en s2 oe).i:=gC hR2.inv;refine ab ((q3 m2).mono ?_);clear q3;rintro r H' m3 bN ⟨l3,rfl,rfl⟩;simp only[go_sem];have q4:=fun m' =>eV ts en (aU ts en s2 oe) [40] m' hT.l8
  have Co:Inv ts (aU ts en (aU ts en s2 oe) [40]):=ff nC;have EF:((aU ts en s2 oe)).i<=(aU ts en (aU ts en s2 oe) [40]).i:=gC nC;refine ab ((q4 m3).mono ?_);clear q4;rintro r H' m4 dd ⟨l4,rfl,rfl⟩;simp only[go_sem];have q5:=fun m' =>wx ts en (aU ts en (aU ts en s2 oe) [40]) m' hT Co
  refine ab ((q5 m4).mono ?_);clear q5;rintro r H' m5 cW ⟨l5,t5,s5,rfl,ht5,hu5,rfl,hR5⟩;simp only[go_sem];have By:=hR5.mono;have q6:=fun m' =>qF ts en s5 m' hT hR5.inv
  refine ab ((q6 m5).mono ?_);clear q6;rintro r H' m6 fb ⟨l6,w6,s6,rfl,zJ,rfl,hR6⟩;simp only[go_sem];have sL:=hR6.mono;have q7:=fun m' =>eV ts en s6 [41] m' hT.l8
  have hI7:Inv ts (aU ts en s6 [41]):=ff hR6.inv;have Bw:(s6).i<=(aU ts en s6 [41]).i:=gC hR6.inv;refine ab ((q7 m6).mono ?_);clear q7;rintro r H' m7 gM ⟨l7,rfl,rfl⟩;simp only[go_sem];have q8:=hB (aU ts en s6 [41]) hI7 (by omega);refine ab ((q8 m7).mono ?_);clear q8;rintro r H' m8 ku ⟨l8,bs8,a8,c8,xs8,s8,rfl,ha8,hb8,hc8,hd8,rfl,hR8⟩;simp only[go_sem];have ac6:=hR8.mono;exact⟨(aa l1 (aa l2 (aa l3 (aa l4 (aa l5 (aa l6 (aa l7 l8))))))),⟨8,w6,t5,aM,aM,a2,bs2.length,c2,a8,bs8.length,c8⟩,.mk 8 w6 t5 zE zE bs2 bs8,s8,rfl,iX ⟨by decide,by decide⟩ zJ ht5 eA eA rW.2 ha2 (aD (aa l3 (aa l4 (aa l5 (aa l6 (aa l7 l8))))) ky) (nN (aa l3 (aa l4 (aa l5 (aa l6 (aa l7 l8))))) Cm) hb8.2 ha8 hc8 hd8,rfl,(aR hR2 (dI hR2.inv (dI nC (aR hR5 (aR hR6 (dI hR6.inv (aR hR8 (bY _ hR8.inv))))))))⟩
theorem W9 (hT:TsB ts) (hI:Inv ts s) (ew:pX ts en s) (m:Mem):FnH Tryz.prog 81 [.box 0 0] (pH ts en s) m (rr ts en s (ZU (ts.drop (s).i)) m):=by
 refine aL ay Tryz.func81 ?_
 ·simp only[go_sem];have q1:=ew;refine ab ((q1 m).mono ?_);clear q1;rintro r H' m1 aN ⟨l1,bs1,a1,c1,xs1,s1,rfl,ha1,uF,Ji,hd1,rfl,dR⟩;simp only[go_sem];have sM:=dR.mono;exact⟨l1,⟨10,[],ai,aM,aM,a1,bs1.length,c1,none,0,0⟩,.mk 10 [] ai zE zE bs1 [],s1,rfl,iX ⟨by decide,by decide⟩ (au _) cI eA eA uF.2 ha1 Ji hd1 (au _) (aq _) (cX _ _) (dN _ _),rfl,(aR dR (bY _ dR.inv))⟩
theorem X2 (hT:TsB ts) (hI:Inv ts s) (kz:ah ts s.i pR=true) (m:Mem):FnH Tryz.prog 83 [.box 0 0] (pH ts en s) m (rr ts en s.next (aaF (ts.drop (s.next).i)) m):=by
 have hi:=aJ kz;have fq:=hI.next hi;have hn:s.next.i=s.i+1:=rfl;refine aL ay Tryz.func83 ?_
 ·simp only[go_sem];have q1:=fun m' =>vo (en:=en) hT kz m'
  refine ab ((q1 m).mono ?_);clear q1;rintro r H' m1 aN ⟨l1,rfl,rfl⟩;simp only[go_sem];have q2:=fun m' =>(tb (en:=en) hT fq).args m'
  refine ab ((q2 m1).mono ?_);clear q2;rintro r H' m2 aH ⟨l2,es2,a2,c2,xs2,s2,rfl,ha2,rW,ky,Cm,rfl,hR2⟩;simp only[go_sem];have aY:=hR2.mono;have q3:=fun m' =>eV ts en s2 [59] m' hT.l8
  have nC:Inv ts (aU ts en s2 [59]):=ff hR2.inv;have kL:(s2).i<=(aU ts en s2 [59]).i:=gC hR2.inv;refine ab ((q3 m2).mono ?_);clear q3;rintro r H' m3 bN ⟨l3,rfl,rfl⟩;simp only[go_sem];exact⟨(aa l1 (aa l2 l3)),⟨11,[],ai,aM,⟨0,0,[],[],ai,a2,es2.length,c2⟩,none,0,0,none,0,0⟩,.mk 11 [] ai zE (.mk 0 0 [] [] ai es2) [] [],(aU ts en s2 [59]),rfl,iX ⟨by decide,by decide⟩ (au _) cI eA (fC ⟨by decide,by decide⟩ ⟨by decide,by decide⟩ (au _) (au _) cI (Nat.le_succ_of_le rW) ha2 (aD l3 ky) (uW l3 Cm)) (au _) (aq _) (cX _ _) (dN _ _) (au _) (aq _) (cX _ _) (dN _ _),rfl,(aR hR2 (dI hR2.inv (bY _ nC)))⟩
theorem NM (hT:TsB ts) (hI:Inv ts s) (m:Mem):FnH Tryz.prog 85 [.box 0 0] (pH ts en s) m (rr ts en s (ze (ts.drop (s).i)) m):=by
 refine aL ay Tryz.func85 ?_
 ·simp only[go_sem];have q1:=fun m' =>wx ts en s m' hT hI
  refine ab ((q1 m).mono ?_);clear q1;rintro r H' m1 aN ⟨l1,t1,s1,rfl,ht1,hu1,rfl,dR⟩;simp only[go_sem];have sM:=dR.mono;have q2:=fun m' =>qF ts en s1 m' hT dR.inv
  refine ab ((q2 m1).mono ?_);clear q2;rintro r H' m2 aH ⟨l2,w2,s2,rfl,sW,rfl,hR2⟩;simp only[go_sem];have aY:=hR2.mono;have q3:=fun m' =>eV ts en s2 [61] m' hT.l8
  have nC:Inv ts (aU ts en s2 [61]):=ff hR2.inv;have kL:(s2).i<=(aU ts en s2 [61]).i:=gC hR2.inv;refine ab ((q3 m2).mono ?_);clear q3;rintro r H' m3 bN ⟨l3,rfl,rfl⟩;simp only[go_sem];have q4:=fun m' =>(show ∀m' :Mem,FnH Tryz.prog 31 [.box 0 0,.v (.int .i64 0)] (pH ts en (aU ts en s2 [61])) m' (gu ts en (aU ts en s2 [61]) (cj 0 (ts.drop ((aU ts en s2 [61])).i)) m') from(tb hT nC).expr 0 (by decide)) m'
  refine ab ((q4 m3).mono ?_);clear q4;rintro r H' m4 dd ⟨l4,x4,e4,s4,rfl,hx4,rfl,hR4⟩;simp only[go_sem];have EF:=hR4.mono;have q5:=fun m' =>eV ts en s4 [59] m' hT.l8
  have fU:Inv ts (aU ts en s4 [59]):=ff hR4.inv;have By:(s4).i<=(aU ts en s4 [59]).i:=gC hR4.inv;refine ab ((q5 m4).mono ?_);clear q5;rintro r H' m5 cW ⟨l5,rfl,rfl⟩;simp only[go_sem];exact⟨(aa l1 (aa l2 (aa l3 (aa l4 l5)))),⟨1,w2,t1,aM,x4,none,0,0,none,0,0⟩,.mk 1 w2 t1 zE e4 [] [],(aU ts en s4 [59]),rfl,iX ⟨by decide,by decide⟩ sW ht1 eA (aZ l5 hx4) (au _) (aq _) (cX _ _) (dN _ _) (au _) (aq _) (cX _ _) (dN _ _),rfl,(aR dR (aR hR2 (dI hR2.inv (aR hR4 (dI hR4.inv (bY _ fU))))))⟩
theorem MX (hT:TsB ts) (hI:Inv ts s) (m:Mem):FnH Tryz.prog 73 [.box 0 0] (pH ts en s) m (rr ts en s (vh (ts.drop (s).i)) m):=by
 refine aL ay Tryz.func73 ?_
 ·simp only[go_sem];have q1:=fun m' =>(show ∀m' :Mem,FnH Tryz.prog 31 [.box 0 0,.v (.int .i64 0)] (pH ts en s) m' (gu ts en s (cj 0 (ts.drop (s).i)) m') from(tb hT hI).expr 0 (by decide)) m'
  refine ab ((q1 m).mono ?_);clear q1;rintro r H' m1 aN ⟨l1,x1,e1,s1,rfl,hx1,rfl,dR⟩;simp only[go_sem];have sM:=dR.mono;by_cases ky:ah ts (s1).i [61]=true
  ·have q3:=fun m' =>dA (en:=en) hT ky m'
   refine ab ((q3 m1).mono ?_);clear q3;rintro r H' m2 aH ⟨l2,rfl,rfl⟩;simp only[go_sem];have nC:=dR.inv.next (aJ ky);have kL:(s1).next.i=(s1).i+1:=rfl;refine cg (.hoist 0 (.hoist 1 (.hoist 2 (.alt 3 [1,0] (.hoist 4 (.alt 5 [] .done .stop)) .stop)))) ay (by kernel_rfl) (by kernel_rfl) ?_;simp only[go_sem];have q4:=fun m' =>(show ∀m' :Mem,FnH Tryz.prog 31 [.box 0 0,.v (.int .i64 0)] (pH ts en (s1).next) m' (gu ts en (s1).next (cj 0 (ts.drop ((s1).next).i)) m') from(tb hT nC).expr 0 (by decide)) m'
   refine ab ((q4 m2).mono ?_);clear q4;rintro r H' m3 bN ⟨l3,x4,e4,s4,rfl,hx4,rfl,hR4⟩;simp only[go_sem];have EF:=hR4.mono;try simp only[l3,true_and,and_self]
   have q5:=fun m' =>eV ts en s4 [59] m' hT.l8
   have fU:Inv ts (aU ts en s4 [59]):=ff hR4.inv;have By:(s4).i<=(aU ts en s4 [59]).i:=gC hR4.inv;refine ab ((q5 m3).mono ?_);clear q5;rintro r H' m4 dd ⟨l4,rfl,rfl⟩;simp only[go_sem];exact⟨(aa l1 (aa l2 (aa l3 l4))),⟨2,[],ai,x1,x4,none,0,0,none,0,0⟩,.mk 2 [] ai e1 e4 [] [],(aU ts en s4 [59]),rfl,iX ⟨by decide,by decide⟩ (au _) cI (aZ (aa l2 (aa l3 l4)) hx1) (aZ l4 hx4) (au _) (aq _) (cX _ _) (dN _ _) (au _) (aq _) (cX _ _) (dN _ _),rfl,(aR dR (by rw[aj (by rw[<- ar];exact ky),<- bD];exact bO dR.inv (aJ ky) (aR hR4 (dI hR4.inv (bY _ fU)))))⟩
  ·have q3:=fun m' =>dC (en:=en) hT ky m'
   refine ab ((q3 m1).mono ?_);clear q3;rintro r H' m2 aH ⟨l2,rfl,rfl⟩;simp only[go_sem];have q4:=fun m' =>eV ts en s1 [59] m' hT.l8
   have Co:Inv ts (aU ts en s1 [59]):=ff dR.inv;have EF:(s1).i<=(aU ts en s1 [59]).i:=gC dR.inv;refine ab ((q4 m2).mono ?_);clear q4;rintro r H' m3 bN ⟨l3,rfl,rfl⟩;simp only[go_sem];exact⟨(aa l1 (aa l2 l3)),⟨3,[],ai,aM,x1,none,0,0,none,0,0⟩,.mk 3 [] ai zE e1 [] [],(aU ts en s1 [59]),rfl,iX ⟨by decide,by decide⟩ (au _) cI eA (aZ (aa l2 l3) hx1) (au _) (aq _) (cX _ _) (dN _ _) (au _) (aq _) (cX _ _) (dN _ _),rfl,(aR dR (by rw[ae (by rw[<- ar];exact ky)];exact(dI dR.inv (bY _ Co))))⟩
end
section
variable {ts:List Tk} {en:Int} {s:PSt}
theorem CH (hT:TsB ts) (hI:Inv ts s) (w:List UInt8) (m:Mem):FnH Tryz.prog 82 [.box 0 0,.v (.string (bs w))] (pH ts en s) m fun r H' m' =>an m m' /\r= .v (.bool (aC w (ts.drop s.i).tail))/\H' =pH ts en s:=by
 have hp:=fun m' =>Dh ts en s.next w m' hT.l8
 have hl:=hT.len;have dM:=hI.le;have e:ah ts s.next.i w=aC w (ts.drop s.i).tail:=by rw[ar,bD]
 rw[e] at hp;refine aL ay Tryz.func82 ?_
 ·simp only[go_sem];refine⟨by unfold az;omega,?_⟩;refine ab ((hp m).mono ?_);clear hp;rintro r H' m1 aN ⟨l1,rfl,rfl⟩;simp only[go_sem];exact l1
theorem SW (hT:TsB ts) (hI:Inv ts s) (b:Bool) (hb:iY (ts.drop s.i)=b) (m:Mem):FnH Tryz.prog 84 [.box 0 0] (pH ts en s) m fun r H' m' =>an m m' /\r= .v (.bool b)/\H' =pH ts en s:=by
 refine aL ay Tryz.func84 ?_
 ·simp only[go_sem];by_cases h1:ah ts s.i iI=true
  ·have ha:=mi (en:=en) hT h1;have hf:=fun m' =>CH (en:=en) hT hI [40] m'
   have e:iY (ts.drop s.i)= !aC [40] (ts.drop s.i).tail:=by rw[iY,aj];rw[<- ar,h1];rfl
   refine ab ((ha m).mono ?_);clear ha;rintro r H' m1 aN ⟨l1,rfl,rfl⟩;simp only[go_sem];refine ab ((hf m1).mono ?_);clear hf;rintro r H' m2 aH ⟨l2,rfl,rfl⟩;simp only[go_sem];exact⟨aa l1 l2,by rw[<- hb,e]⟩
  ·have ha:=mo (en:=en) hT h1;refine ab ((ha m).mono ?_);clear ha;rintro r H' m1 aN ⟨l1,rfl,rfl⟩;simp only[go_sem];by_cases h2:ah ts s.i iE=true
   ·have ha:=mi (en:=en) hT h2;have hf:=fun m' =>CH (en:=en) hT hI [40] m'
    have e:iY (ts.drop s.i)= !aC [40] (ts.drop s.i).tail:=by rw[iY,aj];rw[<- ar,<- ar,h2,Bool.or_true]
    refine ab ((ha m1).mono ?_);clear ha;rintro r H' m2 aH ⟨l2,rfl,rfl⟩;simp only[go_sem];refine ab ((hf m2).mono ?_);clear hf;rintro r H' m3 bN ⟨l3,rfl,rfl⟩;simp only[go_sem];exact⟨aa l1 (aa l2 l3),by rw[<- hb,e]⟩
   ·have ha:=mo (en:=en) hT h2;have e:iY (ts.drop s.i)=(ee (ts.drop s.i)&& !aC [46] (ts.drop s.i).tail):=by rw[iY,ae];rw[<- ar,<- ar,Bool.or_eq_true];rintro(h |h);exact h1 h;exact h2 h
    refine ab ((ha m1).mono ?_);clear ha;rintro r H' m2 aH ⟨l2,rfl,rfl⟩;simp only[go_sem];by_cases h3:ee (ts.drop s.i)=true
    ·have ha:=Ok (en:=en) hT h3;have hf:=fun m' =>CH (en:=en) hT hI [46] m'
     refine ab ((ha m2).mono ?_);clear ha;rintro r H' m3 bN ⟨l3,rfl,rfl⟩;simp only[go_sem];refine ab ((hf m3).mono ?_);clear hf;rintro r H' m4 dd ⟨l4,rfl,rfl⟩;simp only[go_sem];exact⟨aa l1 (aa l2 (aa l3 l4)),by rw[<- hb,e,h3];rfl⟩
    ·have ha:=Ol (en:=en) hT h3;refine ab ((ha m2).mono ?_);clear ha;rintro r H' m3 bN ⟨l3,rfl,rfl⟩;simp only[go_sem];exact⟨aa l1 (aa l2 l3),by rw[<- hb,e,(by simpa using h3:ee (ts.drop s.i)=false)];rfl⟩
theorem JN (hT:TsB ts) (hI:Inv ts s) (m:Mem):FnH Tryz.prog 84 [.box 0 0] (pH ts en s) m fun r H' m' =>an m m' /\r= .v (.bool (iY (ts.drop s.i)))/\H' =pH ts en s:=SW hT hI _ rfl m
theorem WD (hT:TsB ts) (hI:Inv ts s) (ew:pX ts en s) (hB:∀s1,Inv ts s1->s.i<s1.i->pX ts en s1):Bi ts en s:=fun m=>by
 refine aL ay Tryz.func38 ?_
 ·simp only[go_sem];by_cases h0:ah ts s.i mI=true
  ·have ha:=mi (en:=en) hT h0;have hb:=Z4 (en:=en) hT hI h0 hB;clear hB ew;refine ab ((ha m).mono ?_);clear ha;rintro r H' m1 aN ⟨l1,rfl,rfl⟩;simp only[go_sem];refine ab ((hb m1).mono ?_);clear hb;rintro r H' m2 aH ⟨l2,x,e,s1,rfl,hx,rfl,hR⟩;simp only[go_sem];exact⟨(aa l1 l2),x,e,s1,rfl,hx,rfl,by rw[oP,aj (by rw[<- ar];exact h0),<- bD];exact bO hI (aJ h0) hR⟩
  ·have ha:=mo (en:=en) hT h0;refine ab ((ha m).mono ?_);clear ha;rintro r H' m1 aN ⟨l1,rfl,rfl⟩;simp only[go_sem];by_cases h1:ah ts s.i mQ=true
   ·have ha:=mi (en:=en) hT h1;have hb:=Uo (en:=en) hT hI h1 hB;clear hB ew;refine ab ((ha m1).mono ?_);clear ha;rintro r H' m2 aH ⟨l2,rfl,rfl⟩;simp only[go_sem];refine ab ((hb m2).mono ?_);clear hb;rintro r H' m3 bN ⟨l3,x,e,s1,rfl,hx,rfl,hR⟩;simp only[go_sem];exact⟨(aa l1 (aa l2 l3)),x,e,s1,rfl,hx,rfl,by rw[oP,ae (by rw[<- ar];exact h0),aj (by rw[<- ar];exact h1),<- bD];exact bO hI (aJ h1) hR⟩
   ·have ha:=mo (en:=en) hT h1;refine ab ((ha m1).mono ?_);clear ha;rintro r H' m2 aH ⟨l2,rfl,rfl⟩;simp only[go_sem];by_cases h2:ah ts s.i ox=true
    ·have ha:=mi (en:=en) hT h2;have hb:=Yw (en:=en) hT hI h2;clear hB ew;refine ab ((ha m2).mono ?_);clear ha;rintro r H' m3 bN ⟨l3,rfl,rfl⟩;simp only[go_sem];refine ab ((hb m3).mono ?_);clear hb;rintro r H' m4 dd ⟨l4,x,e,s1,rfl,hx,rfl,hR⟩;simp only[go_sem];exact⟨(aa l1 (aa l2 (aa l3 l4))),x,e,s1,rfl,hx,rfl,by rw[oP,ae (by rw[<- ar];exact h0),ae (by rw[<- ar];exact h1),aj (by rw[<- ar];exact h2),<- bD];exact bO hI (aJ h2) hR⟩
    ·have ha:=mo (en:=en) hT h2;refine ab ((ha m2).mono ?_);clear ha;rintro r H' m3 bN ⟨l3,rfl,rfl⟩;simp only[go_sem];by_cases h3:ah ts s.i oU=true
     ·have ha:=mi (en:=en) hT h3;have hb:=UL (en:=en) hT hI h3;clear hB ew;refine ab ((ha m3).mono ?_);clear ha;rintro r H' m4 dd ⟨l4,rfl,rfl⟩;simp only[go_sem];refine ab ((hb m4).mono ?_);clear hb;rintro r H' m5 cW ⟨l5,x,e,s1,rfl,hx,rfl,hR⟩;simp only[go_sem];exact⟨(aa l1 (aa l2 (aa l3 (aa l4 l5)))),x,e,s1,rfl,hx,rfl,by rw[oP,ae (by rw[<- ar];exact h0),ae (by rw[<- ar];exact h1),ae (by rw[<- ar];exact h2),aj (by rw[<- ar];exact h3),<- bD];exact bO hI (aJ h3) hR⟩
     ·have ha:=mo (en:=en) hT h3;refine ab ((ha m3).mono ?_);clear ha;rintro r H' m4 dd ⟨l4,rfl,rfl⟩;simp only[go_sem];by_cases h4:ah ts s.i qd=true
      ·have ha:=mi (en:=en) hT h4;have hb:=Ym (en:=en) hT hI h4 hB;clear hB ew;refine ab ((ha m4).mono ?_);clear ha;rintro r H' m5 cW ⟨l5,rfl,rfl⟩;simp only[go_sem];refine ab ((hb m5).mono ?_);clear hb;rintro r H' m6 fb ⟨l6,x,e,s1,rfl,hx,rfl,hR⟩;simp only[go_sem];exact⟨(aa l1 (aa l2 (aa l3 (aa l4 (aa l5 l6))))),x,e,s1,rfl,hx,rfl,by rw[oP,ae (by rw[<- ar];exact h0),ae (by rw[<- ar];exact h1),ae (by rw[<- ar];exact h2),ae (by rw[<- ar];exact h3),aj (by rw[<- ar];exact h4),<- bD];exact bO hI (aJ h4) hR⟩
      ·have ha:=mo (en:=en) hT h4;refine ab ((ha m4).mono ?_);clear ha;rintro r H' m5 cW ⟨l5,rfl,rfl⟩;simp only[go_sem];by_cases h5:ah ts s.i qT=true
       ·have ha:=mi (en:=en) hT h5;have hb:=WB (en:=en) hT hI h5 hB;clear hB ew;refine ab ((ha m5).mono ?_);clear ha;rintro r H' m6 fb ⟨l6,rfl,rfl⟩;simp only[go_sem];refine ab ((hb m6).mono ?_);clear hb;rintro r H' m7 gM ⟨l7,x,e,s1,rfl,hx,rfl,hR⟩;simp only[go_sem];exact⟨(aa l1 (aa l2 (aa l3 (aa l4 (aa l5 (aa l6 l7)))))),x,e,s1,rfl,hx,rfl,by rw[oP,ae (by rw[<- ar];exact h0),ae (by rw[<- ar];exact h1),ae (by rw[<- ar];exact h2),ae (by rw[<- ar];exact h3),ae (by rw[<- ar];exact h4),aj (by rw[<- ar];exact h5),<- bD];exact bO hI (aJ h5) hR⟩
       ·have ha:=mo (en:=en) hT h5;refine ab ((ha m5).mono ?_);clear ha;rintro r H' m6 fb ⟨l6,rfl,rfl⟩;simp only[go_sem];by_cases h6:ah ts s.i [123]=true
        ·have ha:=mi (en:=en) hT h6;have hb:=W9 (en:=en) hT hI ew;clear hB ew;refine ab ((ha m6).mono ?_);clear ha;rintro r H' m7 gM ⟨l7,rfl,rfl⟩;simp only[go_sem];refine ab ((hb m7).mono ?_);clear hb;rintro r H' m8 ku ⟨l8,x,e,s1,rfl,hx,rfl,hR⟩;simp only[go_sem];exact⟨(aa l1 (aa l2 (aa l3 (aa l4 (aa l5 (aa l6 (aa l7 l8))))))),x,e,s1,rfl,hx,rfl,by rw[oP,ae (by rw[<- ar];exact h0),ae (by rw[<- ar];exact h1),ae (by rw[<- ar];exact h2),ae (by rw[<- ar];exact h3),ae (by rw[<- ar];exact h4),ae (by rw[<- ar];exact h5),aj (by rw[<- ar];exact h6)];exact hR⟩
        ·have ha:=mo (en:=en) hT h6;refine ab ((ha m6).mono ?_);clear ha;rintro r H' m7 gM ⟨l7,rfl,rfl⟩;simp only[go_sem];by_cases h7:ah ts s.i pR=true
         ·have ha:=mi (en:=en) hT h7;have hf:=fun m' =>CH (en:=en) hT hI [40] m'
          refine ab ((ha m7).mono ?_);clear ha;rintro r H' m8 ku ⟨l8,rfl,rfl⟩;simp only[go_sem];by_cases h8:aC [40] (ts.drop s.i).tail=true
          ·rw[h8] at hf;have hb:=X2 (en:=en) hT hI h7;clear hB ew;refine ab ((hf m8).mono ?_);clear hf;rintro r H' m9 nA ⟨l9,rfl,rfl⟩;simp only[go_sem];refine ab ((hb m9).mono ?_);clear hb;rintro r H' m10 vC ⟨l10,x,e,s1,rfl,hx,rfl,hR⟩;simp only[go_sem];exact⟨(aa l1 (aa l2 (aa l3 (aa l4 (aa l5 (aa l6 (aa l7 (aa l8 (aa l9 l10))))))))),x,e,s1,rfl,hx,rfl,by rw[oP,ae (by rw[<- ar];exact h0),ae (by rw[<- ar];exact h1),ae (by rw[<- ar];exact h2),ae (by rw[<- ar];exact h3),ae (by rw[<- ar];exact h4),ae (by rw[<- ar];exact h5),ae (by rw[<- ar];exact h6),aj ⟨by rw[<- ar];exact h7,h8⟩,<- bD];exact bO hI (aJ h7) hR⟩
          ·rw[(by simpa using h8:aC [40] (ts.drop s.i).tail=false)] at hf;refine ab ((hf m8).mono ?_);clear hf;rintro r H' m9 nA ⟨l9,rfl,rfl⟩;simp only[go_sem];have hd:=fun m' =>JN (en:=en) hT hI m'
           refine ab ((hd m9).mono ?_);clear hd;rintro r H' m10 vC ⟨l10,rfl,rfl⟩;simp only[go_sem];refine⟨fun h9=> ?_,fun h9=> ?_⟩
           ·have hb:=NM (en:=en) hT hI;clear hB ew;refine ab ((hb m10).mono ?_);clear hb;rintro r H' m11 ac4 ⟨IN,x,e,s1,rfl,hx,rfl,hR⟩;simp only[go_sem];exact⟨(aa l1 (aa l2 (aa l3 (aa l4 (aa l5 (aa l6 (aa l7 (aa l8 (aa l9 (aa l10 IN)))))))))),x,e,s1,rfl,hx,rfl,by rw[oP,ae (by rw[<- ar];exact h0),ae (by rw[<- ar];exact h1),ae (by rw[<- ar];exact h2),ae (by rw[<- ar];exact h3),ae (by rw[<- ar];exact h4),ae (by rw[<- ar];exact h5),ae (by rw[<- ar];exact h6),ae (fun q=>h8 q.2),aj h9];exact hR⟩
           ·have hb:=MX (en:=en) hT hI;clear hB ew;refine ab ((hb m10).mono ?_);clear hb;rintro r H' m11 ac4 ⟨IN,x,e,s1,rfl,hx,rfl,hR⟩;simp only[go_sem];exact⟨(aa l1 (aa l2 (aa l3 (aa l4 (aa l5 (aa l6 (aa l7 (aa l8 (aa l9 (aa l10 IN)))))))))),x,e,s1,rfl,hx,rfl,by rw[oP,ae (by rw[<- ar];exact h0),ae (by rw[<- ar];exact h1),ae (by rw[<- ar];exact h2),ae (by rw[<- ar];exact h3),ae (by rw[<- ar];exact h4),ae (by rw[<- ar];exact h5),ae (by rw[<- ar];exact h6),ae (fun q=>h8 q.2),ae (by rw[h9];decide)];exact hR⟩
         ·have ha:=mo (en:=en) hT h7;refine ab ((ha m7).mono ?_);clear ha;rintro r H' m8 ku ⟨l8,rfl,rfl⟩;simp only[go_sem];have hd:=fun m' =>JN (en:=en) hT hI m'
          refine ab ((hd m8).mono ?_);clear hd;rintro r H' m9 nA ⟨l9,rfl,rfl⟩;simp only[go_sem];refine⟨fun h9=> ?_,fun h9=> ?_⟩
          ·have hb:=NM (en:=en) hT hI;clear hB ew;refine ab ((hb m9).mono ?_);clear hb;rintro r H' m10 vC ⟨l10,x,e,s1,rfl,hx,rfl,hR⟩;simp only[go_sem];exact⟨(aa l1 (aa l2 (aa l3 (aa l4 (aa l5 (aa l6 (aa l7 (aa l8 (aa l9 l10))))))))),x,e,s1,rfl,hx,rfl,by rw[oP,ae (by rw[<- ar];exact h0),ae (by rw[<- ar];exact h1),ae (by rw[<- ar];exact h2),ae (by rw[<- ar];exact h3),ae (by rw[<- ar];exact h4),ae (by rw[<- ar];exact h5),ae (by rw[<- ar];exact h6),ae (fun q=>h7 (by rw[ar];exact q.1)),aj h9];exact hR⟩
          ·have hb:=MX (en:=en) hT hI;clear hB ew;refine ab ((hb m9).mono ?_);clear hb;rintro r H' m10 vC ⟨l10,x,e,s1,rfl,hx,rfl,hR⟩;simp only[go_sem];exact⟨(aa l1 (aa l2 (aa l3 (aa l4 (aa l5 (aa l6 (aa l7 (aa l8 (aa l9 l10))))))))),x,e,s1,rfl,hx,rfl,by rw[oP,ae (by rw[<- ar];exact h0),ae (by rw[<- ar];exact h1),ae (by rw[<- ar];exact h2),ae (by rw[<- ar];exact h3),ae (by rw[<- ar];exact h4),ae (by rw[<- ar];exact h5),ae (by rw[<- ar];exact h6),ae (fun q=>h7 (by rw[ar];exact q.1)),ae (by rw[h9];decide)];exact hR⟩
end
theorem Hb {ts:List Tk} {en:Int} (hT:TsB ts):∀(L:Nat) (s:PSt),Inv ts s->ts.length - s.i<L->Bi ts en s/\pX ts en s
 |0,s,_,h=>absurd h (Nat.not_lt_zero _)
 |L+1,s,hI,h=>by
  have later:∀s1,Inv ts s1->s.i<s1.i->Bi ts en s1/\pX ts en s1:=fun s1 h1 h2=>Hb hT L s1 h1 (by have:=h1.le;omega)
  have hb:pX ts en s:=Wc hT hI fun s1 h1 h2=>(later s1 h1 h2).1
  exact⟨WD hT hI hb fun s1 h1 h2=>(later s1 h1 h2).2,hb⟩
theorem stw {ts:List Tk} {en:Int} {s:PSt} (hT:TsB ts) (hI:Inv ts s):Bi ts en s:=(Hb hT _ s hI (Nat.lt_succ_self _)).1
theorem xZ {ts:List Tk} {en:Int} {s:PSt} (hT:TsB ts) (hI:Inv ts s):pX ts en s:=(Hb hT _ s hI (Nat.lt_succ_self _)).2
theorem ack:∀fl:Int,0<=fl->fl<1->bits .or .i64 fl 1=fl+1:=fun fl h0 h1=>by
 have h:(List.range 1).all (fun n=>decide (bits .or .i64 (n:Int) 1=(n:Int)+1))=true:=by kernel_rfl
 obtain⟨k,rfl⟩:=Int.eq_ofNat_of_zero_le h0;exact of_decide_eq_true (List.all_eq_true.1 h k (List.mem_range.2 (by omega)))
theorem acj:∀fl:Int,0<=fl->fl<2->bits .or .i64 fl 2=fl+2:=fun fl h0 h1=>by
 have h:(List.range 2).all (fun n=>decide (bits .or .i64 (n:Int) 2=(n:Int)+2))=true:=by kernel_rfl
 obtain⟨k,rfl⟩:=Int.eq_ofNat_of_zero_le h0;exact of_decide_eq_true (List.all_eq_true.1 h k (List.mem_range.2 (by omega)))
theorem aci:∀fl:Int,0<=fl->fl<4->bits .or .i64 fl 4=fl+4:=fun fl h0 h1=>by
 have h:(List.range 4).all (fun n=>decide (bits .or .i64 (n:Int) 4=(n:Int)+4))=true:=by kernel_rfl
 obtain⟨k,rfl⟩:=Int.eq_ofNat_of_zero_le h0;exact of_decide_eq_true (List.all_eq_true.1 h k (List.mem_range.2 (by omega)))
theorem ach:∀fl:Int,0<=fl->fl<8->bits .or .i64 fl 8=fl+8:=fun fl h0 h1=>by
 have h:(List.range 8).all (fun n=>decide (bits .or .i64 (n:Int) 8=(n:Int)+8))=true:=by kernel_rfl
 obtain⟨k,rfl⟩:=Int.eq_ofNat_of_zero_le h0;exact of_decide_eq_true (List.all_eq_true.1 h k (List.mem_range.2 (by omega)))
theorem OV:∀fl:Int,0<=fl->fl<16->bits .or .i64 fl 16=fl+16:=fun fl h0 h1=>by
 have h:(List.range 16).all (fun n=>decide (bits .or .i64 (n:Int) 16=(n:Int)+16))=true:=by kernel_rfl
 obtain⟨k,rfl⟩:=Int.eq_ofNat_of_zero_le h0;exact of_decide_eq_true (List.all_eq_true.1 h k (List.mem_range.2 (by omega)))
theorem ZR:∀fl:Int,0<=fl->fl<32->bits .or .i64 fl 32=fl+32:=fun fl h0 h1=>by
 have h:(List.range 32).all (fun n=>decide (bits .or .i64 (n:Int) 32=(n:Int)+32))=true:=by kernel_rfl
 obtain⟨k,rfl⟩:=Int.eq_ofNat_of_zero_le h0;exact of_decide_eq_true (List.all_eq_true.1 h k (List.mem_range.2 (by omega)))
theorem Hh:∀fl:Int,0<=fl->fl<64->bits .or .i64 fl 1024=fl+1024:=fun fl h0 h1=>by
 have h:(List.range 64).all (fun n=>decide (bits .or .i64 (n:Int) 1024=(n:Int)+1024))=true:=by kernel_rfl
 obtain⟨k,rfl⟩:=Int.eq_ofNat_of_zero_le h0;exact of_decide_eq_true (List.all_eq_true.1 h k (List.mem_range.2 (by omega)))
theorem Zl:iQ Tryz.prog 155=some 3:=by kernel_rfl
theorem Ws:ft Tryz.prog 3=some [.v (.int .i64 0)]:=by kernel_rfl
attribute [go_sem] Zl Ws
theorem eE (p:Int×List UInt8) (q:List (Int×List UInt8)) (fl:Int) (l:List Tk):bg (p::q) fl l=if aC p.2 l=true then bg q (fl+p.1) l.tail else bg q fl l:=rfl
structure ModR (ts:List Tk) (q:List (Int×List UInt8)) (fl0:Int) (s:PSt) (v:Int) (s' :PSt):Prop where
 inv:Inv ts s'
 mono:s.i<=s'.i
 fl:s'.fl=s.fl
 same:s.fl=true->s' =s
 val:bg q fl0 (ts.drop s.i)=(v,ts.drop s'.i)
section
variable {ts:List Tk} {en:Int} {s:PSt}
theorem Q9 (hT:TsB ts) (hI:Inv ts s) (m:Mem):FnH Tryz.prog 127 [.box 0 0] (pH ts en s) m fun r H' m' =>an m m' /\∃fl s',r= .v (.int .i64 fl)/\(0<=fl/\fl<2048)/\H' =pH ts en s' /\ModR ts bH 0 s fl s' :=by
 refine aL ay Tryz.func127 ?_
 ·simp only[go_sem];refine cO ay (fun y:Nat×PSt×Int×Mem=>⟨[⟨0,[],.box 0 0⟩,⟨3,[],.v (.int .i64 y.2.2.1)⟩,⟨6,[],.vec 2 0⟩,⟨7,[],.v (.int .i64 7)⟩,⟨8,[],.v (.int .i64 y.1)⟩],[],[lT en y.2.1],[⟨2,0,9,1,7,[.string (bs [112,117,98,108,105,99]),.string (bs [112,114,105,118,97,116,101]),.string (bs [112,114,111,116,101,99,116,101,100]),.string (bs [115,116,97,116,105,99]),.string (bs [102,105,110,97,108]),.string (bs [115,121,110,99]),.string (bs [97,98,115,116,114,97,99,116])]⟩,j4 ts],40,y.2.2.2⟩)
   (fun y=>an m y.2.2.2/\y.1<=7/\Inv ts y.2.1/\s.i<=y.2.1.i/\y.2.1.fl=s.fl/\(s.fl=true->y.2.1=s)/\(0<=y.2.2.1/\y.2.2.1<2048/\(y.1<=6->y.2.2.1<2 ^ y.1))/\bg (bH.drop y.1) y.2.2.1 (ts.drop y.2.1.i)=bg bH 0 (ts.drop s.i))
   (fun y=>7 - y.1) (0,s,0,m) (fun _ _=>dL rfl) (fun y hy=>hy.1) ?_ ?_ ?_
  ·simp only[go_sem];exact⟨rfl,rfl⟩
  ·exact⟨.inl rfl,au _,hI,aq _,rfl,fun _=>rfl,⟨by dsimp only;omega,by dsimp only;omega,fun _=>by dsimp only;omega⟩,rfl⟩
  ·rintro⟨i,s1,fl,m1⟩ ⟨q1,q2,q3,q4,q5,q6,⟨q7,q8,q9⟩,q10⟩;dsimp only at q1 q2 q3 q4 q5 q6 q7 q8 q9 q10;have hs:i=0\/i=1\/i=2\/i=3\/i=4\/i=5\/i=6\/i=7:=by omega
   rcases hs with rfl |rfl |rfl |rfl |rfl |rfl |rfl |rfl
   ·have ix:fl<1:=q9 (by decide);have pD:=ack fl q7 ix;by_cases hc:ah ts s1.i [112,117,98,108,105,99]=true
    ·have ha:=dA (en:=en) hT hc;have hi:=aJ hc;simp only[go_sem];refine⟨fun _=>⟨⟨by decide,by decide⟩,by kernel_rfl,dh ((ha m1).mono ?_)⟩,fun h=>absurd (by decide) h⟩;clear ha;rintro r H' m2 aH ⟨l2,rfl,rfl⟩;simp only[go_sem,pD];refine⟨⟨by decide,by decide⟩,⟨by decide,by decide⟩,(1,s1.next,fl+1,m2),⟨⟨rfl,rfl⟩,⟨rfl,rfl,rfl⟩,.inl rfl⟩,⟨aa q1 l2,(by decide:1<=7),q3.next hi,Nat.le_succ_of_le q4,q5,fun h=> ?_,⟨by dsimp only;omega,by dsimp only;omega,fun h=> ?_⟩,?_⟩,(by decide:7 - 1<7 - 0)⟩
     ·have h1:=q3.nfl hi;rw[q5,h] at h1;cases h1
     ·first |(exact absurd h (by decide:¬7<=6)) |(dsimp only;omega)
     ·rw[show bH.drop 0=(1,[112,117,98,108,105,99])::bH.drop 1 from rfl,eE,aj (by rw[<- ar];exact hc),<- bD] at q10;exact q10
    ·have ha:=dC (en:=en) hT hc;simp only[go_sem];refine⟨fun _=>⟨⟨by decide,by decide⟩,by kernel_rfl,dh ((ha m1).mono ?_)⟩,fun h=>absurd (by decide) h⟩;clear ha;rintro r H' m2 aH ⟨l2,rfl,rfl⟩;simp only[go_sem];refine⟨⟨by decide,by decide⟩,(1,s1,fl,m2),⟨⟨rfl,rfl⟩,⟨rfl,rfl,rfl⟩,.inl rfl⟩,⟨aa q1 l2,(by decide:1<=7),q3,q4,q5,q6,⟨q7,q8,fun h=> ?_⟩,?_⟩,(by decide:7 - 1<7 - 0)⟩
     ·first |(exact absurd h (by decide:¬7<=6)) |(dsimp only;omega)
     ·rw[show bH.drop 0=(1,[112,117,98,108,105,99])::bH.drop 1 from rfl,eE,ae (by rw[<- ar];exact hc)] at q10;exact q10
   ·have ix:fl<2:=q9 (by decide);have pD:=acj fl q7 ix;by_cases hc:ah ts s1.i [112,114,105,118,97,116,101]=true
    ·have ha:=dA (en:=en) hT hc;have hi:=aJ hc;simp only[go_sem];refine⟨fun _=>⟨⟨by decide,by decide⟩,by kernel_rfl,dh ((ha m1).mono ?_)⟩,fun h=>absurd (by decide) h⟩;clear ha;rintro r H' m2 aH ⟨l2,rfl,rfl⟩;simp only[go_sem,pD];refine⟨⟨by decide,by decide⟩,⟨by decide,by decide⟩,(2,s1.next,fl+2,m2),⟨⟨rfl,rfl⟩,⟨rfl,rfl,rfl⟩,.inl rfl⟩,⟨aa q1 l2,(by decide:2<=7),q3.next hi,Nat.le_succ_of_le q4,q5,fun h=> ?_,⟨by dsimp only;omega,by dsimp only;omega,fun h=> ?_⟩,?_⟩,(by decide:7 - 2<7 - 1)⟩
     ·have h1:=q3.nfl hi;rw[q5,h] at h1;cases h1
     ·first |(exact absurd h (by decide:¬7<=6)) |(dsimp only;omega)
     ·rw[show bH.drop 1=(2,[112,114,105,118,97,116,101])::bH.drop 2 from rfl,eE,aj (by rw[<- ar];exact hc),<- bD] at q10;exact q10
    ·have ha:=dC (en:=en) hT hc;simp only[go_sem];refine⟨fun _=>⟨⟨by decide,by decide⟩,by kernel_rfl,dh ((ha m1).mono ?_)⟩,fun h=>absurd (by decide) h⟩;clear ha;rintro r H' m2 aH ⟨l2,rfl,rfl⟩;simp only[go_sem];refine⟨⟨by decide,by decide⟩,(2,s1,fl,m2),⟨⟨rfl,rfl⟩,⟨rfl,rfl,rfl⟩,.inl rfl⟩,⟨aa q1 l2,(by decide:2<=7),q3,q4,q5,q6,⟨q7,q8,fun h=> ?_⟩,?_⟩,(by decide:7 - 2<7 - 1)⟩
     ·first |(exact absurd h (by decide:¬7<=6)) |(dsimp only;omega)
     ·rw[show bH.drop 1=(2,[112,114,105,118,97,116,101])::bH.drop 2 from rfl,eE,ae (by rw[<- ar];exact hc)] at q10;exact q10
   ·have ix:fl<4:=q9 (by decide);have pD:=aci fl q7 ix;by_cases hc:ah ts s1.i [112,114,111,116,101,99,116,101,100]=true
    ·have ha:=dA (en:=en) hT hc;have hi:=aJ hc;simp only[go_sem];refine⟨fun _=>⟨⟨by decide,by decide⟩,by kernel_rfl,dh ((ha m1).mono ?_)⟩,fun h=>absurd (by decide) h⟩;clear ha;rintro r H' m2 aH ⟨l2,rfl,rfl⟩;simp only[go_sem,pD];refine⟨⟨by decide,by decide⟩,⟨by decide,by decide⟩,(3,s1.next,fl+4,m2),⟨⟨rfl,rfl⟩,⟨rfl,rfl,rfl⟩,.inl rfl⟩,⟨aa q1 l2,(by decide:3<=7),q3.next hi,Nat.le_succ_of_le q4,q5,fun h=> ?_,⟨by dsimp only;omega,by dsimp only;omega,fun h=> ?_⟩,?_⟩,(by decide:7 - 3<7 - 2)⟩
     ·have h1:=q3.nfl hi;rw[q5,h] at h1;cases h1
     ·first |(exact absurd h (by decide:¬7<=6)) |(dsimp only;omega)
     ·rw[show bH.drop 2=(4,[112,114,111,116,101,99,116,101,100])::bH.drop 3 from rfl,eE,aj (by rw[<- ar];exact hc),<- bD] at q10;exact q10
    ·have ha:=dC (en:=en) hT hc;simp only[go_sem];refine⟨fun _=>⟨⟨by decide,by decide⟩,by kernel_rfl,dh ((ha m1).mono ?_)⟩,fun h=>absurd (by decide) h⟩;clear ha;rintro r H' m2 aH ⟨l2,rfl,rfl⟩;simp only[go_sem];refine⟨⟨by decide,by decide⟩,(3,s1,fl,m2),⟨⟨rfl,rfl⟩,⟨rfl,rfl,rfl⟩,.inl rfl⟩,⟨aa q1 l2,(by decide:3<=7),q3,q4,q5,q6,⟨q7,q8,fun h=> ?_⟩,?_⟩,(by decide:7 - 3<7 - 2)⟩
     ·first |(exact absurd h (by decide:¬7<=6)) |(dsimp only;omega)
     ·rw[show bH.drop 2=(4,[112,114,111,116,101,99,116,101,100])::bH.drop 3 from rfl,eE,ae (by rw[<- ar];exact hc)] at q10;exact q10
   ·have ix:fl<8:=q9 (by decide);have pD:=ach fl q7 ix;by_cases hc:ah ts s1.i [115,116,97,116,105,99]=true
    ·have ha:=dA (en:=en) hT hc;have hi:=aJ hc;simp only[go_sem];refine⟨fun _=>⟨⟨by decide,by decide⟩,by kernel_rfl,dh ((ha m1).mono ?_)⟩,fun h=>absurd (by decide) h⟩;clear ha;rintro r H' m2 aH ⟨l2,rfl,rfl⟩;simp only[go_sem,pD];refine⟨⟨by decide,by decide⟩,⟨by decide,by decide⟩,(4,s1.next,fl+8,m2),⟨⟨rfl,rfl⟩,⟨rfl,rfl,rfl⟩,.inl rfl⟩,⟨aa q1 l2,(by decide:4<=7),q3.next hi,Nat.le_succ_of_le q4,q5,fun h=> ?_,⟨by dsimp only;omega,by dsimp only;omega,fun h=> ?_⟩,?_⟩,(by decide:7 - 4<7 - 3)⟩
     ·have h1:=q3.nfl hi;rw[q5,h] at h1;cases h1
     ·first |(exact absurd h (by decide:¬7<=6)) |(dsimp only;omega)
     ·rw[show bH.drop 3=(8,[115,116,97,116,105,99])::bH.drop 4 from rfl,eE,aj (by rw[<- ar];exact hc),<- bD] at q10;exact q10
    ·have ha:=dC (en:=en) hT hc;simp only[go_sem];refine⟨fun _=>⟨⟨by decide,by decide⟩,by kernel_rfl,dh ((ha m1).mono ?_)⟩,fun h=>absurd (by decide) h⟩;clear ha;rintro r H' m2 aH ⟨l2,rfl,rfl⟩;simp only[go_sem];refine⟨⟨by decide,by decide⟩,(4,s1,fl,m2),⟨⟨rfl,rfl⟩,⟨rfl,rfl,rfl⟩,.inl rfl⟩,⟨aa q1 l2,(by decide:4<=7),q3,q4,q5,q6,⟨q7,q8,fun h=> ?_⟩,?_⟩,(by decide:7 - 4<7 - 3)⟩
     ·first |(exact absurd h (by decide:¬7<=6)) |(dsimp only;omega)
     ·rw[show bH.drop 3=(8,[115,116,97,116,105,99])::bH.drop 4 from rfl,eE,ae (by rw[<- ar];exact hc)] at q10;exact q10
   ·have ix:fl<16:=q9 (by decide);have pD:=OV fl q7 ix;by_cases hc:ah ts s1.i [102,105,110,97,108]=true
    ·have ha:=dA (en:=en) hT hc;have hi:=aJ hc;simp only[go_sem];refine⟨fun _=>⟨⟨by decide,by decide⟩,by kernel_rfl,dh ((ha m1).mono ?_)⟩,fun h=>absurd (by decide) h⟩;clear ha;rintro r H' m2 aH ⟨l2,rfl,rfl⟩;simp only[go_sem,pD];refine⟨⟨by decide,by decide⟩,⟨by decide,by decide⟩,(5,s1.next,fl+16,m2),⟨⟨rfl,rfl⟩,⟨rfl,rfl,rfl⟩,.inl rfl⟩,⟨aa q1 l2,(by decide:5<=7),q3.next hi,Nat.le_succ_of_le q4,q5,fun h=> ?_,⟨by dsimp only;omega,by dsimp only;omega,fun h=> ?_⟩,?_⟩,(by decide:7 - 5<7 - 4)⟩
     ·have h1:=q3.nfl hi;rw[q5,h] at h1;cases h1
     ·first |(exact absurd h (by decide:¬7<=6)) |(dsimp only;omega)
     ·rw[show bH.drop 4=(16,[102,105,110,97,108])::bH.drop 5 from rfl,eE,aj (by rw[<- ar];exact hc),<- bD] at q10;exact q10
    ·have ha:=dC (en:=en) hT hc;simp only[go_sem];refine⟨fun _=>⟨⟨by decide,by decide⟩,by kernel_rfl,dh ((ha m1).mono ?_)⟩,fun h=>absurd (by decide) h⟩;clear ha;rintro r H' m2 aH ⟨l2,rfl,rfl⟩;simp only[go_sem];refine⟨⟨by decide,by decide⟩,(5,s1,fl,m2),⟨⟨rfl,rfl⟩,⟨rfl,rfl,rfl⟩,.inl rfl⟩,⟨aa q1 l2,(by decide:5<=7),q3,q4,q5,q6,⟨q7,q8,fun h=> ?_⟩,?_⟩,(by decide:7 - 5<7 - 4)⟩
     ·first |(exact absurd h (by decide:¬7<=6)) |(dsimp only;omega)
     ·rw[show bH.drop 4=(16,[102,105,110,97,108])::bH.drop 5 from rfl,eE,ae (by rw[<- ar];exact hc)] at q10;exact q10
   ·have ix:fl<32:=q9 (by decide);have pD:=ZR fl q7 ix;by_cases hc:ah ts s1.i [115,121,110,99]=true
    ·have ha:=dA (en:=en) hT hc;have hi:=aJ hc;simp only[go_sem];refine⟨fun _=>⟨⟨by decide,by decide⟩,by kernel_rfl,dh ((ha m1).mono ?_)⟩,fun h=>absurd (by decide) h⟩;clear ha;rintro r H' m2 aH ⟨l2,rfl,rfl⟩;simp only[go_sem,pD];refine⟨⟨by decide,by decide⟩,⟨by decide,by decide⟩,(6,s1.next,fl+32,m2),⟨⟨rfl,rfl⟩,⟨rfl,rfl,rfl⟩,.inl rfl⟩,⟨aa q1 l2,(by decide:6<=7),q3.next hi,Nat.le_succ_of_le q4,q5,fun h=> ?_,⟨by dsimp only;omega,by dsimp only;omega,fun h=> ?_⟩,?_⟩,(by decide:7 - 6<7 - 5)⟩
     ·have h1:=q3.nfl hi;rw[q5,h] at h1;cases h1
     ·first |(exact absurd h (by decide:¬7<=6)) |(dsimp only;omega)
     ·rw[show bH.drop 5=(32,[115,121,110,99])::bH.drop 6 from rfl,eE,aj (by rw[<- ar];exact hc),<- bD] at q10;exact q10
    ·have ha:=dC (en:=en) hT hc;simp only[go_sem];refine⟨fun _=>⟨⟨by decide,by decide⟩,by kernel_rfl,dh ((ha m1).mono ?_)⟩,fun h=>absurd (by decide) h⟩;clear ha;rintro r H' m2 aH ⟨l2,rfl,rfl⟩;simp only[go_sem];refine⟨⟨by decide,by decide⟩,(6,s1,fl,m2),⟨⟨rfl,rfl⟩,⟨rfl,rfl,rfl⟩,.inl rfl⟩,⟨aa q1 l2,(by decide:6<=7),q3,q4,q5,q6,⟨q7,q8,fun h=> ?_⟩,?_⟩,(by decide:7 - 6<7 - 5)⟩
     ·first |(exact absurd h (by decide:¬7<=6)) |(dsimp only;omega)
     ·rw[show bH.drop 5=(32,[115,121,110,99])::bH.drop 6 from rfl,eE,ae (by rw[<- ar];exact hc)] at q10;exact q10
   ·have ix:fl<64:=q9 (by decide);have pD:=Hh fl q7 ix;by_cases hc:ah ts s1.i [97,98,115,116,114,97,99,116]=true
    ·have ha:=dA (en:=en) hT hc;have hi:=aJ hc;simp only[go_sem];refine⟨fun _=>⟨⟨by decide,by decide⟩,by kernel_rfl,dh ((ha m1).mono ?_)⟩,fun h=>absurd (by decide) h⟩;clear ha;rintro r H' m2 aH ⟨l2,rfl,rfl⟩;simp only[go_sem,pD];refine⟨⟨by decide,by decide⟩,⟨by decide,by decide⟩,(7,s1.next,fl+1024,m2),⟨⟨rfl,rfl⟩,⟨rfl,rfl,rfl⟩,.inl rfl⟩,⟨aa q1 l2,(by decide:7<=7),q3.next hi,Nat.le_succ_of_le q4,q5,fun h=> ?_,⟨by dsimp only;omega,by dsimp only;omega,fun h=> ?_⟩,?_⟩,(by decide:7 - 7<7 - 6)⟩
     ·have h1:=q3.nfl hi;rw[q5,h] at h1;cases h1
     ·first |(exact absurd h (by decide:¬7<=6)) |(dsimp only;omega)
     ·rw[show bH.drop 6=(1024,[97,98,115,116,114,97,99,116])::bH.drop 7 from rfl,eE,aj (by rw[<- ar];exact hc),<- bD] at q10;exact q10
    ·have ha:=dC (en:=en) hT hc;simp only[go_sem];refine⟨fun _=>⟨⟨by decide,by decide⟩,by kernel_rfl,dh ((ha m1).mono ?_)⟩,fun h=>absurd (by decide) h⟩;clear ha;rintro r H' m2 aH ⟨l2,rfl,rfl⟩;simp only[go_sem];refine⟨⟨by decide,by decide⟩,(7,s1,fl,m2),⟨⟨rfl,rfl⟩,⟨rfl,rfl,rfl⟩,.inl rfl⟩,⟨aa q1 l2,(by decide:7<=7),q3,q4,q5,q6,⟨q7,q8,fun h=> ?_⟩,?_⟩,(by decide:7 - 7<7 - 6)⟩
     ·first |(exact absurd h (by decide:¬7<=6)) |(dsimp only;omega)
     ·rw[show bH.drop 6=(1024,[97,98,115,116,114,97,99,116])::bH.drop 7 from rfl,eE,ae (by rw[<- ar];exact hc)] at q10;exact q10
   ·simp only[go_sem];refine⟨fun h=>absurd h (by decide),fun _=>⟨aa (.inl rfl) q1,fl,s1,rfl,⟨q7,q8⟩,rfl,q3,q4,q5,q6,q10.symm⟩⟩
end
theorem adu:nE Tryz.prog 160=48:=by kernel_rfl
attribute [go_sem] adu
abbrev adT (ts:List Tk) (en:Int) (s:PSt) (K:PR (List (List UInt8))) (m:Mem):SV->Hp->Mem->Prop:=fun r H' m' =>an m m' /\∃(l:List (List UInt8)) (a:Option Addr) (c:Nat) (s' :PSt),r= .v (.slice a l.length c)/\l.length<=c/\l.length<=1000001/\aK m' a l.length 1 (strs l)/\(∀w∈l,w.length<=1000000)/\H' =pH ts en s' /\Res ts en s K l s'
abbrev adP (ts:List Tk) (en:Int) (s:PSt) (K:PR (List Pc)) (m:Mem):SV->Hp->Mem->Prop:=fun r H' m' =>an m m' /\∃(l:List Pc) (a:Option Addr) (c:Nat) (s' :PSt),r= .v (.slice a l.length c)/\l.length<=c/\l.length<=1000001/\aK m' a l.length 4 (flat Pc.cs l)/\(∀p∈l,PcOk p)/\H' =pH ts en s' /\Res ts en s K l s'
noncomputable def vI (l:List Tk):PR (List (List UInt8)):=av (fw l) fun s r=>wQ [s] r
theorem Tg (l:List (List UInt8)) (w:List UInt8):strs (l++[w])=strs l++[.string (bs w)]:=by simp [strs]
theorem uO {α:Type} (f:α->List Value) (l:List α) (x:α):flat f (l++[x])=flat f l++f x:=by simp [flat]
theorem Dj {α:Type} {p:α->Prop} {l:List α} {x:α} (h:∀y∈l,p y) (hx:p x):∀y∈l++[x],p y:=fun y hy=>by
 rcases List.mem_append.1 hy with h1 |h1
 ·exact h y h1
 ·rw[List.mem_singleton.1 h1];exact hx
section
variable {ts:List Tk} {en:Int} {s:PSt}
theorem zX (hT:TsB ts) (hI:Inv ts s) (m:Mem):FnH Tryz.prog 51 [.box 0 0] (pH ts en s) m (adT ts en s (vI (ts.drop s.i)) m):=by
 have h1:=fun m' =>oN ts en s m' hT hI
 refine iA (aL ay Tryz.func51 ?_)
 ·simp only[go_sem];refine ab ((h1 m).mono ?_);clear h1;rintro r H' m1 aN ⟨l1,w,s1,rfl,hw,rfl,dR⟩;simp only[go_sem];refine cO ay (fun y:PSt×List (List UInt8)×Nat×Mem=>⟨[⟨0,[],.box 0 0⟩,⟨3,[],.vec 4 y.2.2.1⟩],[],[lT en y.1],[⟨4,y.2.2.1,9,1,y.2.1.length,strs y.2.1⟩,j4 ts],40,y.2.2.2⟩)
   (fun y=>an m1 y.2.2.2/\Inv ts y.1/\y.2.1.length<=y.1.i+1/\(∀w∈y.2.1,w.length<=1000000)/\∀a s',Res ts en y.1 (wQ y.2.1 (ts.drop y.1.i)) a s' ->Res ts en s (vI (ts.drop s.i)) a s')
   (fun y=>ts.length - y.1.i) (s1,[w],0,m1) (fun _ _=>dL rfl) (fun y hy=>hy.1) ?_ ?_ ?_
  ·simp only[go_sem];exact rfl
  ·exact⟨.inl rfl,dR.inv,by simp,fun x hx=>by rw[List.mem_singleton.1 hx];exact hw,fun a s' h=>aR dR h⟩
  ·rintro⟨s4,l,u,m4⟩ ⟨q1,q2,q3,q4,q5⟩;dsimp only at q1 q2 q3 q4 q5;have hl:=hT.len;have dM:=q2.le;by_cases hc:ah ts s4.i [44]=true
   ·have ha:=dA (en:=en) hT hc;have hi:=aJ hc;have fU:=q2.next hi;have hb:=fun m' =>oN ts en s4.next m' hT fU
    simp only[go_sem];refine ab ((ha m4).mono ?_);clear ha;rintro r H' m5 cW ⟨l5,rfl,rfl⟩;simp only[go_sem];refine ab ((hb m5).mono ?_);clear hb;rintro r H' m6 fb ⟨l6,w6,s6,rfl,zJ,rfl,hR6⟩;have sL:=hR6.mono;have rP:s4.next.i=s4.i+1:=rfl;simp only[go_sem];refine⟨fK (by omega) (by decide),(s6,l++[w6],u+1,m6),⟨rfl,⟨rfl,rfl,rfl⟩,⟨rfl,by simp,(Tg l w6).symm⟩,.inl rfl⟩,⟨aa q1 (aa l5 l6),hR6.inv,by simp only[bM,fr];omega,Dj q4 zJ,fun a s' h=>q5 a s' ?_⟩,by dsimp only;omega⟩;rw[Gy,aj (by rw[<- ar];exact hc),<- bD];exact bO q2 hi (aR hR6 h)
   ·have ha:=dC (en:=en) hT hc;simp only[go_sem];refine ab ((ha m4).mono ?_);clear ha;rintro r H' m5 cW ⟨l5,rfl,rfl⟩;simp only[go_sem];refine AE (b:=⟨4,u,9,1,l.length,strs l⟩) (by simp [cN]) (pH ts en s4) (List.Sublist.refl _) (.cons_cons _ (List.nil_sublist _)) fun a c mm w1 w2 w3=>⟨aa (aa l1 q1) (aa l5 (.inr w1)),l,a,c,s4,rfl,w2,by omega,w3,q4,rfl,q5 _ _ ?_⟩
    rw[Gy,ae (by rw[<- ar];exact hc)];exact bY _ q2
theorem yh (hT:TsB ts) (hI:Inv ts s) (m:Mem):FnH Tryz.prog 129 [.box 0 0] (pH ts en s) m (adP ts en s (mP (ts.drop s.i)) m):=by
 have h1:=fun m' =>eV ts en s [40] m' hT.l8
 have uI:Inv ts (aU ts en s [40]):=ff hI;by_cases hc:ah ts (aU ts en s [40]).i [41]=true
 ·have h2:=dA (en:=en) hT hc;have hi:=aJ hc;refine iA (aL ay Tryz.func129 ?_)
  ·simp only[go_sem];refine ab ((h1 m).mono ?_);clear h1;rintro r H' m1 aN ⟨l1,rfl,rfl⟩;simp only[go_sem];refine ab ((h2 m1).mono ?_);clear h2;rintro r H' m2 aH ⟨l2,rfl,rfl⟩;simp only[go_sem];refine .inl ⟨aa l1 l2,[],none,0,_,rfl,aq _,au _,cX _ _,fun p hp=>(by cases hp),rfl,?_⟩;unfold mP;refine dI hI ?_;rw[<- ar,aj hc,<- bD];exact bO uI hi (bY _ (uI.next hi))
 ·have h2:=dC (en:=en) hT hc;refine iA (aL ay Tryz.func129 ?_)
  ·simp only[go_sem];refine ab ((h1 m).mono ?_);clear h1;rintro r H' m1 aN ⟨l1,rfl,rfl⟩;simp only[go_sem];refine ab ((h2 m1).mono ?_);clear h2;rintro r H' m2 aH ⟨l2,rfl,rfl⟩;simp only[go_sem];refine pO 3 160 4 (by decide) rfl ?_;refine cO ay (fun y:PSt×Bool×List Pc×Nat×Mem=>⟨[⟨0,[],.box 0 0⟩,⟨3,[],.vec 6 y.2.2.2.1⟩,⟨4,[],.v (.bool y.2.1)⟩],[],[lT en y.1],[⟨6,y.2.2.2.1,160,4,y.2.2.1.length,flat Pc.cs y.2.2.1⟩,j4 ts],40,y.2.2.2.2⟩)
    (fun y=>an m2 y.2.2.2.2/\Inv ts y.1/\(y.2.2.1.length<=y.1.i+(if y.2.1=true then 0 else 1))/\(∀p∈y.2.2.1,PcOk p)/\
     (y.2.1=true->∀a s',Res ts en y.1 (av (fN (ts.drop y.1.i)) fun t r=>av (dr r) fun w r2=>yP (y.2.2.1++[⟨t,w⟩]) r2) a s' ->Res ts en s (mP (ts.drop s.i)) a s')/\
     (y.2.1=false->∀a s',Res ts en y.1 (aW [41] (ts.drop y.1.i) fun r=> .ok (y.2.2.1,r)) a s' ->Res ts en s (mP (ts.drop s.i)) a s'))
    (fun y=>if y.2.1=true then ts.length - y.1.i+1 else 0) (aU ts en s [40],true,[],0,m2) (fun _ _=>dL rfl) (fun y hy=>hy.1) ?_ ?_ ?_
   ·simp only[go_sem];exact rfl
   ·refine⟨.inl rfl,uI,au _,fun p hp=>(by cases hp),fun _ a s' h=> ?_,fun h=>(by cases h)⟩;unfold mP;refine dI hI ?_;rw[<- ar,ae hc];exact h
   ·rintro⟨s4,b,l,u,m4⟩ ⟨q1,q2,q3,q4,q5,q6⟩;dsimp only at q1 q2 q3 q4 q5 q6;have hl:=hT.len;have dM:=q2.le;cases b with
    |true=>
     rw[aj rfl] at q3;have hb:=fun m' =>wx ts en s4 m' hT q2
     simp only[go_sem];refine ab ((hb m4).mono ?_);clear hb;rintro r H' m5 cW ⟨l5,t,s5,rfl,ht,hu,rfl,hR5⟩;have By:=hR5.mono;have hb:=fun m' =>qF ts en s5 m' hT hR5.inv
     simp only[go_sem];refine cg (.hoist 0 (.hoist 1 (.hoist 2 (.alt 3 [1,0] (.hoist 4 (.alt 5 [0] (.alt 6 [] (.hoist 7 .done) .stop) .stop)) .stop)))) ay (by kernel_rfl) (by kernel_rfl) ?_;simp only[go_sem];refine ab ((hb m5).mono ?_);clear hb;rintro r H' m6 fb ⟨l6,w6,s6,rfl,zJ,rfl,hR6⟩;have sL:=hR6.mono;have uC:PcOk ⟨t,w6⟩:=⟨ht,by unfold aA;dsimp only;omega⟩;have age:=hR6.inv.le;simp only[go_sem];refine⟨⟨l6,l6⟩,l6,fK (by omega) (by decide),?_⟩;by_cases h44:ah ts s6.i [44]=true
     ·have ha:=dA (en:=en) hT h44;have hi:=aJ h44;have hn:s6.next.i=s6.i+1:=rfl;refine ab ((ha m6).mono ?_);clear ha;rintro r H' m7 gM ⟨l7,rfl,rfl⟩;simp only[go_sem];refine⟨(s6.next,true,l++[⟨t,w6⟩],u+1,m7),⟨⟨rfl,rfl⟩,⟨rfl,rfl,rfl⟩,⟨rfl,by simp,by rw[uO];rfl⟩,.inl rfl⟩,⟨aa q1 (aa l5 (aa l6 l7)),hR6.inv.next hi,?_,Dj q4 uC,fun _ a s' h=>q5 rfl a s' ?_,fun h=>(by cases h)⟩,?_⟩
      ·dsimp only;rw[aj rfl,bM,fr];omega
      ·refine aR hR5 (aR hR6 ?_);rw[Gf,aj (by rw[<- ar];exact h44),<- bD];exact bO hR6.inv hi h
      ·dsimp only;try rw[aj rfl]
       omega
     ·have ha:=dC (en:=en) hT h44;refine ab ((ha m6).mono ?_);clear ha;rintro r H' m7 gM ⟨l7,rfl,rfl⟩;simp only[go_sem];refine⟨(s6,false,l++[⟨t,w6⟩],u+1,m7),⟨⟨rfl,rfl⟩,⟨rfl,rfl,rfl⟩,⟨rfl,by simp,by rw[uO];rfl⟩,.inl rfl⟩,⟨aa q1 (aa l5 (aa l6 l7)),hR6.inv,?_,Dj q4 uC,fun h=>(by cases h),fun _ a s' h=>q5 rfl a s' ?_⟩,?_⟩
      ·dsimp only;rw[ae (by decide),bM,fr];omega
      ·refine aR hR5 (aR hR6 ?_);rw[Gf,ae (by rw[<- ar];exact h44)];exact h
      ·dsimp only;rw[ae (by decide)];omega
    |false=>
     rw[ae (by decide)] at q3;have hb:=fun m' =>eV ts en s4 [41] m' hT.l8
     simp only[go_sem];refine ab ((hb m4).mono ?_);clear hb;rintro r H' m5 cW ⟨l5,rfl,rfl⟩;simp only[go_sem];exact AE (b:=⟨6,u,160,4,l.length,flat Pc.cs l⟩) (by simp [cN]) (pH ts en (aU ts en s4 [41])) (List.Sublist.refl _) (.cons_cons _ (List.nil_sublist _)) fun a c mm w1 w2 w3=>⟨aa (aa l1 l2) (aa q1 (aa l5 (.inr w1))),l,a,c,_,rfl,w2,by omega,w3,q4,rfl,q6 rfl _ _ (dI q2 (bY _ (ff q2)))⟩
end
theorem adx:nE Tryz.prog 94=56:=by kernel_rfl
theorem adv:nE Tryz.prog 98=112:=by kernel_rfl
attribute [go_sem] adx adv
structure DSt where
 d:Cd
 ia:Option Addr
 ic:Nat
 uf:Nat
 um:Nat
 ui:Nat
 ms:List Value
 is:List Value
abbrev mH (ts:List Tk) (en:Int) (s:PSt) (y:DSt):Hp:=⟨[⟨0,62,[.vec 2 0,.v (.int .i64 s.i),.v (.int .i64 en),.v (.bool s.fl),.v (.int .i64 s.off)]⟩,
  ⟨1,59,[.v (.int .i64 y.d.fl),.v (.string (bs y.d.name)),.v (.string (bs y.d.super)),.v (.slice y.ia y.d.ifs.length y.ic),.vec 3 y.uf,.vec 4 y.um,.vec 5 y.ui]⟩],
 [⟨2,0,50,4,ts.length,cG ts⟩,⟨3,y.uf,94,5,y.d.fields.length,flat Fc.cs y.d.fields⟩,⟨4,y.um,98,8,y.d.methods.length,y.ms⟩,⟨5,y.ui,73,23,y.d.init.length,y.is⟩]⟩
structure DOk (m:Mem) (y:DSt) (n:Nat):Prop where
 msl:y.ms.length=y.d.methods.length * 8
 msr:mZ (gq m) 8 y.d.methods y.ms
 isl:y.is.length=y.d.init.length * 23
 isr:bF m y.d.init y.is
 fs:∀f∈y.d.fields,FcOk f
 fn:y.d.fields.length<=n
 mn:y.d.methods.length<=n
 inn:y.d.init.length<=n
structure Same (y y' :DSt):Prop where
 ia:y'.ia=y.ia
 ic:y'.ic=y.ic
 fl:y'.d.fl=y.d.fl
 name:y'.d.name=y.d.name
 super:y'.d.super=y.d.super
 ifs:y'.d.ifs=y.d.ifs
 uf:y.uf<=y'.uf
 um:y.um<=y'.um
 ui:y.ui<=y'.ui
abbrev PW (ts:List Tk) (en:Int) (s:PSt) (y:DSt) (K:PR Cd) (m:Mem):SV->Hp->Mem->Prop:=fun r H' m' =>an m m' /\∃(y' :DSt) (s' :PSt),r= .tup []/\H' =mH ts en s' y' /\Same y y' /\DOk m' y' (s'.i+(if s'.fl=true then 1 else 0))/\Res ts en s K y'.d s'
theorem MV {m:Mem} {l2:List St} {ys:List Value} (h2:bF m l2 ys):∀{l:List St} {xs:List Value},xs.length=l.length * 23->bF m l xs->bF m (l++l2) (xs++ys)
 |[],xs,hl,_=>by
  have:xs=[]:=List.eq_nil_of_length_eq_zero (by simpa using hl);subst this;exact h2
 |y::r,xs,hl,h=>by
  simp only[bF,jD] at h ⊢;simp only[cv] at hl;have h8:23<=xs.length:=by omega
  rw[List.take_append_of_le_length h8,List.drop_append_of_le_length h8];exact⟨h.1,MV h2 (by rw[cH];omega) h.2⟩
theorem DY {α:Type} {R:α->List Value->Prop} {sz:Nat} {l2:List α} {ys:List Value} (h2:mZ R sz l2 ys):∀{l:List α} {xs:List Value},xs.length=l.length * sz->mZ R sz l xs->mZ R sz (l++l2) (xs++ys)
 |[],xs,hl,_=>by
  have:xs=[]:=List.eq_nil_of_length_eq_zero (by simpa using hl);subst this;exact h2
 |y::r,xs,hl,h=>by
  simp only[mZ,jD] at h ⊢;rw[cv,Nat.succ_mul] at hl;have h8:sz<=xs.length:=by omega
  rw[List.take_append_of_le_length h8,List.drop_append_of_le_length h8];exact⟨h.1,DY h2 (by rw[cH];omega) h.2⟩
theorem Yt {m:Mem} {e:St} {cs:List Value} (h:fu m e cs):∀u∈cs,u.oneCell' =true:=by
 cases e with
 |mk k nm ty tg ex body alt=>
  simp only[fu] at h;obtain⟨x,⟨rfl,_⟩,_⟩:=h;intro u hu;simp only[Sd.cs,List.mem_cons,List.not_mem_nil,or_false] at hu;rcases hu with rfl |rfl |rfl |rfl |rfl |rfl |rfl |rfl |rfl |rfl |rfl |rfl |rfl |rfl |rfl |rfl |rfl |rfl |rfl |rfl |rfl |rfl |rfl<;>rfl
theorem GJ {m:Mem}:∀{es:List St} {xs:List Value},xs.length=es.length * 23->bF m es xs->∀u∈xs,u.oneCell' =true
 |[],xs,hl,_=>by
  have:xs=[]:=List.eq_nil_of_length_eq_zero (by simpa using hl);subst this;intro u hu;cases hu
 |y::r,xs,hl,h=>by
  simp only[bF] at h;simp only[cv] at hl;intro u hu;rw[<- List.take_append_drop 23 xs] at hu;rcases List.mem_append.1 hu with hu |hu
  ·exact Yt h.1 u hu
  ·exact GJ (by rw[cH];omega) h.2 u hu
theorem DOk.up {m m' :Mem} {y:DSt} {n n' :Nat} (h:DOk m y n) (hle:an m m') (hn:n<=n'):DOk m' y n' :=
 ⟨h.msl,ra (fun _ _=>qH hle) h.msr,h.isl,nN hle h.isr,h.fs,cR h.fn hn,cR h.mn hn,cR h.inn hn⟩
section
variable {ts:List Tk} {en:Int} {s:PSt}
theorem js {α:Type} {K:PR α} {a:α} {q:List (Int×List UInt8)} {v0 v:Int} {s1 s' :PSt} (hm:ModR ts q v0 s v s1) (h:Res ts en s1 K a s'):Res ts en s K a s' :=
 ⟨h.inv,cR hm.mono h.mono,fun e=>by have e1:=hm.same e;subst e1;exact h.fl e,fun e=>h.ok (by rw[hm.fl];exact e),fun e=>h.er (by rw[hm.fl];exact e)⟩
theorem nH (d:Cd) (l:List Tk):∀x r,fA d (bg bH 0 l).1 (bg bH 0 l).2= .ok (x,r)->r.length<l.length:=fun x r h=>by
 have g:=(Kz d (bg bH 0 l).1 (bg bH 0 l).2).good;rw[jk (No d (bg bH 0 l).1 (bg bH 0 l).2)] at g;exact ej ((g.ok x r h).2 rfl) (tm bH 0 l).length_le
theorem pd {y y' :DSt} {s' :PSt} {K:PR Cd} {m m3:Mem} {H' :Hp} (e:H' =mH ts en s' y') (h:an m m3/\Same y y' /\DOk m3 y' (s'.i+(if s'.fl=true then 1 else 0))/\Res ts en s K y'.d s'):PV (PW ts en s y K m) (.tup []) H' m3:=by
 subst e;exact⟨mH ts en s' y',⟨⟨rfl,rfl,rfl,rfl,trivial⟩,⟨rfl,rfl,rfl,rfl,rfl,rfl,rfl,rfl,trivial⟩⟩,h.1,y',s',rfl,rfl,h.2⟩
theorem uY:lh eT:=⟨⟨by decide,by decide⟩,⟨by decide,by decide⟩,by decide⟩
theorem o9 {m:Mem} {v:Int} {ty:Ty} {w:List UInt8} {ps:List Pc} {hb:Bool} {body:List St} {pa a:Option Addr} {pc cp:Nat} {xs:List Value} (hv:0<=v/\v<2048) (ht:lh ty) (hw:w.length<=1000000)
  (jQ:ps.length<=1000001) (uC:ps.length<=pc) (sY:aK m pa ps.length 4 (flat Pc.cs ps)) (ny:∀p∈ps,PcOk p) (hl:body.length<=1000001) (bl:body.length<=cp) (hr:aK m a body.length 23 xs) (hs:bF m body xs):
  gq m ⟨v,ty,w,ps,hb,body⟩ (Mc.cs ⟨v,ty,w,pa,ps.length,pc,hb,a,body.length,cp⟩):=
 ⟨⟨v,ty,w,pa,ps.length,pc,hb,a,body.length,cp⟩,⟨rfl,rfl,rfl,rfl,rfl⟩,⟨rfl,uC,rfl,bl⟩,⟨by unfold az;dsimp only;omega,ht,by unfold aA;dsimp only;omega,by unfold aA;dsimp only;omega,ny,by unfold aA;dsimp only;omega⟩,sY,xs,hr,hs⟩
theorem pW {s s' :PSt} (h:s'.fl=true\/s.i<s'.i) (h2:s.i<=s'.i):s.i+1<=s'.i+(if s'.fl=true then 1 else 0):=by
 rcases h with h |h
 ·rw[aj h];omega
 ·omega
theorem DOk.addM {m:Mem} {d:Cd} {ia:Option Addr} {ic uf um ui n n' :Nat} {ms is:List Value} (h:DOk m ⟨d,ia,ic,uf,um,ui,ms,is⟩ n) {x:Md} {cs:List Value} (hx:gq m x cs) (hl:cs.length=8) (hn:n+1<=n'):DOk m ⟨d.addM x,ia,ic,uf,um+1,ui,ms++cs,is⟩ n' :=by
 have h1:=h.msl;have h2:=h.mn;have h3:=h.fn;have h4:=h.inn;dsimp only at h1 h2 h3 h4;refine⟨by simp only[Cd.addM,bM,fr,h1,hl];omega,DY (l2:=[x]) ⟨by rw[gm (by omega)];exact hx,trivial⟩ h1 h.msr,h.isl,h.isr,h.fs,by show d.fields.length<=n';omega,by simp only[Cd.addM,bM,fr];omega,by show d.init.length<=n';omega⟩
theorem DOk.addF {m:Mem} {d:Cd} {ia:Option Addr} {ic uf um ui n n' :Nat} {ms is:List Value} (h:DOk m ⟨d,ia,ic,uf,um,ui,ms,is⟩ n) {x:Fc} (hx:FcOk x) (hn:n+1<=n'):DOk m ⟨d.addF x,ia,ic,uf+1,um,ui,ms,is⟩ n' :=by
 have h2:=h.mn;have h3:=h.fn;have h4:=h.inn;dsimp only at h2 h3 h4;exact⟨h.msl,h.msr,h.isl,h.isr,Dj h.fs hx,by simp only[Cd.addF,bM,fr];omega,by show d.methods.length<=n';omega,by show d.init.length<=n';omega⟩
theorem DOk.addI {m:Mem} {d:Cd} {ia:Option Addr} {ic uf um ui n n' :Nat} {ms is:List Value} (h:DOk m ⟨d,ia,ic,uf,um,ui,ms,is⟩ n) {l:List St} {ys:List Value} (hx:bF m l ys) (hl:ys.length=l.length * 23) (hn:n+l.length<=n'):DOk m ⟨d.addI l,ia,ic,uf,um,ui+1,ms,is++ys⟩ n' :=by
 have h1:=h.isl;have h2:=h.mn;have h3:=h.fn;have h4:=h.inn;dsimp only at h1 h2 h3 h4;exact⟨h.msl,h.msr,by simp only[Cd.addI,bM,h1,hl];omega,MV hx h1 h.isr,h.fs,by show d.fields.length<=n';omega,by show d.methods.length<=n';omega,by simp only[Cd.addI,bM];omega⟩
theorem RS (hT:TsB ts) (hI:Inv ts s) (hs:s.fl=false) (y:DSt) (m:Mem) (hy:DOk m y s.i):FnH Tryz.prog 53 [.box 0 0,.box 1 0] (mH ts en s y) m (PW ts en s y (fA y.d (bg bH 0 (ts.drop s.i)).1 (bg bH 0 (ts.drop s.i)).2) m):=by
 obtain⟨d,ia,ic,uf,um,ui,ms,is⟩:=y;have Qw:=hT.len;have hi0:=hI.le;have h1:=fun m' =>Q9 (en:=en) hT hI m'
 refine X8 (aL ay Tryz.func53 ?_)
 ·simp only[go_sem];refine ab ((h1 m).mono ?_);clear h1;rintro r H' m1 aN ⟨l1,v,s1,rfl,hv,rfl,hM⟩;simp only[go_sem];refine⟨fun vW=> ?_,fun vW=> ?_⟩
  ·by_cases hbr:ah ts s1.i [123]=true
   ·have q0:=mi (en:=en) hT hbr;refine ab ((q0 m1).mono ?_);clear q0;rintro r H' m2 aH ⟨l2,rfl,rfl⟩;simp only[go_sem];refine cg (.hoist 0 (.hoist 1 (.hoist 2 (.hoist 3 (.hoist 4 (.hoist 5 (.alt 6 [4,3,2,1,0] (.alt 7 [0] (.hoist 8 (.hoist 9 (.alt 10 [] .done .stop))) .stop) .stop))))))) ay (by kernel_rfl) (by kernel_rfl) ?_;simp only[go_sem];have PC:=hM.mono;have iM:=xZ (en:=en) hT hM.inv;refine ab ((iM m2).mono ?_);clear iM;rintro r H' m3 bN ⟨l3,PO,a21,c21,xs21,PZ,rfl,ha21,hb21,hc21,hd21,rfl,hR21⟩;simp only[go_sem];have Ek:=hR21.mono;refine⟨⟨l3,l3,l3,l3,l3⟩,xs21,hc21,GJ hc21.1 hd21,fK (by have h0:=hy.inn;have h1:=hI.le;have h2:=hT.len;have h3:=hb21.2;dsimp only at h0;omega) (by decide),l3,?_⟩;have b9:Res ts en s (fA d (bg bH 0 (ts.drop s.i)).1 (bg bH 0 (ts.drop s.i)).2) (d.addI PO) PZ:=(by rw[hM.val];exact js hM (by unfold fA;rw[aj ⟨vW,by rw[<- ar];exact hbr⟩];exact aR hR21 (bY _ hR21.inv)));exact pd (y' :=⟨d.addI PO,ia,ic,uf,um,ui+1,ms,is++xs21⟩) (s' :=PZ) (by simp only[mH,Cd.addI,bM]<;>rfl) ⟨(aa l1 (aa l2 l3)),⟨rfl,rfl,rfl,rfl,rfl,rfl,by dsimp only;omega,by dsimp only;omega,by dsimp only;omega⟩,(hy.up (aa l1 (aa l2 l3)) (aq _)).addI hd21 hc21.1 (by have h1:=hb21.1;omega),b9⟩
   ·have q0:=mo (en:=en) hT hbr;refine ab ((q0 m1).mono ?_);clear q0;rintro r H' m2 aH ⟨l2,rfl,rfl⟩;simp only[go_sem];have PC:=hM.mono;by_cases hc21:ah ts (s1).i zj=true
    ·have jB:=fun m' =>dA (en:=en) hT hc21 m'
     refine ab ((jB m2).mono ?_);clear jB;rintro r H' m3 bN ⟨l3,rfl,rfl⟩;simp only[go_sem];have It:=hM.inv.next (aJ hc21);have Bd:(s1).next.i=(s1).i+1:=rfl;have BQ:=fun m' =>yh (en:=en) hT It m'
     refine ab ((BQ m3).mono ?_);clear BQ;rintro r H' m4 dd ⟨l4,ps23,a23,c23,s23,rfl,ha23,hb23,hc23,hd23,rfl,hR23⟩;simp only[go_sem];have aah:=hR23.mono;have lS:=xZ (en:=en) hT (hR23.inv);refine ab ((lS m4).mono ?_);clear lS;rintro r H' m5 cW ⟨l5,bs24,a24,c24,xs24,s24,rfl,ha24,hb24,hc24,hd24,rfl,hR24⟩;simp only[go_sem];have HT:=hR24.mono;refine cg (.hoist 0 (.hoist 1 (.hoist 2 (.hoist 3 (.hoist 4 (.hoist 5 (.alt 6 [4,3,2,1,0] (.alt 7 [0] (.hoist 8 (.hoist 9 (.alt 10 [] .done .stop))) .stop) .stop))))))) ay (by kernel_rfl) (by kernel_rfl) ?_;simp only[go_sem];refine⟨fK (by have h0:=hy.mn;dsimp only at h0;omega) (by decide),?_⟩;have b9:Res ts en s (fA d (bg bH 0 (ts.drop s.i)).1 (bg bH 0 (ts.drop s.i)).2) (d.addM ⟨v,eT,eH,ps23,true,bs24⟩) s24:=(by rw[hM.val];exact js hM (by unfold fA;rw[ae (fun q=>hbr (by rw[ar];exact q.2)),aj (by rw[<- ar];exact hc21),<- bD];exact bO hM.inv (aJ hc21) (aR hR23 (aR hR24 (bY _ hR24.inv)))));have fI:=lW b9 hs (nH _ _);have gl:gq m5 ⟨v,eT,eH,ps23,true,bs24⟩ (Mc.cs ⟨v,eT,eH,a23,ps23.length,c23,true,a24,bs24.length,c24⟩):=o9 hv uY (by decide) hb23 ha23 (aD l5 hc23) hd23 hb24.2 ha24 hc24 hd24;exact pd (y' :=⟨d.addM ⟨v,eT,eH,ps23,true,bs24⟩,ia,ic,uf,um+1,ui,ms++Mc.cs ⟨v,eT,eH,a23,ps23.length,c23,true,a24,bs24.length,c24⟩,is⟩) (s' :=s24) (by simp only[mH,Cd.addM,bM,cv,eM]<;>rfl) ⟨(aa l1 (aa l2 (aa l3 (aa l4 l5)))),⟨rfl,rfl,rfl,rfl,rfl,rfl,by dsimp only;omega,by dsimp only;omega,by dsimp only;omega⟩,(hy.up (aa l1 (aa l2 (aa l3 (aa l4 l5)))) (aq _)).addM gl rfl (pW fI b9.mono),b9⟩
    ·have jB:=fun m' =>dC (en:=en) hT hc21 m'
     refine ab ((jB m2).mono ?_);clear jB;rintro r H' m3 bN ⟨l3,rfl,rfl⟩;simp only[go_sem];by_cases hc23:ah ts (s1).i wS=true
     ·have lS:=fun m' =>dA (en:=en) hT hc23 m'
      refine ab ((lS m3).mono ?_);clear lS;rintro r H' m4 dd ⟨l4,rfl,rfl⟩;simp only[go_sem];have Is:=hM.inv.next (aJ hc23);have HT:(s1).next.i=(s1).i+1:=rfl;have rz:=fun m' =>qF ts en (s1).next m' hT Is
      refine ab ((rz m4).mono ?_);clear rz;rintro r H' m5 cW ⟨l5,w25,s25,rfl,hw25,rfl,hR25⟩;simp only[go_sem];have HS:=hR25.mono;have ry:=fun m' =>yh (en:=en) hT hR25.inv m'
      refine ab ((ry m5).mono ?_);clear ry;rintro r H' m6 fb ⟨l6,ps26,a26,uL,jy,rfl,ha26,hb26,hc26,hd26,rfl,hR26⟩;simp only[go_sem];have HR:=hR26.mono;by_cases hc27:ah ts (jy).i [59]=true
      ·have jA:=fun m' =>dA (en:=en) hT hc27 m'
       refine ab ((jA m6).mono ?_);clear jA;rintro r H' m7 gM ⟨l7,rfl,rfl⟩;simp only[go_sem];have xl:=hR26.inv.next (aJ hc27);have HQ:(jy).next.i=(jy).i+1:=rfl;refine cg (.hoist 0 (.hoist 1 (.hoist 2 (.hoist 3 (.hoist 4 (.hoist 5 (.alt 6 [4,3,2,1,0] (.alt 7 [0] (.hoist 8 (.hoist 9 (.alt 10 [] .done .stop))) .stop) .stop))))))) ay (by kernel_rfl) (by kernel_rfl) ?_;simp only[go_sem];refine⟨fK (by have h0:=hy.mn;dsimp only at h0;omega) (by decide),?_⟩;have b9:Res ts en s (fA d (bg bH 0 (ts.drop s.i)).1 (bg bH 0 (ts.drop s.i)).2) (d.addM ⟨v,eT,w25,ps26,false,[]⟩) (jy).next:=(by rw[hM.val];exact js hM (by unfold fA;rw[ae (fun q=>hbr (by rw[ar];exact q.2)),ae (by rw[<- ar];exact hc21),aj (by rw[<- ar];exact hc23),<- bD];exact bO hM.inv (aJ hc23) (aR hR25 (by unfold og;exact(aR hR26 (by rw[aj (by rw[<- ar];exact hc27),<- bD];exact bO hR26.inv (aJ hc27) (bY _ xl)))))));have fI:=lW b9 hs (nH _ _);have gl:gq m7 ⟨v,eT,w25,ps26,false,[]⟩ (Mc.cs ⟨v,eT,w25,a26,ps26.length,uL,false,none,0,0⟩):=o9 hv uY hw25 hb26 ha26 (aD l7 hc26) hd26 (au _) (aq _) (cX _ _) (dN _ _);exact pd (y' :=⟨d.addM ⟨v,eT,w25,ps26,false,[]⟩,ia,ic,uf,um+1,ui,ms++Mc.cs ⟨v,eT,w25,a26,ps26.length,uL,false,none,0,0⟩,is⟩) (s' :=(jy).next) (by simp only[mH,Cd.addM,bM,cv,eM]<;>rfl) ⟨(aa l1 (aa l2 (aa l3 (aa l4 (aa l5 (aa l6 l7)))))),⟨rfl,rfl,rfl,rfl,rfl,rfl,by dsimp only;omega,by dsimp only;omega,by dsimp only;omega⟩,(hy.up (aa l1 (aa l2 (aa l3 (aa l4 (aa l5 (aa l6 l7)))))) (aq _)).addM gl rfl (pW fI b9.mono),b9⟩
      ·have jA:=fun m' =>dC (en:=en) hT hc27 m'
       refine ab ((jA m6).mono ?_);clear jA;rintro r H' m7 gM ⟨l7,rfl,rfl⟩;simp only[go_sem];have rv:=xZ (en:=en) hT (hR26.inv);refine ab ((rv m7).mono ?_);clear rv;rintro r H' m8 ku ⟨l8,bs29,a29,nD,xs29,lR,rfl,ha29,hb29,hc29,hd29,rfl,hR29⟩;simp only[go_sem];have HP:=hR29.mono;refine cg (.hoist 0 (.hoist 1 (.hoist 2 (.hoist 3 (.hoist 4 (.hoist 5 (.alt 6 [4,3,2,1,0] (.alt 7 [0] (.hoist 8 (.hoist 9 (.alt 10 [] .done .stop))) .stop) .stop))))))) ay (by kernel_rfl) (by kernel_rfl) ?_;simp only[go_sem];refine⟨fK (by have h0:=hy.mn;dsimp only at h0;omega) (by decide),?_⟩;have b9:Res ts en s (fA d (bg bH 0 (ts.drop s.i)).1 (bg bH 0 (ts.drop s.i)).2) (d.addM ⟨v,eT,w25,ps26,true,bs29⟩) lR:=(by rw[hM.val];exact js hM (by unfold fA;rw[ae (fun q=>hbr (by rw[ar];exact q.2)),ae (by rw[<- ar];exact hc21),aj (by rw[<- ar];exact hc23),<- bD];exact bO hM.inv (aJ hc23) (aR hR25 (by unfold og;exact(aR hR26 (by rw[ae (by rw[<- ar];exact hc27)];exact(aR hR29 (bY _ hR29.inv))))))));have fI:=lW b9 hs (nH _ _);have gl:gq m8 ⟨v,eT,w25,ps26,true,bs29⟩ (Mc.cs ⟨v,eT,w25,a26,ps26.length,uL,true,a29,bs29.length,nD⟩):=o9 hv uY hw25 hb26 ha26 (aD (aa l7 l8) hc26) hd26 hb29.2 ha29 hc29 hd29;exact pd (y' :=⟨d.addM ⟨v,eT,w25,ps26,true,bs29⟩,ia,ic,uf,um+1,ui,ms++Mc.cs ⟨v,eT,w25,a26,ps26.length,uL,true,a29,bs29.length,nD⟩,is⟩) (s' :=lR) (by simp only[mH,Cd.addM,bM,cv,eM]<;>rfl) ⟨(aa l1 (aa l2 (aa l3 (aa l4 (aa l5 (aa l6 (aa l7 l8))))))),⟨rfl,rfl,rfl,rfl,rfl,rfl,by dsimp only;omega,by dsimp only;omega,by dsimp only;omega⟩,(hy.up (aa l1 (aa l2 (aa l3 (aa l4 (aa l5 (aa l6 (aa l7 l8))))))) (aq _)).addM gl rfl (pW fI b9.mono),b9⟩
     ·have lS:=fun m' =>dC (en:=en) hT hc23 m'
      refine ab ((lS m3).mono ?_);clear lS;rintro r H' m4 dd ⟨l4,rfl,rfl⟩;simp only[go_sem];have rz:=fun m' =>wx ts en s1 m' hT hM.inv
      refine ab ((rz m4).mono ?_);clear rz;rintro r H' m5 cW ⟨l5,t25,s25,rfl,ht25,hu25,rfl,hR25⟩;simp only[go_sem];have HS:=hR25.mono;have ry:=fun m' =>qF ts en s25 m' hT hR25.inv
      refine ab ((ry m5).mono ?_);clear ry;rintro r H' m6 fb ⟨l6,w26,jy,rfl,hw26,rfl,hR26⟩;simp only[go_sem];have HR:=hR26.mono;by_cases hc27:ah ts (jy).i [59]=true
      ·have jA:=fun m' =>dA (en:=en) hT hc27 m'
       refine ab ((jA m6).mono ?_);clear jA;rintro r H' m7 gM ⟨l7,rfl,rfl⟩;simp only[go_sem];have xl:=hR26.inv.next (aJ hc27);have HQ:(jy).next.i=(jy).i+1:=rfl;refine cg (.hoist 0 (.hoist 1 (.hoist 2 (.hoist 3 (.hoist 4 (.hoist 5 (.hoist 6 (.hoist 7 (.hoist 8 (.hoist 9 (.hoist 10 (.alt 11 [4,3,2,1,0] (.alt 12 [0] (.hoist 13 (.hoist 14 (.alt 15 [] .done .stop))) .stop) .stop)))))))))))) ay (by kernel_rfl) (by kernel_rfl) ?_;simp only[go_sem];refine⟨fK (by have h0:=hy.fn;dsimp only at h0;omega) (by decide),?_⟩;have b9:Res ts en s (fA d (bg bH 0 (ts.drop s.i)).1 (bg bH 0 (ts.drop s.i)).2) (d.addF ⟨v,t25,w26⟩) ((jy).next):=(by rw[hM.val];exact js hM (by unfold fA;rw[ae (fun q=>hbr (by rw[ar];exact q.2)),ae (by rw[<- ar];exact hc21),ae (by rw[<- ar];exact hc23)];exact(aR hR25 (aR hR26 (by rw[aj (by rw[<- ar];exact hc27),<- bD];exact bO hR26.inv (aJ hc27) (bY _ xl))))));have fI:=lW b9 hs (nH _ _);exact pd (y' :=⟨d.addF ⟨v,t25,w26⟩,ia,ic,uf+1,um,ui,ms,is⟩) (s' :=((jy).next)) (by simp only[mH,Cd.addF,bM,cv,eM,uO]<;>rfl) ⟨(aa l1 (aa l2 (aa l3 (aa l4 (aa l5 (aa l6 l7)))))),⟨rfl,rfl,rfl,rfl,rfl,rfl,by dsimp only;omega,by dsimp only;omega,by dsimp only;omega⟩,(hy.up (aa l1 (aa l2 (aa l3 (aa l4 (aa l5 (aa l6 l7)))))) (aq _)).addF ⟨by unfold az;dsimp only;omega,ht25,by unfold aA;dsimp only;omega⟩ (pW fI b9.mono),b9⟩
      ·have jA:=fun m' =>dC (en:=en) hT hc27 m'
       refine ab ((jA m6).mono ?_);clear jA;rintro r H' m7 gM ⟨l7,rfl,rfl⟩;simp only[go_sem];have rv:=fun m' =>yh (en:=en) hT hR26.inv m'
       refine ab ((rv m7).mono ?_);clear rv;rintro r H' m8 ku ⟨l8,ps29,a29,nD,lR,rfl,ha29,hb29,hc29,hd29,rfl,hR29⟩;simp only[go_sem];have HP:=hR29.mono;by_cases hc30:ah ts (lR).i [59]=true
       ·have ru:=fun m' =>dA (en:=en) hT hc30 m'
        refine ab ((ru m8).mono ?_);clear ru;rintro r H' m9 nA ⟨l9,rfl,rfl⟩;simp only[go_sem];have Ir:=hR29.inv.next (aJ hc30);have aag:(lR).next.i=(lR).i+1:=rfl;refine cg (.hoist 0 (.hoist 1 (.hoist 2 (.hoist 3 (.hoist 4 (.hoist 5 (.alt 6 [4,3,2,1,0] (.alt 7 [0] (.hoist 8 (.hoist 9 (.alt 10 [] .done .stop))) .stop) .stop))))))) ay (by kernel_rfl) (by kernel_rfl) ?_;simp only[go_sem];refine⟨fK (by have h0:=hy.mn;dsimp only at h0;omega) (by decide),?_⟩;have b9:Res ts en s (fA d (bg bH 0 (ts.drop s.i)).1 (bg bH 0 (ts.drop s.i)).2) (d.addM ⟨v,t25,w26,ps29,false,[]⟩) (lR).next:=(by rw[hM.val];exact js hM (by unfold fA;rw[ae (fun q=>hbr (by rw[ar];exact q.2)),ae (by rw[<- ar];exact hc21),ae (by rw[<- ar];exact hc23)];exact(aR hR25 (aR hR26 (by rw[ae (by rw[<- ar];exact hc27)];exact(by unfold og;exact(aR hR29 (by rw[aj (by rw[<- ar];exact hc30),<- bD];exact bO hR29.inv (aJ hc30) (bY _ Ir)))))))));have fI:=lW b9 hs (nH _ _);have gl:gq m9 ⟨v,t25,w26,ps29,false,[]⟩ (Mc.cs ⟨v,t25,w26,a29,ps29.length,nD,false,none,0,0⟩):=o9 hv ht25 hw26 hb29 ha29 (aD l9 hc29) hd29 (au _) (aq _) (cX _ _) (dN _ _);exact pd (y' :=⟨d.addM ⟨v,t25,w26,ps29,false,[]⟩,ia,ic,uf,um+1,ui,ms++Mc.cs ⟨v,t25,w26,a29,ps29.length,nD,false,none,0,0⟩,is⟩) (s' :=(lR).next) (by simp only[mH,Cd.addM,bM,cv,eM]<;>rfl) ⟨(aa l1 (aa l2 (aa l3 (aa l4 (aa l5 (aa l6 (aa l7 (aa l8 l9)))))))),⟨rfl,rfl,rfl,rfl,rfl,rfl,by dsimp only;omega,by dsimp only;omega,by dsimp only;omega⟩,(hy.up (aa l1 (aa l2 (aa l3 (aa l4 (aa l5 (aa l6 (aa l7 (aa l8 l9)))))))) (aq _)).addM gl rfl (pW fI b9.mono),b9⟩
       ·have ru:=fun m' =>dC (en:=en) hT hc30 m'
        refine ab ((ru m8).mono ?_);clear ru;rintro r H' m9 nA ⟨l9,rfl,rfl⟩;simp only[go_sem];have BP:=xZ (en:=en) hT (hR29.inv);refine ab ((BP m9).mono ?_);clear BP;rintro r H' m10 vC ⟨l10,bs32,a32,Cz,xs32,s32,rfl,ha32,hb32,hc32,hd32,rfl,hR32⟩;simp only[go_sem];have aaf:=hR32.mono;refine cg (.hoist 0 (.hoist 1 (.hoist 2 (.hoist 3 (.hoist 4 (.hoist 5 (.alt 6 [4,3,2,1,0] (.alt 7 [0] (.hoist 8 (.hoist 9 (.alt 10 [] .done .stop))) .stop) .stop))))))) ay (by kernel_rfl) (by kernel_rfl) ?_;simp only[go_sem];refine⟨fK (by have h0:=hy.mn;dsimp only at h0;omega) (by decide),?_⟩;have b9:Res ts en s (fA d (bg bH 0 (ts.drop s.i)).1 (bg bH 0 (ts.drop s.i)).2) (d.addM ⟨v,t25,w26,ps29,true,bs32⟩) s32:=(by rw[hM.val];exact js hM (by unfold fA;rw[ae (fun q=>hbr (by rw[ar];exact q.2)),ae (by rw[<- ar];exact hc21),ae (by rw[<- ar];exact hc23)];exact(aR hR25 (aR hR26 (by rw[ae (by rw[<- ar];exact hc27)];exact(by unfold og;exact(aR hR29 (by rw[ae (by rw[<- ar];exact hc30)];exact(aR hR32 (bY _ hR32.inv))))))))));have fI:=lW b9 hs (nH _ _);have gl:gq m10 ⟨v,t25,w26,ps29,true,bs32⟩ (Mc.cs ⟨v,t25,w26,a29,ps29.length,nD,true,a32,bs32.length,Cz⟩):=o9 hv ht25 hw26 hb29 ha29 (aD (aa l9 l10) hc29) hd29 hb32.2 ha32 hc32 hd32;exact pd (y' :=⟨d.addM ⟨v,t25,w26,ps29,true,bs32⟩,ia,ic,uf,um+1,ui,ms++Mc.cs ⟨v,t25,w26,a29,ps29.length,nD,true,a32,bs32.length,Cz⟩,is⟩) (s' :=s32) (by simp only[mH,Cd.addM,bM,cv,eM]<;>rfl) ⟨(aa l1 (aa l2 (aa l3 (aa l4 (aa l5 (aa l6 (aa l7 (aa l8 (aa l9 l10))))))))),⟨rfl,rfl,rfl,rfl,rfl,rfl,by dsimp only;omega,by dsimp only;omega,by dsimp only;omega⟩,(hy.up (aa l1 (aa l2 (aa l3 (aa l4 (aa l5 (aa l6 (aa l7 (aa l8 (aa l9 l10))))))))) (aq _)).addM gl rfl (pW fI b9.mono),b9⟩
  ·have PC:=hM.mono;by_cases hc21:ah ts (s1).i zj=true
   ·have jB:=fun m' =>dA (en:=en) hT hc21 m'
    refine ab ((jB m1).mono ?_);clear jB;rintro r H' m2 aH ⟨l2,rfl,rfl⟩;simp only[go_sem];have It:=hM.inv.next (aJ hc21);have Bd:(s1).next.i=(s1).i+1:=rfl;have BQ:=fun m' =>yh (en:=en) hT It m'
    refine ab ((BQ m2).mono ?_);clear BQ;rintro r H' m3 bN ⟨l3,ps23,a23,c23,s23,rfl,ha23,hb23,hc23,hd23,rfl,hR23⟩;simp only[go_sem];have aah:=hR23.mono;have lS:=xZ (en:=en) hT (hR23.inv);refine ab ((lS m3).mono ?_);clear lS;rintro r H' m4 dd ⟨l4,bs24,a24,c24,xs24,s24,rfl,ha24,hb24,hc24,hd24,rfl,hR24⟩;simp only[go_sem];have HT:=hR24.mono;refine cg (.hoist 0 (.hoist 1 (.hoist 2 (.hoist 3 (.hoist 4 (.hoist 5 (.alt 6 [4,3,2,1,0] (.alt 7 [0] (.hoist 8 (.hoist 9 (.alt 10 [] .done .stop))) .stop) .stop))))))) ay (by kernel_rfl) (by kernel_rfl) ?_;simp only[go_sem];refine⟨fK (by have h0:=hy.mn;dsimp only at h0;omega) (by decide),?_⟩;have b9:Res ts en s (fA d (bg bH 0 (ts.drop s.i)).1 (bg bH 0 (ts.drop s.i)).2) (d.addM ⟨v,eT,eH,ps23,true,bs24⟩) s24:=(by rw[hM.val];exact js hM (by unfold fA;rw[ae (fun q=>vW q.1),aj (by rw[<- ar];exact hc21),<- bD];exact bO hM.inv (aJ hc21) (aR hR23 (aR hR24 (bY _ hR24.inv)))));have fI:=lW b9 hs (nH _ _);have gl:gq m4 ⟨v,eT,eH,ps23,true,bs24⟩ (Mc.cs ⟨v,eT,eH,a23,ps23.length,c23,true,a24,bs24.length,c24⟩):=o9 hv uY (by decide) hb23 ha23 (aD l4 hc23) hd23 hb24.2 ha24 hc24 hd24;exact pd (y' :=⟨d.addM ⟨v,eT,eH,ps23,true,bs24⟩,ia,ic,uf,um+1,ui,ms++Mc.cs ⟨v,eT,eH,a23,ps23.length,c23,true,a24,bs24.length,c24⟩,is⟩) (s' :=s24) (by simp only[mH,Cd.addM,bM,cv,eM]<;>rfl) ⟨(aa l1 (aa l2 (aa l3 l4))),⟨rfl,rfl,rfl,rfl,rfl,rfl,by dsimp only;omega,by dsimp only;omega,by dsimp only;omega⟩,(hy.up (aa l1 (aa l2 (aa l3 l4))) (aq _)).addM gl rfl (pW fI b9.mono),b9⟩
   ·have jB:=fun m' =>dC (en:=en) hT hc21 m'
    refine ab ((jB m1).mono ?_);clear jB;rintro r H' m2 aH ⟨l2,rfl,rfl⟩;simp only[go_sem];by_cases hc23:ah ts (s1).i wS=true
    ·have lS:=fun m' =>dA (en:=en) hT hc23 m'
     refine ab ((lS m2).mono ?_);clear lS;rintro r H' m3 bN ⟨l3,rfl,rfl⟩;simp only[go_sem];have Is:=hM.inv.next (aJ hc23);have HT:(s1).next.i=(s1).i+1:=rfl;have rz:=fun m' =>qF ts en (s1).next m' hT Is
     refine ab ((rz m3).mono ?_);clear rz;rintro r H' m4 dd ⟨l4,w25,s25,rfl,hw25,rfl,hR25⟩;simp only[go_sem];have HS:=hR25.mono;have ry:=fun m' =>yh (en:=en) hT hR25.inv m'
     refine ab ((ry m4).mono ?_);clear ry;rintro r H' m5 cW ⟨l5,ps26,a26,uL,jy,rfl,ha26,hb26,hc26,hd26,rfl,hR26⟩;simp only[go_sem];have HR:=hR26.mono;by_cases hc27:ah ts (jy).i [59]=true
     ·have jA:=fun m' =>dA (en:=en) hT hc27 m'
      refine ab ((jA m5).mono ?_);clear jA;rintro r H' m6 fb ⟨l6,rfl,rfl⟩;simp only[go_sem];have xl:=hR26.inv.next (aJ hc27);have HQ:(jy).next.i=(jy).i+1:=rfl;refine cg (.hoist 0 (.hoist 1 (.hoist 2 (.hoist 3 (.hoist 4 (.hoist 5 (.alt 6 [4,3,2,1,0] (.alt 7 [0] (.hoist 8 (.hoist 9 (.alt 10 [] .done .stop))) .stop) .stop))))))) ay (by kernel_rfl) (by kernel_rfl) ?_;simp only[go_sem];refine⟨fK (by have h0:=hy.mn;dsimp only at h0;omega) (by decide),?_⟩;have b9:Res ts en s (fA d (bg bH 0 (ts.drop s.i)).1 (bg bH 0 (ts.drop s.i)).2) (d.addM ⟨v,eT,w25,ps26,false,[]⟩) (jy).next:=(by rw[hM.val];exact js hM (by unfold fA;rw[ae (fun q=>vW q.1),ae (by rw[<- ar];exact hc21),aj (by rw[<- ar];exact hc23),<- bD];exact bO hM.inv (aJ hc23) (aR hR25 (by unfold og;exact(aR hR26 (by rw[aj (by rw[<- ar];exact hc27),<- bD];exact bO hR26.inv (aJ hc27) (bY _ xl)))))));have fI:=lW b9 hs (nH _ _);have gl:gq m6 ⟨v,eT,w25,ps26,false,[]⟩ (Mc.cs ⟨v,eT,w25,a26,ps26.length,uL,false,none,0,0⟩):=o9 hv uY hw25 hb26 ha26 (aD l6 hc26) hd26 (au _) (aq _) (cX _ _) (dN _ _);exact pd (y' :=⟨d.addM ⟨v,eT,w25,ps26,false,[]⟩,ia,ic,uf,um+1,ui,ms++Mc.cs ⟨v,eT,w25,a26,ps26.length,uL,false,none,0,0⟩,is⟩) (s' :=(jy).next) (by simp only[mH,Cd.addM,bM,cv,eM]<;>rfl) ⟨(aa l1 (aa l2 (aa l3 (aa l4 (aa l5 l6))))),⟨rfl,rfl,rfl,rfl,rfl,rfl,by dsimp only;omega,by dsimp only;omega,by dsimp only;omega⟩,(hy.up (aa l1 (aa l2 (aa l3 (aa l4 (aa l5 l6))))) (aq _)).addM gl rfl (pW fI b9.mono),b9⟩
     ·have jA:=fun m' =>dC (en:=en) hT hc27 m'
      refine ab ((jA m5).mono ?_);clear jA;rintro r H' m6 fb ⟨l6,rfl,rfl⟩;simp only[go_sem];have rv:=xZ (en:=en) hT (hR26.inv);refine ab ((rv m6).mono ?_);clear rv;rintro r H' m7 gM ⟨l7,bs29,a29,nD,xs29,lR,rfl,ha29,hb29,hc29,hd29,rfl,hR29⟩;simp only[go_sem];have HP:=hR29.mono;refine cg (.hoist 0 (.hoist 1 (.hoist 2 (.hoist 3 (.hoist 4 (.hoist 5 (.alt 6 [4,3,2,1,0] (.alt 7 [0] (.hoist 8 (.hoist 9 (.alt 10 [] .done .stop))) .stop) .stop))))))) ay (by kernel_rfl) (by kernel_rfl) ?_;simp only[go_sem];refine⟨fK (by have h0:=hy.mn;dsimp only at h0;omega) (by decide),?_⟩;have b9:Res ts en s (fA d (bg bH 0 (ts.drop s.i)).1 (bg bH 0 (ts.drop s.i)).2) (d.addM ⟨v,eT,w25,ps26,true,bs29⟩) lR:=(by rw[hM.val];exact js hM (by unfold fA;rw[ae (fun q=>vW q.1),ae (by rw[<- ar];exact hc21),aj (by rw[<- ar];exact hc23),<- bD];exact bO hM.inv (aJ hc23) (aR hR25 (by unfold og;exact(aR hR26 (by rw[ae (by rw[<- ar];exact hc27)];exact(aR hR29 (bY _ hR29.inv))))))));have fI:=lW b9 hs (nH _ _);have gl:gq m7 ⟨v,eT,w25,ps26,true,bs29⟩ (Mc.cs ⟨v,eT,w25,a26,ps26.length,uL,true,a29,bs29.length,nD⟩):=o9 hv uY hw25 hb26 ha26 (aD (aa l6 l7) hc26) hd26 hb29.2 ha29 hc29 hd29;exact pd (y' :=⟨d.addM ⟨v,eT,w25,ps26,true,bs29⟩,ia,ic,uf,um+1,ui,ms++Mc.cs ⟨v,eT,w25,a26,ps26.length,uL,true,a29,bs29.length,nD⟩,is⟩) (s' :=lR) (by simp only[mH,Cd.addM,bM,cv,eM]<;>rfl) ⟨(aa l1 (aa l2 (aa l3 (aa l4 (aa l5 (aa l6 l7)))))),⟨rfl,rfl,rfl,rfl,rfl,rfl,by dsimp only;omega,by dsimp only;omega,by dsimp only;omega⟩,(hy.up (aa l1 (aa l2 (aa l3 (aa l4 (aa l5 (aa l6 l7)))))) (aq _)).addM gl rfl (pW fI b9.mono),b9⟩
    ·have lS:=fun m' =>dC (en:=en) hT hc23 m'
     refine ab ((lS m2).mono ?_);clear lS;rintro r H' m3 bN ⟨l3,rfl,rfl⟩;simp only[go_sem];have rz:=fun m' =>wx ts en s1 m' hT hM.inv
     refine ab ((rz m3).mono ?_);clear rz;rintro r H' m4 dd ⟨l4,t25,s25,rfl,ht25,hu25,rfl,hR25⟩;simp only[go_sem];have HS:=hR25.mono;have ry:=fun m' =>qF ts en s25 m' hT hR25.inv
     refine ab ((ry m4).mono ?_);clear ry;rintro r H' m5 cW ⟨l5,w26,jy,rfl,hw26,rfl,hR26⟩;simp only[go_sem];have HR:=hR26.mono;by_cases hc27:ah ts (jy).i [59]=true
     ·have jA:=fun m' =>dA (en:=en) hT hc27 m'
      refine ab ((jA m5).mono ?_);clear jA;rintro r H' m6 fb ⟨l6,rfl,rfl⟩;simp only[go_sem];have xl:=hR26.inv.next (aJ hc27);have HQ:(jy).next.i=(jy).i+1:=rfl;refine cg (.hoist 0 (.hoist 1 (.hoist 2 (.hoist 3 (.hoist 4 (.hoist 5 (.hoist 6 (.hoist 7 (.hoist 8 (.hoist 9 (.hoist 10 (.alt 11 [4,3,2,1,0] (.alt 12 [0] (.hoist 13 (.hoist 14 (.alt 15 [] .done .stop))) .stop) .stop)))))))))))) ay (by kernel_rfl) (by kernel_rfl) ?_;simp only[go_sem];refine⟨fK (by have h0:=hy.fn;dsimp only at h0;omega) (by decide),?_⟩;have b9:Res ts en s (fA d (bg bH 0 (ts.drop s.i)).1 (bg bH 0 (ts.drop s.i)).2) (d.addF ⟨v,t25,w26⟩) ((jy).next):=(by rw[hM.val];exact js hM (by unfold fA;rw[ae (fun q=>vW q.1),ae (by rw[<- ar];exact hc21),ae (by rw[<- ar];exact hc23)];exact(aR hR25 (aR hR26 (by rw[aj (by rw[<- ar];exact hc27),<- bD];exact bO hR26.inv (aJ hc27) (bY _ xl))))));have fI:=lW b9 hs (nH _ _);exact pd (y' :=⟨d.addF ⟨v,t25,w26⟩,ia,ic,uf+1,um,ui,ms,is⟩) (s' :=((jy).next)) (by simp only[mH,Cd.addF,bM,cv,eM,uO]<;>rfl) ⟨(aa l1 (aa l2 (aa l3 (aa l4 (aa l5 l6))))),⟨rfl,rfl,rfl,rfl,rfl,rfl,by dsimp only;omega,by dsimp only;omega,by dsimp only;omega⟩,(hy.up (aa l1 (aa l2 (aa l3 (aa l4 (aa l5 l6))))) (aq _)).addF ⟨by unfold az;dsimp only;omega,ht25,by unfold aA;dsimp only;omega⟩ (pW fI b9.mono),b9⟩
     ·have jA:=fun m' =>dC (en:=en) hT hc27 m'
      refine ab ((jA m5).mono ?_);clear jA;rintro r H' m6 fb ⟨l6,rfl,rfl⟩;simp only[go_sem];have rv:=fun m' =>yh (en:=en) hT hR26.inv m'
      refine ab ((rv m6).mono ?_);clear rv;rintro r H' m7 gM ⟨l7,ps29,a29,nD,lR,rfl,ha29,hb29,hc29,hd29,rfl,hR29⟩;simp only[go_sem];have HP:=hR29.mono;by_cases hc30:ah ts (lR).i [59]=true
      ·have ru:=fun m' =>dA (en:=en) hT hc30 m'
       refine ab ((ru m7).mono ?_);clear ru;rintro r H' m8 ku ⟨l8,rfl,rfl⟩;simp only[go_sem];have Ir:=hR29.inv.next (aJ hc30);have aag:(lR).next.i=(lR).i+1:=rfl;refine cg (.hoist 0 (.hoist 1 (.hoist 2 (.hoist 3 (.hoist 4 (.hoist 5 (.alt 6 [4,3,2,1,0] (.alt 7 [0] (.hoist 8 (.hoist 9 (.alt 10 [] .done .stop))) .stop) .stop))))))) ay (by kernel_rfl) (by kernel_rfl) ?_;simp only[go_sem];refine⟨fK (by have h0:=hy.mn;dsimp only at h0;omega) (by decide),?_⟩;have b9:Res ts en s (fA d (bg bH 0 (ts.drop s.i)).1 (bg bH 0 (ts.drop s.i)).2) (d.addM ⟨v,t25,w26,ps29,false,[]⟩) (lR).next:=(by rw[hM.val];exact js hM (by unfold fA;rw[ae (fun q=>vW q.1),ae (by rw[<- ar];exact hc21),ae (by rw[<- ar];exact hc23)];exact(aR hR25 (aR hR26 (by rw[ae (by rw[<- ar];exact hc27)];exact(by unfold og;exact(aR hR29 (by rw[aj (by rw[<- ar];exact hc30),<- bD];exact bO hR29.inv (aJ hc30) (bY _ Ir)))))))));have fI:=lW b9 hs (nH _ _);have gl:gq m8 ⟨v,t25,w26,ps29,false,[]⟩ (Mc.cs ⟨v,t25,w26,a29,ps29.length,nD,false,none,0,0⟩):=o9 hv ht25 hw26 hb29 ha29 (aD l8 hc29) hd29 (au _) (aq _) (cX _ _) (dN _ _);exact pd (y' :=⟨d.addM ⟨v,t25,w26,ps29,false,[]⟩,ia,ic,uf,um+1,ui,ms++Mc.cs ⟨v,t25,w26,a29,ps29.length,nD,false,none,0,0⟩,is⟩) (s' :=(lR).next) (by simp only[mH,Cd.addM,bM,cv,eM]<;>rfl) ⟨(aa l1 (aa l2 (aa l3 (aa l4 (aa l5 (aa l6 (aa l7 l8))))))),⟨rfl,rfl,rfl,rfl,rfl,rfl,by dsimp only;omega,by dsimp only;omega,by dsimp only;omega⟩,(hy.up (aa l1 (aa l2 (aa l3 (aa l4 (aa l5 (aa l6 (aa l7 l8))))))) (aq _)).addM gl rfl (pW fI b9.mono),b9⟩
      ·have ru:=fun m' =>dC (en:=en) hT hc30 m'
       refine ab ((ru m7).mono ?_);clear ru;rintro r H' m8 ku ⟨l8,rfl,rfl⟩;simp only[go_sem];have BP:=xZ (en:=en) hT (hR29.inv);refine ab ((BP m8).mono ?_);clear BP;rintro r H' m9 nA ⟨l9,bs32,a32,Cz,xs32,s32,rfl,ha32,hb32,hc32,hd32,rfl,hR32⟩;simp only[go_sem];have aaf:=hR32.mono;refine cg (.hoist 0 (.hoist 1 (.hoist 2 (.hoist 3 (.hoist 4 (.hoist 5 (.alt 6 [4,3,2,1,0] (.alt 7 [0] (.hoist 8 (.hoist 9 (.alt 10 [] .done .stop))) .stop) .stop))))))) ay (by kernel_rfl) (by kernel_rfl) ?_;simp only[go_sem];refine⟨fK (by have h0:=hy.mn;dsimp only at h0;omega) (by decide),?_⟩;have b9:Res ts en s (fA d (bg bH 0 (ts.drop s.i)).1 (bg bH 0 (ts.drop s.i)).2) (d.addM ⟨v,t25,w26,ps29,true,bs32⟩) s32:=(by rw[hM.val];exact js hM (by unfold fA;rw[ae (fun q=>vW q.1),ae (by rw[<- ar];exact hc21),ae (by rw[<- ar];exact hc23)];exact(aR hR25 (aR hR26 (by rw[ae (by rw[<- ar];exact hc27)];exact(by unfold og;exact(aR hR29 (by rw[ae (by rw[<- ar];exact hc30)];exact(aR hR32 (bY _ hR32.inv))))))))));have fI:=lW b9 hs (nH _ _);have gl:gq m9 ⟨v,t25,w26,ps29,true,bs32⟩ (Mc.cs ⟨v,t25,w26,a29,ps29.length,nD,true,a32,bs32.length,Cz⟩):=o9 hv ht25 hw26 hb29 ha29 (aD (aa l8 l9) hc29) hd29 hb32.2 ha32 hc32 hd32;exact pd (y' :=⟨d.addM ⟨v,t25,w26,ps29,true,bs32⟩,ia,ic,uf,um+1,ui,ms++Mc.cs ⟨v,t25,w26,a29,ps29.length,nD,true,a32,bs32.length,Cz⟩,is⟩) (s' :=s32) (by simp only[mH,Cd.addM,bM,cv,eM]<;>rfl) ⟨(aa l1 (aa l2 (aa l3 (aa l4 (aa l5 (aa l6 (aa l7 (aa l8 l9)))))))),⟨rfl,rfl,rfl,rfl,rfl,rfl,by dsimp only;omega,by dsimp only;omega,by dsimp only;omega⟩,(hy.up (aa l1 (aa l2 (aa l3 (aa l4 (aa l5 (aa l6 (aa l7 (aa l8 l9)))))))) (aq _)).addM gl rfl (pW fI b9.mono),b9⟩
end
end Go.Proofs.YtimddhkipjedcaaGreatDoor.E

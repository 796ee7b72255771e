/- Several texts in one. -/
import Derived.Test.YtimddhkipjedcaaGreatDoorMrg4
set_option linter.unusedSimpArgs false
set_option linter.unusedVariables false
set_option maxHeartbeats 4000000
set_option maxRecDepth 20000
namespace Go.Proofs.YtimddhkipjedcaaGreatDoor.E
open Go
section
variable {P:Program} {cfg:Cfg}
def sq (V:Vl) (b:Bx):Bx:=⟨b.id,b.ty,b.cs.map fun s=> .v (a7 V s)⟩
theorem Lp (V:Vl) (l:List SV):(l.map fun s=>SV.v (a7 V s)).map (a7 V)=l.map (a7 V):=by
 induction l with
 |nil=>rfl
 |cons s r ih=>simp only[bh,ih];rfl
theorem K3 {nid:Nat} {vc:List Vc} {V:Vl}:∀l:List SV,eL nid vc (l.map fun s=>SV.v (a7 V s))
 |[]=>trivial
 |s::r=>⟨trivial,K3 r⟩
theorem Lo (V:Vl):∀l:List Bx,(l.map (sq V)).map (fun b=>V.β b.id)=l.map (fun b=>V.β b.id)
 |[]=>rfl
 |b::r=>by simp only[bh,Lo V r];rfl
theorem Fu (V:Vl) (H:Hp):aW V ⟨H.bx.map (sq V),H.vc⟩=aW V H:=by
 unfold aW;rw[Lo]
theorem S4 {V:Vl} {D:Nat->Nat} {w:World} {H:Hp} (h:HSat V D w H):HSat V D w ⟨H.bx.map (sq V),H.vc⟩:=by
 refine⟨fun b hb=> ?_,h.vc,?_,h.uniq⟩
 ·obtain⟨b0,h0,rfl⟩:=List.mem_map.1 hb;obtain⟨⟨o,h1,h2⟩,h3⟩:=h.bx b0 h0;refine⟨⟨o,h1,?_⟩,h3⟩;show lL b0.ty ((b0.cs.map fun s=>SV.v (a7 V s)).map (a7 V)) o;rw[Lp];exact h2
 ·rw[Fu];exact h.apart
theorem QE {V:Vl} {D:Nat->Nat} {w:World} {H:Hp} (h:HSat V D w ⟨H.bx.map (sq V),H.vc⟩):HSat V D w H:=by
 refine⟨fun b hb=> ?_,h.vc,?_,h.uniq⟩
 ·obtain⟨⟨o,h1,h2⟩,h3⟩:=h.bx (sq V b) (List.mem_map.2 ⟨b,hb,rfl⟩);refine⟨⟨o,h1,?_⟩,h3⟩;have yQ:lL b.ty ((b.cs.map fun s=>SV.v (a7 V s)).map (a7 V)) o:=h2;rw[Lp] at yQ;exact yQ
 ·have:=h.apart;rw[Fu] at this;exact this
theorem Kp {V:Vl} {H H2:Hp} (hb:H2.bx.Sublist H.bx) (hv:H2.vc.Sublist H.vc):(aW V H2).Sublist (aW V H):=by
 unfold aW;exact(hb.map _).append (hv.filterMap _)
theorem S3 {V:Vl} {D:Nat->Nat} {w:World} {H H2:Hp} (h:HSat V D w H) (hb:H2.bx.Sublist H.bx) (hv:H2.vc.Sublist H.vc):HSat V D w H2:=
 ⟨fun b h0=>h.bx b (hb.subset h0),fun b h0=>h.vc b (hv.subset h0),h.apart.sublist (Kp hb hv),h.uniq.sublist (hv.map _)⟩
theorem MF {f:FuncId} {args:List SV} {H:Hp} {m:Mem} {R R' :SV->Hp->Mem->Prop} (h:FnH P f args H m R)
  (hR:∀r H' m',m.le m' ->R r H' m' ->R' r H' m' \/∃(g:SV->SV) (k u:Nat) (b:Vc) (H2:Hp),cS H'.vc k u=some b/\r=g (.vec k u)/\
   (∀(V:Vl) (v:Value),(V.γ k u).val=v->den V (g (.vec k u))=den V (g (.v v)))/\H2.bx.Sublist H'.bx/\H2.vc.Sublist H'.vc/\
   ∀(a:Option Addr) (c:Nat) (m1:Mem),m'.le m1->b.n<=c->aM m1 a b.n b.sz b.xs->R' (g (.v (.slice a b.n c))) H2 m1):FnH P f args H m R' :=by
 intro V w D jN hle hH;refine(h V w D jN hle hH).mono ?_;rintro e w' ⟨r,V',D',H',m',e1,e2,e3,e4,e5,e6,e7,e8,e9,gf,jQ⟩;rcases hR r H' m' e9 jQ with hr |⟨g,k,u,b,H2,hb,rfl,hg,s1,s2,hK⟩
 ·exact⟨r,V',D',H',m',e1,e2,e3,e4,e5,e6,e7,e8,e9,gf,hr⟩
 ·have hW:SatW ⟨w,D,(· ∈aW V H),⟨[],[]⟩,V',m⟩ (H'.bx.map (sq V')) H'.vc (max (mF (H'.bx.map (sq V'))) (mE H'.vc)) m' V' D' w' :=by
   refine⟨S4 e3,e2,e6,fun x hx=> ?_,fun x hx=>(by cases hx),fun x hx=>(by cases hx),⟨fun x hx=>⟨?_,?_⟩,fun x hx=> ?_⟩,e8,e9,gf⟩
   ·rw[Fu] at hx;exact e7 x hx
   ·exact dM (CK hx) (Nat.le_max_left _ _)
   ·obtain⟨b0,_,rfl⟩:=List.mem_map.1 hx;exact K3 _
   ·exact dM (CJ hx) (Nat.le_max_right _ _)
  obtain⟨a,c,m1,D2,q1,q2,q3,q4,q5⟩:=SatW.pub (st:=⟨[],[],H'.bx.map (sq V'),H'.vc,max (mF (H'.bx.map (sq V'))) (mE H'.vc),m'⟩) hW hb;have hS:=S3 (QE q5.heap) s1 s2;refine⟨g (.v (.slice a b.n c)),V',D2,H2,m1,?_,q5.wf,hS,e4,e5,q5.frm,fun x hx=>e7 x ((Kp s1 s2).subset hx),q5.le0,q5.m0,q5.mle,hK a c m1 q1 q2 q3⟩;rw[e1,hg V' _ q4]
def Oy (R' :SV->Hp->Mem->Prop) (r:SV) (H' :Hp) (m' :Mem):Prop:=∃H2:Hp,(qG ⟨[],[],H'.bx,H'.vc,0,m'⟩ H2.bx/\qF ⟨[],[],H'.bx,H'.vc,0,m'⟩ H2.vc)/\R' r H2 m'
theorem WH {f:FuncId} {args:List SV} {H:Hp} {m:Mem} {R' :SV->Hp->Mem->Prop} (h:FnH P f args H m (Oy R')):FnH P f args H m R' :=by
 intro V w D jN hle hH;refine(h V w D jN hle hH).mono ?_;rintro e w' ⟨r,V',D',H',m',e1,e2,e3,e4,e5,e6,e7,e8,e9,gf,H2,⟨hb,hv⟩,hr⟩;obtain⟨qR,hbu⟩:=Gb hb;obtain⟨pF,hvu⟩:=Ga hv;have wg:=List.nodup_append.1 e3.apart;refine⟨r,V',D',H2,m',e1,e2,⟨fun b hb=>e3.bx b (qR b hb),fun b hb=>e3.vc b (pF b hb),?_,hvu⟩,e4,e5,e6,fun b hb=>e7 b (Cz qR pF b hb),e8,e9,gf,hr⟩;refine List.nodup_append.2 ⟨?_,?_,fun x hx y hy=> ?_⟩
 ·exact Fg hbu fun x hx y hy e=>Fb wg.1 x (qR x hx) y (qR y hy) e
 ·exact Eh hvu fun x hx y hy b e1 e2=>CC (pF x hx) (pF y hy) e1 e2 wg.2.1
 ·refine wg.2.2 x ?_ y ?_
  ·obtain⟨z,hz,e⟩:=List.mem_map.1 hx;exact List.mem_map.2 ⟨z,qR z hz,e⟩
  ·obtain⟨z,hz,e⟩:=List.mem_filterMap.1 hy;exact List.mem_filterMap.2 ⟨z,pF z hz,e⟩
def AQ (R' :SV->Hp->Mem->Prop) (r:SV) (H' :Hp) (m' :Mem):Prop:=R' r H' m' \/∃(g:SV->SV) (k u:Nat) (b:Vc) (H2:Hp),cS H'.vc k u=some b/\r=g (.vec k u)/\
 (∀(V:Vl) (v:Value),(V.γ k u).val=v->den V (g (.vec k u))=den V (g (.v v)))/\H2.bx.Sublist H'.bx/\H2.vc.Sublist H'.vc/\
 ∀(a:Option Addr) (c:Nat) (m1:Mem),m'.le m1->b.n<=c->aM m1 a b.n b.sz b.xs->R' (g (.v (.slice a b.n c))) H2 m1
theorem jv {f:FuncId} {args:List SV} {H:Hp} {m:Mem} {R' :SV->Hp->Mem->Prop} (h:FnH P f args H m (AQ R')):FnH P f args H m R' :=
 MF h fun _ _ _ _ hr=>hr
theorem zF {R' :SV->Hp->Mem->Prop} {H' :Hp} {m' :Mem} {k u:Nat} {b:Vc} (hb:cS H'.vc k u=some b) (H2:Hp) (s1:H2.bx.Sublist H'.bx) (s2:H2.vc.Sublist H'.vc)
  (h:∀(a:Option Addr) (c:Nat) (m1:Mem),m'.le m1->b.n<=c->aM m1 a b.n b.sz b.xs->R' (.v (.slice a b.n c)) H2 m1):AQ R' (.vec k u) H' m' :=
 .inr ⟨id,k,u,b,H2,hb,rfl,fun _ _ h=>h,s1,s2,h⟩
theorem F3 {V:Vl} {v:Value}:∀{cs:List SV} {i k u:Nat},cs[i]? =some (.vec k u)->(V.γ k u).val=v->(cs.set i (.vec k u)).map (a7 V)=(cs.set i (.v v)).map (a7 V)
 |c::r,0,k,u,h,e=>by
  show a7 V (.vec k u)::_=v::_;rw[<- e];rfl
 |c::r,i+1,k,u,h,e=>by
  simp only[List.set_cons_succ,bh];rw[F3 (cs:=r) (i:=i) (by simpa using h) e]
theorem pX {R' :SV->Hp->Mem->Prop} {H' :Hp} {m' :Mem} {cs:List SV} {k u:Nat} {b:Vc} (i:Nat) (hi:cs[i]? =some (.vec k u)) (hb:cS H'.vc k u=some b) (H2:Hp) (s1:H2.bx.Sublist H'.bx) (s2:H2.vc.Sublist H'.vc)
  (h:∀(a:Option Addr) (c:Nat) (m1:Mem),m'.le m1->b.n<=c->aM m1 a b.n b.sz b.xs->R' (.agg (cs.set i (.v (.slice a b.n c)))) H2 m1):AQ R' (.agg cs) H' m' :=by
 refine .inr ⟨fun z=> .agg (cs.set i z),k,u,b,H2,hb,?_,fun V v e=> ?_,s1,s2,h⟩
 ·obtain⟨hl,he⟩:=List.getElem?_eq_some_iff.1 hi;simp only[<- he,List.set_getElem_self]
 ·show Value.agg ⟨_⟩=Value.agg ⟨_⟩;rw[F3 hi e]
def xU (k:Nat) (K:LS->Prop) (st:LS):Prop:=
 aF (.mk (k:=fun b:Bx=>lf (.mk (k:=fun cU aj=>eL aj.nid aj.vc cU/\K ⟨aj.env,aj.rho,jV aj.bx k cU,aj.vc,aj.nid,aj.m⟩) (st,b.cs))) (gl st.bx k))
theorem Sj {k:Nat} {K:LS->Prop} {st:LS}:xU k K st=
  aF (.mk (k:=fun b:Bx=>lf (.mk (k:=fun cU aj=>eL aj.nid aj.vc cU/\K ⟨aj.env,aj.rho,jV aj.bx k cU,aj.vc,aj.nid,aj.m⟩) (st,b.cs))) (gl st.bx k)):=rfl
theorem zt {k:Nat} {cs:List SV}:∀bx:List Bx,(jV bx k cs).map (·.id)=bx.map (·.id)
 |[]=>rfl
 |⟨k',t',cU⟩::r=>by
  simp only[jV];split
  ·rfl
  ·simp only[bh,zt r]
theorem zr {k:Nat} {cs:List SV}:∀{bx:List Bx} {b:Bx},b∈jV bx k cs->b∈bx\/∃b0,b0∈bx/\gl bx k=some b0/\b=⟨b0.id,b0.ty,cs⟩
 |⟨k',t',cU⟩::r,b,h=>by
  simp only[jV] at h;split at h
  ·rename_i e;rcases List.mem_cons.1 h with rfl |h
   ·refine .inr ⟨⟨k',t',cU⟩,df ..,?_,rfl⟩;simp only[gl,ah e]
   ·exact .inl (cu _ h)
  ·rename_i e;rcases List.mem_cons.1 h with rfl |h
   ·exact .inl (df ..)
   ·rcases zr h with h |⟨b0,h1,h2,h3⟩
    ·exact .inl (cu _ h)
    ·refine .inr ⟨b0,cu _ h1,?_,h3⟩;simp only[gl,ae e];exact h2
theorem VD {V:Vl} {l l' :List Bx} (h:l'.map (·.id)=l.map (·.id)):l'.map (fun b=>V.β b.id)=l.map (fun b=>V.β b.id):=by
 have:=congrArg (List.map V.β) h;simpa only[List.map_map,Function.comp_def] using this
theorem CA {V:Vl} {bx pO:List Bx} {vc:List Vc} (h:pO.map (·.id)=bx.map (·.id)):aW V ⟨pO,vc⟩=aW V ⟨bx,vc⟩:=by
 unfold aW;simp only[VD h]
theorem Qr {C:Ctx} {n:Nat} {st:LS} {a:Act} {w:World} {k:Nat} {K:LS->Prop} (hE:jl C n st a w) (h:xU k K st):∃aj,jl C n aj a w/\K aj:=by
 obtain⟨fD,V,D,hS⟩:=hE;unfold xU at h;obtain⟨b,hb,h⟩:=aB h;obtain⟨cU,m1,D1,⟨ho,hK⟩,hW,hd,_⟩:=pP (st:=st) b.cs _ st.m D h hS.w;have dS:=(sj hb).2;refine⟨⟨st.env,st.rho,jV st.bx k cU,st.vc,st.nid,m1⟩,⟨fD,V,D1,⟨hS.f,hS.ids,⟨⟨fun x hx=> ?_,hW.heap.vc,?_,hW.heap.uniq⟩,hW.wf,hW.frm,?_,hW.baseB,hW.baseV,⟨fun x hx=> ?_,hW.ids.2⟩,hW.le0,hW.m0,hW.mle⟩⟩⟩,hK⟩
 ·rcases zr hx with hx |⟨b0,h1,h2,rfl⟩
  ·exact hW.heap.bx x hx
  ·have e:b0=b:=by rw[h2] at hb;exact Option.some.inj hb
   subst e;obtain⟨⟨o,q1,q2⟩,q3⟩:=hW.heap.bx b0 h1;refine⟨⟨o,q1,?_⟩,q3⟩;show lL b0.ty (cU.map (a7 V)) o;rw[hd];exact q2
 ·rw[CA (zt st.bx)];exact hW.heap.apart
 ·rw[CA (zt st.bx)];exact hW.own
 ·rcases zr hx with hx |⟨b0,h1,h2,rfl⟩
  ·exact hW.ids.1 x hx
  ·exact⟨(hW.ids.1 b0 h1).1,ho⟩
theorem US (dv:cd cfg P) {n:Nat} {st:LS} {body:Code} {Q:Exit->LS->Prop} {X:Type} (T:(LS->Prop)->LS->Prop) (hT:∀(K:LS->Prop) (C:Ctx) (st:LS) (a:Act) (w:World),jl C n st a w->T K st->∃aj,jl C n aj a w/\K aj) (S:X->LS) (I:X->Prop) (μ:X->Nat)
  (hd:ib n body=true) (hn:∀x,I x->st.nid<=(S x).nid) (hm:∀x,I x->ak st.m (S x).m) (av:∀x,oN (S x)) (h0:T (fun aj=>∃x,Match aj (S x)/\I x) st)
  (round:∀x,I x->dq (.mk (k:=(cfg,P,n,body,jf (T fun aj=>∃x',Match aj (S x')/\I x' /\μ x' <μ x) Q)) (S x))):js (.mk (k:=(P,n,.loop body,Q)) st):=by
 rintro C a w ⟨fD,V,D,hS⟩;have hB:∀b∈C.H0.bx,b.id<st.nid:=fun b hb=>(hS.w.baseB b hb).2
 have hV:∀b∈C.H0.vc,b.id<st.nid:=fun b hb=>(hS.w.baseV b hb).2.1
 have Bl:∀x,I x->C.m0.le (S x).m:=fun x hx=>by
  rcases hm x hx with e |h
  ·rw[<- e];exact hS.w.m0
  ·exact Mem.le_trans hS.w.m0 h
 have ur:∀(kJ:LS) (a1:Act) (w1:World) (x:X),jl C n kJ a1 w1->Match kJ (S x)->I x->jl C n (S x) a1 w1:=by
  rintro kJ a1 w1 x ⟨_,V1,D1,hS1⟩ hM hx;exact⟨hM.2.1,V1,D1,hS1.weaken hM (av x) (fun b hb=>dM (hB b hb) (hn x hx)) (fun b hb=>dM (hV b hb) (hn x hx)) (Bl x hx)⟩
 obtain⟨kJ,wR,x0,hM0,Eb⟩:=hT _ _ _ _ _ ⟨fD,V,D,hS⟩ h0;refine wp_loop_ghost (fun k a w=>∃x,I x/\μ x=k/\jl C n (S x) a w) (μ x0) ⟨x0,Eb,rfl,ur _ _ _ _ wR hM0 Eb⟩ ?_;rintro k a1 w1 ⟨x,hx,rfl,hE⟩;refine wp_mono (pQ dv hd (round x hx) C a1 w1 hE) ?_;rintro e a2 w2 ⟨bC,bz,hq⟩;cases e with
 |normal=>
  obtain⟨DP,hE3,x',hM,bR,ao⟩:=hT _ _ _ _ _ bz hq;exact⟨μ x',ao,x',bR,rfl,ur _ _ _ _ hE3 hM bR⟩
 |exit id=>exact⟨bC,bz,hq⟩
 |goto l=>exact⟨bC,bz,hq⟩
 |ret=>exact⟨bC,bz,hq⟩
 |panic ch=>exact⟨bC,bz,hq⟩
 |outgrown=>exact⟨bC,bz,hq⟩
theorem CH (dv:cd cfg P) {n:Nat} {st:LS} {body:Code} {Q:Exit->LS->Prop} {X:Type} (k:Nat) (S:X->LS) (I:X->Prop) (μ:X->Nat)
  (hd:ib n body=true) (hn:∀x,I x->st.nid<=(S x).nid) (hm:∀x,I x->ak st.m (S x).m) (av:∀x,oN (S x)) (h0:xU k (fun aj=>∃x,Match aj (S x)/\I x) st)
  (round:∀x,I x->dq (.mk (k:=(cfg,P,n,body,jf (xU k fun aj=>∃x',Match aj (S x')/\I x' /\μ x' <μ x) Q)) (S x))):js (.mk (k:=(P,n,.loop body,Q)) st):=
 US dv (xU k) (fun _ _ _ _ _ hE h=>Qr hE h) S I μ hd hn hm av h0 round
end
@[reducible] def lu (en:Int) (s:PSt):Bx:=⟨0,62,[.vec 1 0,.v (.int .i64 s.i),.v (.int .i64 en),.v (.bool s.fl),.v (.int .i64 s.off)]⟩
@[reducible] def jJ (ts:List Tk):Vc:=⟨1,0,50,4,ts.length,cG ts⟩
attribute [go_sem] lu jJ
structure TsB (ts:List Tk):Prop where
 len:ts.length<=1000000
 s:∀t∈ts,t.s.length<=1000000
 n:∀t∈ts,ax t.n
theorem TsB.cs {ts:List Tk} (h:TsB ts) (i:Nat):(aP ts i).s.length<=1000000:=by
 by_cases hi:i<ts.length
 ·rw[zL hi];exact h.s _ (List.getElem_mem hi)
 ·rw[vC (by omega)];exact au _
theorem TsB.cn {ts:List Tk} (h:TsB ts) (i:Nat):ax (aP ts i).n:=by
 by_cases hi:i<ts.length
 ·rw[zL hi];exact h.n _ (List.getElem_mem hi)
 ·rw[vC (by omega)];exact⟨by decide,by decide⟩
theorem TsB.l8 {ts:List Tk} (h:TsB ts):ts.length<=100000000:=cg h.len (by decide)
theorem CS {ts:List Tk} {i:Nat} (h:eG (ts.drop i)=true):i<ts.length:=by
 rcases Nat.lt_or_ge i ts.length with hi |hi
 ·exact hi
 ·rw[List.drop_eq_nil_of_le hi] at h;cases h
theorem z7 {ts:List Tk} {i:Nat} (h:fL (ts.drop i)=true):i<ts.length:=by
 rcases Nat.lt_or_ge i ts.length with hi |hi
 ·exact hi
 ·rw[List.drop_eq_nil_of_le hi] at h;cases h
theorem Ns {ts:List Tk} {i:Nat} (h:i<ts.length):(cG ts).getD (i * 4+1) undef= .string (bs (aP ts i).s):=by
 have:=congrArg (fun l=>l[1]?) (zn h);simp only[List.getElem?_take,List.getElem?_drop] at this;rw[ah (by decide)] at this;rw[List.getD_eq_getElem?_getD,this];rfl
def Du:List Value->Option (Prop×Value)
 |[.string a,.string b]=>some (tl b=[47],.bool ((tl a).contains 47))
 |_=>none
attribute [go_sem] Du.eq_1
theorem Vo:nJ Tryz.prog 228 Du:=fun b5 y hy hB m=>by
 unfold Du at hy;split at hy
 ·rename_i a b;cases hy;have h:=Sn (tl a) 47 m;have e:b=bs [47]:=by rw[<- la b,hB]
  rw[e];rwa [la] at h
 ·cases hy
abbrev cfC:Cfg:=fh (fun _=>false) [(134,eB BL fun s=> .bool (dz s)),(228,Du)]
theorem uO:cd cfC Tryz.prog:=pure_cons (by kernel_rfl) (ff fun a m h=>zb a m h) (pure_cons (by kernel_rfl) Vo pure_nil)
theorem ee (ts:List Tk) (en:Int) (s:PSt) (w:List UInt8) (m:Mem) (hn:ts.length<=100000000):FnH Tryz.prog 52 [.box 0 0,.v (.string (bs w))] (pH ts en s) m fun r H' m' =>ak m m' /\r= .tup []/\H' =pH ts en (aQ ts en s w):=Qy ts en s w m hn
section
variable (ts:List Tk) (en:Int) (s:PSt) (m:Mem)
theorem Eo (hT:TsB ts):FnH Tryz.prog 126 [.box 0 0] (pH ts en s) m fun r H' m' =>ak m m' /\r= .v (.bool (eG (ts.drop s.i)))/\H' =pH ts en s:=by
 have hp:=xt ts en s m hT.l8;have hb:=hT.cs s.i;rw[eG,om,j4];refine aH uO Tryz.func126 ?_
 ·simp only[go_sem];refine ab (hp.mono ?_);clear hp;rintro r H' m1 aJ ⟨rfl,rfl⟩;simp only[go_sem];exact⟨fun _=>by unfold BL;omega,.inr aJ⟩
theorem En (hT:TsB ts):FnH Tryz.prog 190 [.box 0 0] (pH ts en s) m fun r H' m' =>ak m m' /\r= .v (.bool (fL (ts.drop s.i)))/\H' =pH ts en s:=by
 have hp:=xt ts en s m hT.l8;have hb:=hT.cs s.i;rw[fL,om,j4];refine aH uO Tryz.func190 ?_
 ·simp only[go_sem];refine ab (hp.mono ?_);clear hp;rintro r H' m1 aJ ⟨rfl,rfl⟩;simp only[go_sem];exact⟨fun _=>by unfold BL;omega,.inr aJ⟩
theorem n9 (hT:TsB ts) (hI:Inv ts s):FnH Tryz.prog 50 [.box 0 0] (pH ts en s) m fun r H' m' =>ak m m' /\∃w s',r= .v (.string (bs w))/\w.length<=1000000/\H' =pH ts en s' /\Res ts en s (fO (ts.drop s.i)) w s' :=by
 have hp:=Eo ts en s m hT;have hb:=hT.cs s.i;by_cases h:eG (ts.drop s.i)=true
 ·rw[h] at hp;have hi:=CS h;have hR:Res ts en s (fO (ts.drop s.i)) (aP ts s.i).s s.next:=by
   rw[fO,ah h,j4,<- bk];exact bt hI hi (bI _ (hI.next hi))
  refine aH uO Tryz.func50 ?_
  ·simp only[go_sem];refine ab (hp.mono ?_);clear hp;rintro r H' m1 aJ ⟨l1,rfl,rfl⟩;simp only[go_sem];have hl:=hT.len;have ht:=CW ts;have e:(s.i+1 - 1:Int).toNat=s.i:=by omega
   refine⟨by unfold ax;omega,?_⟩;refine cw (.hoist 0 (.hoist 1 (.hoist 2 (.hoist 3 (.hoist 4 (.hoist 5 (.hoist 6 (.hoist 7 (.hoist 8 (.hoist 9 (.hoist 10 (.hoist 11 (.hoist 12 .done))))))))))))) uO (by kernel_rfl) (by kernel_rfl) ?_;simp only[go_sem];refine⟨by unfold ax;omega,⟨by omega,by omega⟩,by omega,by omega,l1,(aP ts s.i).s,s.next,?_,hb,rfl,hR⟩;rw[e];exact Ns hi
 ·have h' :eG (ts.drop s.i)=false:=by simpa using h
  rw[h'] at hp;have hf:=fun m' =>zi ts en s m' hT.l8
  have hR:Res ts en s (fO (ts.drop s.i)) [] (jy ts en s):=by
   rw[fO,ae h];exact Cp _ hI
  refine aH uO Tryz.func50 ?_
  ·simp only[go_sem];refine ab (hp.mono ?_);clear hp;rintro r H' m1 aJ ⟨l1,rfl,rfl⟩;simp only[go_sem];refine ab ((hf m1).mono ?_);clear hf;rintro r H' m2 aG ⟨rfl,rfl,rfl⟩;simp only[go_sem];exact⟨l1,[],_,rfl,au _,rfl,hR⟩
theorem pR (hT:TsB ts) (hI:Inv ts s):FnH Tryz.prog 130 [.box 0 0] (pH ts en s) m fun r H' m' =>ak m m' /\∃w s',r= .v (.string (bs w))/\w.length<=1000000/\H' =pH ts en s' /\Res ts en s (cW (ts.drop s.i)) w s' :=by
 have hp:=En ts en s m hT;have hb:=hT.cs s.i;by_cases h:fL (ts.drop s.i)=true
 ·rw[h] at hp;have hi:=z7 h;have hR:Res ts en s (cW (ts.drop s.i)) (aP ts s.i).s s.next:=by
   rw[cW,ah h,j4,<- bk];exact bt hI hi (bI _ (hI.next hi))
  refine aH uO Tryz.func130 ?_
  ·simp only[go_sem];refine ab (hp.mono ?_);clear hp;rintro r H' m1 aJ ⟨l1,rfl,rfl⟩;simp only[go_sem];have hl:=hT.len;have ht:=CW ts;have e:(s.i+1 - 1:Int).toNat=s.i:=by omega
   refine⟨by unfold ax;omega,?_⟩;refine cw (.hoist 0 (.hoist 1 (.hoist 2 (.hoist 3 (.hoist 4 (.hoist 5 (.hoist 6 (.hoist 7 (.hoist 8 (.hoist 9 (.hoist 10 (.hoist 11 (.hoist 12 .done))))))))))))) uO (by kernel_rfl) (by kernel_rfl) ?_;simp only[go_sem];refine⟨by unfold ax;omega,⟨by omega,by omega⟩,by omega,by omega,l1,(aP ts s.i).s,s.next,?_,hb,rfl,hR⟩;rw[e];exact Ns hi
 ·have h' :fL (ts.drop s.i)=false:=by simpa using h
  rw[h'] at hp;have hf:=fun m' =>zi ts en s m' hT.l8
  have hR:Res ts en s (cW (ts.drop s.i)) [] (jy ts en s):=by
   rw[cW,ae h];exact Cp _ hI
  refine aH uO Tryz.func130 ?_
  ·simp only[go_sem];refine ab (hp.mono ?_);clear hp;rintro r H' m1 aJ ⟨l1,rfl,rfl⟩;simp only[go_sem];refine ab ((hf m1).mono ?_);clear hf;rintro r H' m2 aG ⟨rfl,rfl,rfl⟩;simp only[go_sem];exact⟨l1,[],_,rfl,au _,rfl,hR⟩
abbrev DO (t:Ty):SV:= .agg [.v (.int .i64 t.dim),.v (.int .u8 t.base),.v (.string (bs t.name))]
theorem Jn (hT:TsB ts) (hI:Inv ts s):FnH Tryz.prog 153 [.box 0 0] (pH ts en s) m fun r H' m' =>ak m m' /\∃t s',r=DO t/\t.dim=0/\(0<=t.base/\t.base<256)/\t.name.length<=1000000/\H' =pH ts en s' /\Res ts en s (jz (ts.drop s.i)) t s' :=by
 have ha:=rT ts en s gL m hT.l8;have hb:=fun m' =>rT ts en s gH m' hT.l8
 have hc:=fun m' =>n9 ts en s m' hT hI
 by_cases h1:ai ts s.i gL=true
 ·rw[h1] at ha;have hi:=aN h1;have hR:Res ts en s (jz (ts.drop s.i)) ⟨0,73,[]⟩ s.next:=by
   rw[jz,<- an,ah h1,<- bk];exact bt hI hi (bI _ (hI.next hi))
  refine aH aw Tryz.func153 ?_
  ·simp only[go_sem];refine ab (ha.mono ?_);clear ha hb hc;rintro r H' m1 aJ ⟨l1,rfl,rfl⟩;simp only[go_sem];exact⟨l1,⟨0,73,[]⟩,s.next,rfl,rfl,by decide,au _,rfl,hR⟩
 ·have Bw:ai ts s.i gL=false:=by simpa using h1
  rw[Bw] at ha;by_cases h2:ai ts s.i gH=true
  ·have nY:=fun m' =>(hb m').mono fun r H' m2 _ h=>(⟨h.1,by have:=h.2.1;rw[h2] at this;exact this,by have:=h.2.2;rw[ah h2] at this;exact this⟩:ak m' m2/\r= .v (.bool true)/\H' =pH ts en s.next)
   clear hb;have hi:=aN h2;have hR:Res ts en s (jz (ts.drop s.i)) ⟨0,74,[]⟩ s.next:=by
    rw[jz,<- an,ae h1,<- an,ah h2,<- bk];exact bt hI hi (bI _ (hI.next hi))
   refine aH aw Tryz.func153 ?_
   ·simp only[go_sem];refine ab (ha.mono ?_);clear ha hc;rintro r H' m1 aJ ⟨l1,rfl,rfl⟩;simp only[go_sem];refine ab ((nY m1).mono ?_);clear nY;rintro r H' m2 aG ⟨l2,rfl,rfl⟩;simp only[go_sem];exact⟨aa l1 l2,⟨0,74,[]⟩,s.next,rfl,rfl,by decide,au _,rfl,hR⟩
  ·have yQ:ai ts s.i gH=false:=by simpa using h2
   have nY:=fun m' =>(hb m').mono fun r H' m2 _ h=>(⟨h.1,by have:=h.2.1;rw[yQ] at this;exact this,by have:=h.2.2;rw[ae h2] at this;exact this⟩:ak m' m2/\r= .v (.bool false)/\H' =pH ts en s)
   clear hb;refine aH aw Tryz.func153 ?_
   ·simp only[go_sem];refine ab (ha.mono ?_);clear ha;rintro r H' m1 aJ ⟨l1,rfl,rfl⟩;simp only[go_sem];refine ab ((nY m1).mono ?_);clear nY;rintro r H' m2 aG ⟨l2,rfl,rfl⟩;simp only[go_sem];refine ab ((hc m2).mono ?_);clear hc;rintro r H' m3 bu ⟨l3,w,s',rfl,hw,rfl,hR⟩;simp only[go_sem];refine⟨aa (aa l1 l2) l3,⟨0,76,w⟩,s',rfl,rfl,(by decide:(0:Int)<=76/\(76:Int)<256),hw,rfl,?_⟩;rw[jz,<- an,ae h1,<- an,ae h2];exact aO hR (bI _ hR.inv)
theorem vq (hT:TsB ts) (hI:Inv ts s):FnH Tryz.prog 63 [.box 0 0] (pH ts en s) m fun r H' m' =>ak m m' /\∃t s',r=DO t/\nR t/\t.name.length<=1000000/\H' =pH ts en s' /\Res ts en s (fr (ts.drop s.i)) t s' :=by
 have hb:=Jn ts en s m hT hI;refine aH aw Tryz.func63 ?_
 ·simp only[go_sem];refine ab (hb.mono ?_);clear hb;rintro r H' m1 aJ ⟨l1,t1,s1,rfl,ht1,ht2,ht3,rfl,dw⟩;simp only[go_sem];refine cK aw (fun y:PSt×Ty×Mem=>⟨[⟨0,[],.box 0 0⟩,⟨2,[],.box 2 0⟩,⟨3,[],.box 5 0⟩],[],[⟨5,30,[.v (.int .i64 y.2.1.dim),.v (.int .u8 y.2.1.base),.v (.string (bs y.2.1.name))]⟩,lu en y.1,⟨2,30,[.v (.int .i64 0),.v (.int .u8 0),.v (.string (bs []))]⟩],[jJ ts],20,y.2.2⟩)
   (fun y=>ak m1 y.2.2/\Inv ts y.1/\y.2.1.name.length<=1000000/\(0<=y.2.1.base/\y.2.1.base<256)/\(0<=y.2.1.dim/\y.2.1.dim<=y.1.i)/\∀a s',Res ts en y.1 (uj y.2.1 (ts.drop y.1.i)) a s' ->Res ts en s (fr (ts.drop s.i)) a s')
   (fun y=>ts.length - y.1.i) (s1,t1,m1) (fun _ _=>dO rfl) (fun y hy=>hy.1) ?_ ?_ ?_
  ·simp only[go_sem]
  ·exact⟨.inl rfl,dw.inv,ht3,ht2,⟨by dsimp only;omega,by dsimp only;omega⟩,fun a s' h=>by rw[MI];exact aO dw h⟩
  ·rintro⟨s2,t2,m2⟩ ⟨q1,q2,q3,q4,q5,q6⟩;dsimp only at q1 q2 q3 q4 q5 q6;have hl:=hT.len;have dJ:=q2.le;have ha:=rT ts en s2 [91] m2 hT.l8;by_cases h1:ai ts s2.i [91]=true
   ·rw[h1] at ha;have hi:=aN h1;have mW:=q2.next hi;have he:=fun m' =>ee ts en s2.next [93] m' hT.l8
    have Br:Inv ts (aQ ts en s2.next [93]):=eo mW;have hle:s2.i+1<=(aQ ts en s2.next [93]).i:=fR mW;simp only[go_sem];refine ab (ha.mono ?_);clear ha;rintro r H' m3 bu ⟨l3,rfl,rfl⟩;simp only[go_sem];refine ab ((he m3).mono ?_);clear he;rintro r H' m4 dc ⟨l4,rfl,rfl⟩;simp only[go_sem];refine⟨by unfold ax;omega,(aQ ts en s2.next [93],t2.up,m4),⟨⟨⟨rfl,rfl,rfl⟩,⟨rfl,rfl,rfl⟩⟩,.inl rfl⟩,⟨aa (aa q1 l3) l4,Br,q3,q4,⟨by show 0<=t2.dim+1;omega,by show t2.dim+1<=((aQ ts en s2.next [93]).i:Int);omega⟩,fun a s' h=>q6 a s' ?_⟩,by dsimp only;omega⟩;rw[FU,ah (by rw[<- an];exact h1),<- bk];exact bt q2 hi (dn mW h)
   ·have Bw:ai ts s2.i [91]=false:=by simpa using h1
    rw[Bw] at ha;simp only[go_sem];refine ab (ha.mono ?_);clear ha;rintro r H' m3 bu ⟨l3,rfl,rfl⟩;simp only[go_sem];refine⟨aa (aa l1 q1) l3,t2,s2,rfl,⟨by unfold ax;omega,q4,by unfold az;omega⟩,q3,rfl,q6 _ _ ?_⟩;rw[FU,ae (by rw[<- an];exact h1)];exact bI _ q2
end
theorem Sx (n:Nat) (hn:n<=9) (m:Mem):FnH Tryz.prog 152 [.v (.int .i64 n)] ⟨[],[]⟩ m fun r H' m' =>m' =m/\r= .vec 0 0/\H' =⟨[],[⟨0,0,9,1,(eX n).length,strs (eX n)⟩]⟩:=by
 refine aH aw Tryz.func152 ?_
 ·simp only[go_sem];exact⟨fun h=>by obtain rfl:n=0:=(by omega);rfl,fun h0=>⟨fun h=>by obtain rfl:n=1:=(by omega);rfl,fun h1=>⟨fun h=>by obtain rfl:n=2:=(by omega);rfl,fun h2=>⟨fun h=>by obtain rfl:n=3:=(by omega);rfl,fun h3=>⟨fun h=>by obtain rfl:n=4:=(by omega);rfl,fun h4=>⟨fun h=>by obtain rfl:n=5:=(by omega);rfl,fun h5=>⟨fun h=>by obtain rfl:n=6:=(by omega);rfl,fun h6=>⟨fun h=>by obtain rfl:n=7:=(by omega);rfl,fun h7=>⟨fun h=>by obtain rfl:n=8:=(by omega);rfl,fun h8=>by obtain rfl:n=9:=(by omega);rfl⟩⟩⟩⟩⟩⟩⟩⟩⟩
theorem Rk (n:Nat) (hn:n<=9) (m:Mem):FnH Tryz.prog 152 [.v (.int .i64 n)] ⟨[],[]⟩ m fun r H' m' =>m.le m' /\∃a c,r= .v (.slice a (eX n).length c)/\(eX n).length<=c/\aM m' a (eX n).length 1 (strs (eX n))/\H' =⟨[],[]⟩:=by
 refine MF (Sx n hn m) ?_;rintro r H' m' hm ⟨rfl,rfl,rfl⟩;refine .inr ⟨id,0,0,_,⟨[],[]⟩,rfl,rfl,fun V v h=>h,List.Sublist.refl _,List.nil_sublist _,fun a c m1 h1 h2 h3=>⟨h1,a,c,rfl,h2,h3,rfl⟩⟩
section
variable (ts:List Tk) (en:Int) (s:PSt) (m:Mem)
theorem Gq {ts:List Tk} {n i:Nat} (h:gI n (ts.drop i)=true):i<ts.length:=by
 rcases Nat.lt_or_ge i ts.length with hi |hi
 ·exact hi
 ·rw[List.drop_eq_nil_of_le hi,gI] at h;cases h
theorem ID (n:Nat) (hn:n<=9) (hT:TsB ts):FnH Tryz.prog 62 [.box 0 0,.v (.int .i64 n)] (pH ts en s) m fun r H' m' =>ak m m' /\
  ∃w,r= .tup [.v (.string (bs w)),.v (.bool (gI n (ts.drop s.i)))]/\(gI n (ts.drop s.i)=true->w=kp (ts.drop s.i))/\H' =pH ts en (if gI n (ts.drop s.i)=true then s.next else s):=by
 have hp:=xt ts en s m hT.l8;have hl:=fun m' =>Rk n hn m'
 refine aH aw Tryz.func62 ?_
 ·simp only[go_sem];refine ab (hp.mono ?_);clear hp;rintro r H' m1 aJ ⟨rfl,rfl⟩;simp only[go_sem];refine cw (.hoist 0 (.hoist 1 (.hoist 2 (.hoist 3 (.hoist 4 (.hoist 6 (.hoist 7 (.alt 5 [7,6] (.alt 8 [] (.hoist 9 .done) .stop) .stop)))))))) aw (by kernel_rfl) (by kernel_rfl) ?_;simp only[go_sem];have hlen:(eX n).length<=4611686018427387904:=by unfold eX;repeat (first |(split;decide) |split |decide)
  refine⟨fun hk=>ab ((hl m1).mono ?_),fun hk=> ?_⟩
  ·clear hl;rintro r H' m2 aG ⟨_,a,c,rfl,bb,bP,rfl⟩;have hc:=xb (eX n) (aP ts s.i).s a _ c m2 bP hlen;simp only[go_sem];refine⟨⟨.inr aG,.inr aG⟩,by kernel_rfl,cE (hc.mono ?_)⟩;clear hc;rintro r H' m3 bu ⟨rfl,rfl⟩;simp only[go_sem];have Bn:ak m m3:= .inr (Mem.le_trans aJ (Mem.le_trans aG bu));refine⟨fun h=> ?_,fun h=> ?_⟩
   ·have hf:gI n (ts.drop s.i)=true:=by rw[gI,om,j4,hk,h];rfl
    have hi:=Gq hf;have hl:=hT.len;rw[hf];exact⟨by unfold ax;omega,Bn,_,rfl,fun _=>(j4 ts s.i).symm,rfl⟩
   ·have hf:gI n (ts.drop s.i)=false:=by rw[gI,j4,h,Bool.and_false]
    rw[hf];exact⟨Bn,[],rfl,fun h=>(by cases h),rfl⟩
  ·have hf:gI n (ts.drop s.i)=false:=by rw[gI,om];simp [hk]
   rw[hf];exact⟨.inr aJ,[],rfl,fun h=>(by cases h),rfl⟩
end
abbrev Nd.svs (x:Nd):List SV:=[.v (.int .i64 x.k),.v (.int .i64 x.n),.v (.string (bs x.s)),.v (.string (bs x.c)),.v (.int .i64 x.ty.dim),.v (.int .u8 x.ty.base),.v (.string (bs x.ty.name)),.v (.slice x.a x.l x.cp)]
abbrev fP (ts:List Tk) (en:Int) (s:PSt) (K:PR Ex) (m:Mem):SV->Hp->Mem->Prop:=fun r H' m' =>ak m m' /\∃(x:Nd) (e:Ex) (s' :PSt),r= .agg x.svs/\ba m' e x.cs/\H' =pH ts en s' /\Res ts en s K e s'
abbrev ack (ts:List Tk) (en:Int) (s:PSt) (K:PR (List Ex)) (m:Mem):SV->Hp->Mem->Prop:=fun r H' m' =>ak m m' /\∃(es:List Ex) (a:Option Addr) (c:Nat) (xs:List Value) (s' :PSt),r= .v (.slice a es.length c)/\es.length<=c/\es.length<=1000001/\aM m' a es.length 8 xs/\dF m' es xs/\H' =pH ts en s' /\Res ts en s K es s'
theorem byE:mY Tryz.prog 33=104:=by kernel_rfl
theorem byS:mY Tryz.prog 73=312:=by kernel_rfl
attribute [go_sem] byE byS
theorem gD {n b:Nat} (hn:n<=2000002) (hb:b<=1000):room n b:=by
 have:n * b<=2000002 * 1000:=Nat.mul_le_mul hn hb;exact⟨by omega,by unfold maxLen;omega⟩
theorem cv (m:Mem) (z:Nat):aM m none 0 z []:=⟨by simp,fun h=>absurd h (by decide)⟩
theorem eT {m:Mem} {k n:Int} {s c:List UInt8} {ty:Ty} {es:List Ex} {a:Option Addr} {cp:Nat} {xs:List Value} (hk:ax k) (hn:ax n) (hs:s.length<=1000000) (hc:c.length<=1000000) (ht:nR ty)
  (hl:es.length<=1000002) (bb:es.length<=cp) (hr:aM m a es.length 8 xs) (he:dF m es xs):ba m (.mk k n s c ty es) (Nd.cs ⟨k,n,s,c,ty,a,es.length,cp⟩):=by
 simp only[ba];exact⟨a,cp,xs,rfl,bb,hr,⟨hk,hn,by unfold az;omega,by unfold az;omega,ht,by unfold az;omega⟩,he⟩
theorem kR {m:Mem} {k n:Int} {s c:List UInt8} {ty:Ty} (hk:ax k) (hn:ax n) (hs:s.length<=1000000) (hc:c.length<=1000000) (ht:nR ty):ba m (.mk k n s c ty []) (Nd.cs ⟨k,n,s,c,ty,none,0,0⟩):=
 eT (es:=[]) hk hn hs hc ht (au _) (aq _) (cv m 8) (by simp only[dF])
theorem bX:nR af:=⟨⟨by decide,by decide⟩,by decide,by decide⟩
theorem jZ {m:Mem} {e:Ex} {x:Nd} (h:ba m e x.cs):dF m [e] x.cs:=by
 simp only[dF,and_true];exact h
theorem DM {m:Mem} {e e2:Ex} {x y:Nd} (h:ba m e x.cs) (h2:ba m e2 y.cs):dF m [e,e2] (x.cs++y.cs):=by
 simp only[dF,and_true];exact⟨h,h2⟩
theorem FR {m:Mem} {e:Ex} {x:Nd} (hx:ba m e x.cs):∀{es:List Ex} {xs:List Value},xs.length=es.length * 8->dF m es xs->dF m (es++[e]) (xs++x.cs)
 |[],xs,hl,_=>by
  have:xs=[]:=List.eq_nil_of_length_eq_zero (by simpa using hl);subst this;exact jZ hx
 |y::r,xs,hl,h=>by
  simp only[dF,jt] at h ⊢;simp only[cC] at hl;have h8:8<=xs.length:=by omega
  rw[List.take_append_of_le_length h8,List.drop_append_of_le_length h8];exact⟨h.1,FR hx (by rw[cj];omega) h.2⟩
theorem tP {m m' :Mem} {es:List Ex} {xs:List Value} (hle:ak m m') (h:dF m es xs):dF m' es xs:=by
 rcases hle with rfl |hle
 ·exact h
 ·exact Ca hle es xs h
theorem XO {m:Mem} {e:Ex} {cs:List Value} (h:ba m e cs):∀u∈cs,u.oneCell' =true:=by
 obtain⟨x,rfl⟩:=pT h;intro u hu;simp only[Nd.cs,List.mem_cons,List.not_mem_nil,or_false] at hu;rcases hu with rfl |rfl |rfl |rfl |rfl |rfl |rfl |rfl<;>rfl
theorem Ct {m:Mem}:∀{es:List Ex} {xs:List Value},xs.length=es.length * 8->dF m es xs->∀u∈xs,u.oneCell' =true
 |[],xs,hl,_=>by
  have:xs=[]:=List.eq_nil_of_length_eq_zero (by simpa using hl);subst this;intro u hu;cases hu
 |y::r,xs,hl,h=>by
  simp only[dF] at h;simp only[cC] at hl;intro u hu;rw[<- List.take_append_drop 8 xs] at hu;rcases List.mem_append.1 hu with hu |hu
  ·exact XO h.1 u hu
  ·exact Ct (by rw[cj];omega) h.2 u hu
theorem Fm {m:Mem} {e:Ex} {x:Nd} {es:List Ex} {xs:List Value} (hx:ba m e x.cs) (h:dF m es xs):dF m (e::es) (x.cs++xs):=by
 simp only[dF];exact⟨hx,h⟩
def nK (ts:List Tk) (en:Int) (n:Nat) (s:PSt):Prop:=∀m:Mem,FnH Tryz.prog 31 [.box 0 0,.v (.int .i64 n)] (pH ts en s) m (fP ts en s (bL n (ts.drop s.i)) m)
def uq (ts:List Tk) (en:Int) (s:PSt):Prop:=∀m:Mem,FnH Tryz.prog 167 [.box 0 0] (pH ts en s) m (ack ts en s (iQ (ts.drop s.i)) m)
def Da (ts:List Tk) (en:Int) (s:PSt):Prop:=∀m:Mem,FnH Tryz.prog 166 [.box 0 0] (pH ts en s) m (fP ts en s (fA (ts.drop s.i)) m)
def yS (ts:List Tk) (en:Int) (s:PSt):Prop:=∀m:Mem,FnH Tryz.prog 61 [.box 0 0] (pH ts en s) m (fP ts en s (nl (ts.drop s.i)) m)
section
variable {ts:List Tk} {en:Int} {s:PSt}
theorem KR (hT:TsB ts) (hI:Inv ts s) (hE:nK ts en 0 (aQ ts en s [40])):Da ts en s:=fun m=>by
 have h1:=ee ts en s [40] m hT.l8;have Bs:∀m' :Mem,FnH Tryz.prog 31 [.box 0 0,.v (.int .i64 0)] (pH ts en (aQ ts en s [40])) m' (fP ts en (aQ ts en s [40]) (bL 0 (ts.drop (aQ ts en s [40]).i)) m'):=hE;rw[E9];refine aH aw Tryz.func166 ?_
 ·simp only[go_sem];refine ab (h1.mono ?_);clear h1;rintro r H' m1 aJ ⟨l1,rfl,rfl⟩;simp only[go_sem];refine ab ((Bs m1).mono ?_);clear Bs;rintro r H' m2 aG ⟨l2,x,e,s2,rfl,hx,rfl,hR⟩;have h3:=ee ts en s2 [41] m2 hT.l8;simp only[go_sem];refine ab (h3.mono ?_);clear h3;rintro r H' m3 bu ⟨l3,rfl,rfl⟩;simp only[go_sem];exact⟨aa (aa l1 l2) l3,x,e,_,rfl,aU l3 hx,rfl,dn hI (aO hR (dn hR.inv (bI _ (eo hR.inv))))⟩
theorem WC (hT:TsB ts) (hI:Inv ts s) (hE:∀s1,Inv ts s1->s.i<=s1.i->nK ts en 0 s1):uq ts en s:=fun m=>by
 have h1:=ee ts en s [40] m hT.l8;have tA:Inv ts (aQ ts en s [40]):=eo hI;have rD:s.i<=(aQ ts en s [40]).i:=fR hI;by_cases hc:ai ts (aQ ts en s [40]).i [41]=true
 ·have h2:=fun m' =>(rT ts en (aQ ts en s [40]) [41] m' hT.l8).mono fun r H' m2 _ h=>(⟨h.1,by have:=h.2.1;rw[hc] at this;exact this,by have:=h.2.2;rw[ah hc] at this;exact this⟩:ak m' m2/\r= .v (.bool true)/\H' =pH ts en (aQ ts en s [40]).next)
  have hi:=aN hc;have hR:Res ts en s (iQ (ts.drop s.i)) [] (aQ ts en s [40]).next:=by
   rw[FW];refine dn hI ?_;rw[<- an,ah hc,<- bk];exact bt tA hi (bI _ (tA.next hi))
  refine aH aw Tryz.func167 ?_
  ·simp only[go_sem];refine ab (h1.mono ?_);clear h1;rintro r H' m1 aJ ⟨l1,rfl,rfl⟩;simp only[go_sem];refine ab ((h2 m1).mono ?_);clear h2 hE;rintro r H' m2 aG ⟨l2,rfl,rfl⟩;simp only[go_sem];exact⟨aa l1 l2,[],none,0,[],_,rfl,aq _,au _,cv _ _,by simp only[dF],rfl,hR⟩
 ·have yL:ai ts (aQ ts en s [40]).i [41]=false:=by simpa using hc
  have h2:=fun m' =>(rT ts en (aQ ts en s [40]) [41] m' hT.l8).mono fun r H' m2 _ h=>(⟨h.1,by have:=h.2.1;rw[yL] at this;exact this,by have:=h.2.2;rw[ae hc] at this;exact this⟩:ak m' m2/\r= .v (.bool false)/\H' =pH ts en (aQ ts en s [40]))
  have Bs:∀m' :Mem,FnH Tryz.prog 31 [.box 0 0,.v (.int .i64 0)] (pH ts en (aQ ts en s [40])) m' (fP ts en (aQ ts en s [40]) (bL 0 (ts.drop (aQ ts en s [40]).i)) m'):=hE _ tA rD;refine jv (aH aw Tryz.func167 ?_)
  ·simp only[go_sem];refine ab (h1.mono ?_);clear h1;rintro r H' m1 aJ ⟨l1,rfl,rfl⟩;simp only[go_sem];refine ab ((h2 m1).mono ?_);clear h2;rintro r H' m2 aG ⟨l2,rfl,rfl⟩;simp only[go_sem];refine ab ((Bs m2).mono ?_);clear Bs;rintro r H' m3 bu ⟨l3,x,e,s3,rfl,hx,rfl,hR3⟩;simp only[go_sem];have kg:s.i<=s3.i:=cg rD hR3.mono;refine⟨gD (by decide) (by decide),?_⟩;refine cK aw (fun y:PSt×List Ex×List Value×Nat×Mem=>⟨[⟨0,[],.box 0 0⟩,⟨3,[],.vec 9 y.2.2.2.1⟩],[],[lu en y.1],[⟨9,y.2.2.2.1,33,8,y.2.1.length,y.2.2.1⟩,jJ ts],20,y.2.2.2.2⟩)
    (fun y=>ak m3 y.2.2.2.2/\Inv ts y.1/\s.i<=y.1.i/\y.2.1.length<=y.1.i+1/\y.2.2.1.length=y.2.1.length * 8/\dF y.2.2.2.2 y.2.1 y.2.2.1/\∀a s',Res ts en y.1 (vO y.2.1 (ts.drop y.1.i)) a s' ->Res ts en s (iQ (ts.drop s.i)) a s')
    (fun y=>ts.length - y.1.i) (s3,[e],x.cs,0,m3) (fun _ _=>dO rfl) (fun y hy=>hy.1) ?_ ?_ ?_
   ·simp only[go_sem];exact rfl
   ·exact⟨.inl rfl,hR3.inv,kg,by simp,by simp [Nd.cs],jZ hx,fun a s' h=>by
     rw[FW];refine dn hI ?_;rw[<- an,ae hc]
     exact aO hR3 h⟩
   ·rintro⟨s4,es,xs,u,m4⟩ ⟨q1,q2,q3,q4,q5,q6,q7⟩;dsimp only at q1 q2 q3 q4 q5 q6 q7;have hl:=hT.len;have dJ:=q2.le;have ha:=rT ts en s4 [44] m4 hT.l8;by_cases h1:ai ts s4.i [44]=true
    ·rw[h1] at ha;have hi:=aN h1;have fk:=q2.next hi;have wR:∀m' :Mem,FnH Tryz.prog 31 [.box 0 0,.v (.int .i64 0)] (pH ts en s4.next) m' (fP ts en s4.next (bL 0 (ts.drop s4.next.i)) m'):=hE s4.next fk (Nat.le_succ_of_le q3);clear hE;simp only[go_sem];refine ab (ha.mono ?_);clear ha;rintro r H' m5 b9 ⟨l5,rfl,rfl⟩;simp only[go_sem];refine ab ((wR m5).mono ?_);clear wR;rintro r H' m6 ej ⟨l6,x6,e6,s6,rfl,hx6,rfl,hR6⟩;simp only[go_sem];have hm:=hR6.mono;have qK:s4.next.i=s4.i+1:=rfl;refine⟨gD (by omega) (by decide),(s6,es++[e6],xs++x6.cs,u+1,m6),⟨rfl,⟨rfl,rfl,rfl⟩,⟨rfl,by simp,rfl⟩,.inl rfl⟩,⟨aa q1 (aa l5 l6),hR6.inv,by dsimp only;omega,by simp only[bY,fI];omega,by simp only[bY,fI,q5,Nd.cs,cC,fm];omega,FR hx6 q5 (tP (aa l5 l6) q6),fun a s' h=>q7 a s' ?_⟩,by dsimp only;omega⟩;rw[zz,ah (by rw[<- an];exact h1),<- bk];exact bt q2 hi (aO hR6 h)
    ·have Bw:ai ts s4.i [44]=false:=by simpa using h1
     rw[Bw] at ha;have he:=fun m' =>ee ts en s4 [41] m' hT.l8
     clear hE;simp only[go_sem];refine ab (ha.mono ?_);clear ha;rintro r H' m5 b9 ⟨l5,rfl,rfl⟩;simp only[go_sem];refine ab ((he m5).mono ?_);clear he;rintro r H' m6 ej ⟨l6,rfl,rfl⟩;simp only[go_sem];refine zF (b:=⟨9,u,33,8,es.length,xs⟩) (by simp [cS]) (pH ts en (aQ ts en s4 [41])) (List.Sublist.refl _) (.cons_cons _ (List.nil_sublist _)) fun a c mm w1 w2 w3=>⟨aa (aa (aa (aa l1 l2) l3) q1) (aa (aa l5 l6) (.inr w1)),es,a,c,xs,_,rfl,w2,by omega,w3,tP (aa (aa l5 l6) (.inr w1)) q6,rfl,q7 _ _ ?_⟩
     rw[zz,ae (by rw[<- an];exact h1)];exact dn q2 (bI _ (eo q2))
end
section
variable {ts:List Tk} {en:Int} {s:PSt}
theorem cZ {w:List UInt8} (hT:TsB ts) (h:ai ts s.i w=true) (m:Mem):FnH Tryz.prog 49 [.box 0 0,.v (.string (bs w))] (pH ts en s) m fun r H' m' =>ak m m' /\r= .v (.bool true)/\H' =pH ts en s.next:=
 (rT ts en s w m hT.l8).mono fun r H' m2 _ q=>⟨q.1,by have:=q.2.1;rw[h] at this;exact this,by have:=q.2.2;rw[ah h] at this;exact this⟩
theorem da {w:List UInt8} (hT:TsB ts) (h:¬ai ts s.i w=true) (m:Mem):FnH Tryz.prog 49 [.box 0 0,.v (.string (bs w))] (pH ts en s) m fun r H' m' =>ak m m' /\r= .v (.bool false)/\H' =pH ts en s:=
 (rT ts en s w m hT.l8).mono fun r H' m2 _ q=>⟨q.1,by have:=q.2.1;rw[(by simpa using h:ai ts s.i w=false)] at this;exact this,by have:=q.2.2;rw[ae h] at this;exact this⟩
theorem lF {w:List UInt8} (hT:TsB ts) (h:ai ts s.i w=true) (m:Mem):FnH Tryz.prog 74 [.box 0 0,.v (.string (bs w))] (pH ts en s) m fun r H' m' =>ak m m' /\r= .v (.bool true)/\H' =pH ts en s:=
 (Cq ts en s w m hT.l8).mono fun r H' m2 _ q=>⟨q.1,by have:=q.2.1;rw[h] at this;exact this,q.2.2⟩
theorem lG {w:List UInt8} (hT:TsB ts) (h:¬ai ts s.i w=true) (m:Mem):FnH Tryz.prog 74 [.box 0 0,.v (.string (bs w))] (pH ts en s) m fun r H' m' =>ak m m' /\r= .v (.bool false)/\H' =pH ts en s:=
 (Cq ts en s w m hT.l8).mono fun r H' m2 _ q=>⟨q.1,by have:=q.2.1;rw[(by simpa using h:ai ts s.i w=false)] at this;exact this,q.2.2⟩
theorem W5 {α:Type} {K:PR α} {a:α} {s' :PSt} (h:Res ts en s K a s') (hI:Inv ts s) (hi:s.i<ts.length) (hK:∀x r,K= .ok (x,r)->r.length<(ts.drop s.i).length):s.i<s'.i:=by
 have hf:=hI.nfl hi;cases e:K with
 |error r=>
  have:=h.inv.fl (h.er hf r e).1;omega
 |ok p=>
  obtain⟨x,r⟩:=p;obtain⟨_,_,rfl⟩:=h.ok hf x r e;have:=hK x _ e;simp only[cj] at this;omega
def Dy (l:List Tk):PR Ex:=if mb l=3 then .ok (.mk 1 (tv l) [] [] af [],l.tail) else if mb l=4 then .ok (.mk 2 (tv l) [] [] af [],l.tail) else .ok (.mk 3 0 (kp l) [] af [],l.tail)
noncomputable def NF (l:List Tk):PR Ex:=ar (fO l) fun c r=>aR [46] r fun r2=>ar (cW r2) fun s r3=>if aA [40] r3=true then ar (iQ r3) fun es r4=> .ok (.mk 11 0 s c af es,r4) else .ok (.mk 8 0 s c af [],r3)
noncomputable def Z3 (l:List Tk):PR Ex:=aR [46] l fun r=>ar (cW r) fun s r2=>ar (iQ r2) fun es r3=> .ok (.mk 12 0 s [] af es,r3)
noncomputable def Hm (l:List Tk):PR Ex:=ar (jz l) fun t r=>
 if t.base=76/\aA [40] r=true then ar (iQ r) fun es r2=> .ok (.mk 13 0 [] t.name af es,r2)
 else aR [91] r fun r2=>ar (sR t r2) fun t2 r3=>ar (bL 0 r3) fun e r4=>aR [93] r4 fun r5=> .ok (.mk 14 0 [] [] t2 [e],r5)
noncomputable def Y9 (k:Int) (l:List Tk):PR Ex:=ar (fA l) fun e r=> .ok (.mk k 0 [] [] af [e],r)
theorem Rj (hT:TsB ts) (hI:Inv ts s) (m:Mem):FnH Tryz.prog 206 [.box 0 0] (pH ts en s) m (fP ts en s (ar (cW (ts.drop s.i)) fun w r=> .ok (.mk 6 0 w [] af [],r)) m):=by
 have h1:=fun m' =>pR ts en s m' hT hI
 refine aH aw Tryz.func206 ?_
 ·simp only[go_sem];refine ab ((h1 m).mono ?_);clear h1;rintro r H' m1 aJ ⟨l1,w,s1,rfl,hw,rfl,hR⟩;simp only[go_sem];exact⟨l1,⟨6,0,w,[],af,none,0,0⟩,.mk 6 0 w [] af [],s1,rfl,kR ⟨by decide,by decide⟩ ⟨by decide,by decide⟩ hw (au _) bX,rfl,aO hR (bI _ hR.inv)⟩
theorem Gl (hT:TsB ts) (k:Int) (hk:ax k) (hP:Da ts en s) (m:Mem):FnH Tryz.prog 239 [.box 0 0,.v (.int .i64 k)] (pH ts en s) m (fP ts en s (Y9 k (ts.drop s.i)) m):=by
 refine jv (aH aw Tryz.func239 ?_)
 ·simp only[go_sem];refine ab ((hP m).mono ?_);clear hP;rintro r H' m1 aJ ⟨l1,x,e,s1,rfl,hx,rfl,hR⟩;simp only[go_sem];exact pX 7 rfl rfl (pH ts en s1) (List.Sublist.refl _) (.cons _ (List.Sublist.refl _)) fun a cp mm w1 w2 w3=>⟨aa l1 (.inr w1),⟨k,0,[],[],af,a,1,cp⟩,.mk k 0 [] [] af [e],s1,rfl,eT (es:=[e]) hk ⟨by decide,by decide⟩ (au _) (au _) bX (by simp) w2 w3 (jZ (aU (.inr w1) hx)),rfl,aO hR (bI _ hR.inv)⟩
theorem P5 (hT:TsB ts) (hI:Inv ts s) (hi:s.i<ts.length) (m:Mem):FnH Tryz.prog 205 [.box 0 0] (pH ts en s) m (fP ts en s (Dy (ts.drop s.i)) m):=by
 have hp:=xt ts en s m hT.l8;have hl:=hT.len;have hn:=hT.cn s.i;have hs:=hT.cs s.i;rw[Dy,om,Mp,j4,<- bk];refine aH aw Tryz.func205 ?_
 ·simp only[go_sem];refine ab (hp.mono ?_);clear hp;rintro r H' m1 aJ ⟨rfl,rfl⟩;simp only[go_sem];refine⟨by unfold ax;omega,fun h3=> ?_,fun h3=>⟨fun h4=> ?_,fun h4=> ?_⟩⟩
  ·rw[ah h3];exact⟨.inr aJ,⟨1,(aP ts s.i).n,[],[],af,none,0,0⟩,_,s.next,rfl,kR ⟨by decide,by decide⟩ hn (au _) (au _) bX,rfl,bt hI hi (bI _ (hI.next hi))⟩
  ·rw[ae h3,ah h4];exact⟨.inr aJ,⟨2,(aP ts s.i).n,[],[],af,none,0,0⟩,_,s.next,rfl,kR ⟨by decide,by decide⟩ hn (au _) (au _) bX,rfl,bt hI hi (bI _ (hI.next hi))⟩
  ·rw[ae h3,ae h4];exact⟨.inr aJ,⟨3,0,(aP ts s.i).s,[],af,none,0,0⟩,_,s.next,rfl,kR ⟨by decide,by decide⟩ ⟨by decide,by decide⟩ hs (au _) bX,rfl,bt hI hi (bI _ (hI.next hi))⟩
theorem RT (hT:TsB ts) (hI:Inv ts s) (hc:eG (ts.drop s.i)=true) (hA:∀s1,Inv ts s1->s.i<s1.i->uq ts en s1) (m:Mem):FnH Tryz.prog 207 [.box 0 0] (pH ts en s) m (fP ts en s (NF (ts.drop s.i)) m):=by
 have h1:=fun m' =>n9 ts en s m' hT hI
 have hi:=CS hc;refine aH aw Tryz.func207 ?_
 ·simp only[go_sem];refine ab ((h1 m).mono ?_);clear h1;rintro r H' m1 aJ ⟨l1,c,s1,rfl,bN,rfl,dw⟩;simp only[go_sem];have ao:s.i<s1.i:=W5 dw hI hi fun x r e=>by
   rw[fO,ah hc] at e;cases e;have cY:ts.drop s.i≠[]:=fun e=>by rw[e] at hc;cases hc
   exact dE cY
  have h2:=fun m' =>ee ts en s1 [46] m' hT.l8
  have wQ:Inv ts (aQ ts en s1 [46]):=eo dw.inv;have aX:s1.i<=(aQ ts en s1 [46]).i:=fR dw.inv;have h3:=fun m' =>pR ts en (aQ ts en s1 [46]) m' hT wQ
  refine ab ((h2 m1).mono ?_);clear h2;rintro r H' m2 aG ⟨l2,rfl,rfl⟩;simp only[go_sem];refine ab ((h3 m2).mono ?_);clear h3;rintro r H' m3 bu ⟨l3,w,s3,rfl,hw,rfl,hR3⟩;simp only[go_sem];have kg:=hR3.mono;by_cases cB:ai ts s3.i [40]=true
  ·have h4:=lF (en:=en) hT cB;have h5:=hA s3 hR3.inv (by omega);clear hA;refine ab ((h4 m3).mono ?_);clear h4;rintro r H' m4 dc ⟨l4,rfl,rfl⟩;simp only[go_sem];refine ab ((h5 m4).mono ?_);clear h5;rintro r H' m5 b9 ⟨l5,es,a,cp,xs,s5,rfl,ha1,ha2,ha3,ha4,rfl,hR5⟩;simp only[go_sem];refine⟨(aa (aa (aa (aa l1 l2) l3) l4) l5),⟨11,0,w,c,af,a,es.length,cp⟩,.mk 11 0 w c af es,s5,rfl,eT ⟨by decide,by decide⟩ ⟨by decide,by decide⟩ hw bN bX (Nat.le_succ_of_le ha2) ha1 ha3 ha4,rfl,?_⟩;refine aO dw (dn dw.inv (aO hR3 ?_));rw[ah (by rw[<- an];exact cB)];exact aO hR5 (bI _ hR5.inv)
  ·have h4:=lG (en:=en) hT cB;clear hA;refine ab ((h4 m3).mono ?_);clear h4;rintro r H' m4 dc ⟨l4,rfl,rfl⟩;simp only[go_sem];refine⟨(aa (aa (aa l1 l2) l3) l4),⟨8,0,w,c,af,none,0,0⟩,.mk 8 0 w c af [],s3,rfl,kR ⟨by decide,by decide⟩ ⟨by decide,by decide⟩ hw bN bX,rfl,?_⟩;refine aO dw (dn dw.inv (aO hR3 ?_));rw[ae (by rw[<- an];exact cB)];exact bI _ hR3.inv
theorem U7 (hT:TsB ts) (hI:Inv ts s) (hA:∀s1,Inv ts s1->s.i<=s1.i->uq ts en s1) (m:Mem):FnH Tryz.prog 237 [.box 0 0] (pH ts en s) m (fP ts en s (Z3 (ts.drop s.i)) m):=by
 have h2:=fun m' =>ee ts en s [46] m' hT.l8
 have wQ:Inv ts (aQ ts en s [46]):=eo hI;have aX:s.i<=(aQ ts en s [46]).i:=fR hI;have h3:=fun m' =>pR ts en (aQ ts en s [46]) m' hT wQ
 refine aH aw Tryz.func237 ?_
 ·simp only[go_sem];refine ab ((h2 m).mono ?_);clear h2;rintro r H' m1 aJ ⟨l1,rfl,rfl⟩;simp only[go_sem];refine ab ((h3 m1).mono ?_);clear h3;rintro r H' m2 aG ⟨l2,w,s3,rfl,hw,rfl,hR3⟩;simp only[go_sem];have kg:=hR3.mono;have h5:=hA s3 hR3.inv (by omega);clear hA;refine ab ((h5 m2).mono ?_);clear h5;rintro r H' m3 bu ⟨l3,es,a,cp,xs,s5,rfl,ha1,ha2,ha3,ha4,rfl,hR5⟩;simp only[go_sem];exact⟨(aa (aa l1 l2) l3),⟨12,0,w,[],af,a,es.length,cp⟩,.mk 12 0 w [] af es,s5,rfl,eT ⟨by decide,by decide⟩ ⟨by decide,by decide⟩ hw (au _) bX (Nat.le_succ_of_le ha2) ha1 ha3 ha4,rfl,dn hI (aO hR3 (aO hR5 (bI _ hR5.inv)))⟩
end
@[reducible] def tb (k:Nat):Bx:=⟨k,33,[.v (.int .i64 0),.v (.int .i64 0),.v (.string (bs [])),.v (.string (bs [])),.v (.int .i64 0),.v (.int .u8 0),.v (.string (bs [])),.v (.slice none 0 0)]⟩
attribute [go_sem] tb
noncomputable def Dw (t2:Ty) (r3:List Tk):PR Ex:=ar (bL 0 r3) fun e r4=>aR [93] r4 fun r5=> .ok (.mk 14 0 [] [] t2 [e],r5)
theorem Gm {α β:Type} {w:List UInt8} {l:List Tk} {k:List Tk->PR α} {F:α->List Tk->PR β}:ar (aR w l k) F=aR w l fun r=>ar (k r) F:=by
 unfold aR;split<;>rfl
section
variable {ts:List Tk} {en:Int} {s:PSt}
theorem QA (hT:TsB ts) (hI:Inv ts s) (hA:∀s1,Inv ts s1->s.i<=s1.i->uq ts en s1) (hE:∀s1,Inv ts s1->s.i<=s1.i->nK ts en 0 s1) (m:Mem):FnH Tryz.prog 238 [.box 0 0] (pH ts en s) m (fP ts en s (Hm (ts.drop s.i)) m):=by
 have h1:=fun m' =>Jn ts en s m' hT hI
 refine jv (aH aw Tryz.func238 ?_)
 ·simp only[go_sem];refine ab ((h1 m).mono ?_);clear h1;rintro r H' m1 aJ ⟨l1,t1,s1,rfl,ht1,ht2,ht3,rfl,dw⟩;simp only[go_sem];have rD:=dw.mono;refine⟨fun hb=> ?_,fun hb=> ?_⟩
  ·by_cases cB:ai ts s1.i [40]=true
   ·have h2:=lF (en:=en) hT cB;have h3:=hA s1 dw.inv rD;clear hA hE;refine ab ((h2 m1).mono ?_);clear h2;rintro r H' m2 aG ⟨l2,rfl,rfl⟩;simp only[go_sem];refine cw (.hoist 0 (.hoist 1 (.hoist 2 (.alt 3 [1,0] (.hoist 4 (.alt 5 [] .done .stop)) .stop)))) aw (by kernel_rfl) (by kernel_rfl) ?_;simp only[go_sem];refine ab ((h3 m2).mono ?_);clear h3;rintro r H' m3 bu ⟨l3,es,a,cp,xs,s5,rfl,ha1,ha2,ha3,ha4,rfl,hR5⟩;simp only[go_sem];refine⟨⟨l3,l3⟩,.inl ⟨(aa (aa l1 l2) l3),⟨13,0,[],t1.name,af,a,es.length,cp⟩,.mk 13 0 [] t1.name af es,s5,rfl,eT ⟨by decide,by decide⟩ ⟨by decide,by decide⟩ (au _) ht3 bX (Nat.le_succ_of_le ha2) ha1 ha3 ha4,rfl,?_⟩⟩;refine aO dw ?_;rw[ah ⟨hb,by rw[<- an];exact cB⟩];exact aO hR5 (bI _ hR5.inv)
   ·have h2:=lG (en:=en) hT cB;refine ab ((h2 m1).mono ?_);clear h2;rintro r H' m2 aG ⟨l2,rfl,rfl⟩;simp only[go_sem];have h2:=fun m' =>ee ts en s1 [91] m' hT.l8
    have wQ:Inv ts (aQ ts en s1 [91]):=eo dw.inv;have aX:s1.i<=(aQ ts en s1 [91]).i:=fR dw.inv;clear hA;refine ab ((h2 m2).mono ?_);clear h2;rintro r H' m3 bu ⟨l3,rfl,rfl⟩;simp only[go_sem];refine cK aw (fun y:PSt×Ty×Mem=>⟨[⟨0,[],.box 0 0⟩,⟨2,[],.box 2 0⟩,⟨3,[],.box 5 0⟩],[],[⟨5,30,[.v (.int .i64 y.2.1.dim),.v (.int .u8 y.2.1.base),.v (.string (bs y.2.1.name))]⟩,lu en y.1,tb 2],[jJ ts],40,y.2.2⟩)
     (fun y=>ak m3 y.2.2/\Inv ts y.1/\s.i<=y.1.i/\y.2.1.name.length<=1000000/\(0<=y.2.1.base/\y.2.1.base<256)/\(0<=y.2.1.dim/\y.2.1.dim<=y.1.i)/\∀a s',Res ts en y.1 (ar (sR y.2.1 (ts.drop y.1.i)) Dw) a s' ->Res ts en s (Hm (ts.drop s.i)) a s')
     (fun y=>ts.length - y.1.i) (aQ ts en s1 [91],t1,m3) (fun _ _=>dO rfl) (fun y hy=>hy.1) ?_ ?_ ?_
    ·simp only[go_sem]
    ·exact⟨.inl rfl,wQ,by dsimp only;omega,ht3,ht2,⟨by dsimp only;omega,by dsimp only;omega⟩,fun a s' h=>aO dw (by rw[ae (fun q=>cB (by rw[an];exact q.2))];exact dn dw.inv h)⟩
    ·rintro⟨s4,t4,m4⟩ ⟨q1,q2,q3,q4,q5,q6,q7⟩;dsimp only at q1 q2 q3 q4 q5 q6 q7;have hl:=hT.len;have dJ:=q2.le;by_cases gz:ai ts s4.i [93]=true
     ·have ha:=cZ (en:=en) hT gz;have hi:=aN gz;have fk:=q2.next hi;have he:=fun m' =>ee ts en s4.next [91] m' hT.l8
      have wP:Inv ts (aQ ts en s4.next [91]):=eo fk;have rC:s4.i+1<=(aQ ts en s4.next [91]).i:=fR fk;clear hE;simp only[go_sem];refine ab ((ha m4).mono ?_);clear ha;rintro r H' m5 b9 ⟨l5,rfl,rfl⟩;simp only[go_sem];refine⟨by unfold ax;omega,by kernel_rfl,cE ((he m5).mono ?_)⟩;clear he;rintro r H' m6 ej ⟨l6,rfl,rfl⟩;simp only[go_sem];refine⟨(aQ ts en s4.next [91],t4.up,m6),⟨⟨⟨rfl,rfl,rfl⟩,⟨rfl,rfl,rfl⟩⟩,.inl rfl⟩,⟨aa q1 (aa l5 l6),wP,by dsimp only;omega,q4,q5,⟨by show 0<=t4.dim+1;omega,by show t4.dim+1<=((aQ ts en s4.next [91]).i:Int);omega⟩,fun a s' h=>q7 a s' ?_⟩,by dsimp only;omega⟩;rw[zH,ah (by rw[<- an];exact gz),<- bk,Gm];exact bt q2 hi (dn fk h)
     ·have ha:=da (en:=en) hT gz;have he:=hE s4 q2 q3;have Bo:∀m' :Mem,FnH Tryz.prog 31 [.box 0 0,.v (.int .i64 0)] (pH ts en s4) m' (fP ts en s4 (bL 0 (ts.drop s4.i)) m'):=he;clear hE he;simp only[go_sem];refine ab ((ha m4).mono ?_);clear ha;rintro r H' m5 b9 ⟨l5,rfl,rfl⟩;simp only[go_sem];refine ab ((Bo m5).mono ?_);clear Bo;rintro r H' m6 ej ⟨l6,x,e,s6,rfl,hx,rfl,hR6⟩;have h7:=fun m' =>ee ts en s6 [93] m' hT.l8
      simp only[go_sem];refine ab ((h7 m6).mono ?_);clear h7;rintro r H' m7 gb ⟨l7,rfl,rfl⟩;simp only[go_sem];exact pX 7 rfl rfl (pH ts en (aQ ts en s6 [93])) (List.Sublist.refl _) (.cons _ (List.Sublist.refl _)) fun a cp mm w1 w2 w3=>⟨aa (aa (aa (aa l1 l2) l3) (aa q1 (aa l5 (aa l6 l7)))) (.inr w1),⟨14,0,[],[],t4,a,1,cp⟩,.mk 14 0 [] [] t4 [e],(aQ ts en s6 [93]),rfl,eT (es:=[e]) ⟨by decide,by decide⟩ ⟨by decide,by decide⟩ (au _) (au _) ⟨by unfold ax;omega,q5,by unfold az;omega⟩ (by simp) w2 w3 (jZ (aU (aa l7 (.inr w1)) hx)),rfl,q7 _ _ (by rw[zH,ae (by rw[<- an];exact gz)];exact aO (bI t4 q2) (aO hR6 (dn hR6.inv (bI _ (eo hR6.inv)))))⟩
  ·have h2:=fun m' =>ee ts en s1 [91] m' hT.l8
   have wQ:Inv ts (aQ ts en s1 [91]):=eo dw.inv;have aX:s1.i<=(aQ ts en s1 [91]).i:=fR dw.inv;clear hA;refine ab ((h2 m1).mono ?_);clear h2;rintro r H' m2 aG ⟨l2,rfl,rfl⟩;simp only[go_sem];refine cK aw (fun y:PSt×Ty×Mem=>⟨[⟨0,[],.box 0 0⟩,⟨2,[],.box 2 0⟩,⟨3,[],.box 5 0⟩],[],[⟨5,30,[.v (.int .i64 y.2.1.dim),.v (.int .u8 y.2.1.base),.v (.string (bs y.2.1.name))]⟩,lu en y.1,tb 2],[jJ ts],40,y.2.2⟩)
    (fun y=>ak m2 y.2.2/\Inv ts y.1/\s.i<=y.1.i/\y.2.1.name.length<=1000000/\(0<=y.2.1.base/\y.2.1.base<256)/\(0<=y.2.1.dim/\y.2.1.dim<=y.1.i)/\∀a s',Res ts en y.1 (ar (sR y.2.1 (ts.drop y.1.i)) Dw) a s' ->Res ts en s (Hm (ts.drop s.i)) a s')
    (fun y=>ts.length - y.1.i) (aQ ts en s1 [91],t1,m2) (fun _ _=>dO rfl) (fun y hy=>hy.1) ?_ ?_ ?_
   ·simp only[go_sem]
   ·exact⟨.inl rfl,wQ,by dsimp only;omega,ht3,ht2,⟨by dsimp only;omega,by dsimp only;omega⟩,fun a s' h=>aO dw (by rw[ae (fun q=>hb q.1)];exact dn dw.inv h)⟩
   ·rintro⟨s4,t4,m4⟩ ⟨q1,q2,q3,q4,q5,q6,q7⟩;dsimp only at q1 q2 q3 q4 q5 q6 q7;have hl:=hT.len;have dJ:=q2.le;by_cases gz:ai ts s4.i [93]=true
    ·have ha:=cZ (en:=en) hT gz;have hi:=aN gz;have fk:=q2.next hi;have he:=fun m' =>ee ts en s4.next [91] m' hT.l8
     have wP:Inv ts (aQ ts en s4.next [91]):=eo fk;have rC:s4.i+1<=(aQ ts en s4.next [91]).i:=fR fk;clear hE;simp only[go_sem];refine ab ((ha m4).mono ?_);clear ha;rintro r H' m5 b9 ⟨l5,rfl,rfl⟩;simp only[go_sem];refine⟨by unfold ax;omega,by kernel_rfl,cE ((he m5).mono ?_)⟩;clear he;rintro r H' m6 ej ⟨l6,rfl,rfl⟩;simp only[go_sem];refine⟨(aQ ts en s4.next [91],t4.up,m6),⟨⟨⟨rfl,rfl,rfl⟩,⟨rfl,rfl,rfl⟩⟩,.inl rfl⟩,⟨aa q1 (aa l5 l6),wP,by dsimp only;omega,q4,q5,⟨by show 0<=t4.dim+1;omega,by show t4.dim+1<=((aQ ts en s4.next [91]).i:Int);omega⟩,fun a s' h=>q7 a s' ?_⟩,by dsimp only;omega⟩;rw[zH,ah (by rw[<- an];exact gz),<- bk,Gm];exact bt q2 hi (dn fk h)
    ·have ha:=da (en:=en) hT gz;have he:=hE s4 q2 q3;have Bo:∀m' :Mem,FnH Tryz.prog 31 [.box 0 0,.v (.int .i64 0)] (pH ts en s4) m' (fP ts en s4 (bL 0 (ts.drop s4.i)) m'):=he;clear hE he;simp only[go_sem];refine ab ((ha m4).mono ?_);clear ha;rintro r H' m5 b9 ⟨l5,rfl,rfl⟩;simp only[go_sem];refine ab ((Bo m5).mono ?_);clear Bo;rintro r H' m6 ej ⟨l6,x,e,s6,rfl,hx,rfl,hR6⟩;have h7:=fun m' =>ee ts en s6 [93] m' hT.l8
     simp only[go_sem];refine ab ((h7 m6).mono ?_);clear h7;rintro r H' m7 gb ⟨l7,rfl,rfl⟩;simp only[go_sem];exact pX 7 rfl rfl (pH ts en (aQ ts en s6 [93])) (List.Sublist.refl _) (.cons _ (List.Sublist.refl _)) fun a cp mm w1 w2 w3=>⟨aa (aa (aa l1 l2) (aa q1 (aa l5 (aa l6 l7)))) (.inr w1),⟨14,0,[],[],t4,a,1,cp⟩,.mk 14 0 [] [] t4 [e],(aQ ts en s6 [93]),rfl,eT (es:=[e]) ⟨by decide,by decide⟩ ⟨by decide,by decide⟩ (au _) (au _) ⟨by unfold ax;omega,q5,by unfold az;omega⟩ (by simp) w2 w3 (jZ (aU (aa l7 (.inr w1)) hx)),rfl,q7 _ _ (by rw[zH,ae (by rw[<- an];exact gz)];exact aO (bI t4 q2) (aO hR6 (dn hR6.inv (bI _ (eo hR6.inv)))))⟩
end
section
variable {ts:List Tk} {en:Int} {s:PSt}
theorem Rn (hT:TsB ts) (hI:Inv ts s) (hA:∀s1,Inv ts s1->s.i<s1.i->uq ts en s1) (hP:∀s1,Inv ts s1->s.i<s1.i->Da ts en s1) (hE:∀s1,Inv ts s1->s.i<s1.i->nK ts en 0 s1) (m:Mem):FnH Tryz.prog 204 [.box 0 0] (pH ts en s) m (fP ts en s (lj (ts.drop s.i)) m):=by
 refine aH aw Tryz.func204 ?_
 ·simp only[go_sem];by_cases h0:ai ts s.i [110,117,108,108]=true
  ·have ha:=cZ (en:=en) hT h0;have hi:=aN h0;have eF:=hI.next hi;clear hA hP hE;refine ab ((ha m).mono ?_);clear ha;rintro r H' m1 aJ ⟨l1,rfl,rfl⟩;simp only[go_sem];exact⟨l1,⟨4,0,[],[],af,none,0,0⟩,_,s.next,rfl,kR ⟨by decide,by decide⟩ ⟨by decide,by decide⟩ (au _) (au _) bX,rfl,by rw[kA,ah (by rw[<- an];exact h0),<- bk];exact bt hI hi (bI _ eF)⟩
  ·have ha:=da (en:=en) hT h0;refine ab ((ha m).mono ?_);clear ha;rintro r H' m1 aJ ⟨l1,rfl,rfl⟩;simp only[go_sem];by_cases h1:ai ts s.i [116,104,105,115]=true
   ·have ha:=cZ (en:=en) hT h1;have hi:=aN h1;have eF:=hI.next hi;clear hA hP hE;refine ab ((ha m1).mono ?_);clear ha;rintro r H' m2 aG ⟨l2,rfl,rfl⟩;simp only[go_sem];exact⟨(aa l1 l2),⟨5,0,[],[],af,none,0,0⟩,_,s.next,rfl,kR ⟨by decide,by decide⟩ ⟨by decide,by decide⟩ (au _) (au _) bX,rfl,by rw[kA,ae (by rw[<- an];exact h0),ah (by rw[<- an];exact h1),<- bk];exact bt hI hi (bI _ eF)⟩
   ·have ha:=da (en:=en) hT h1;refine ab ((ha m1).mono ?_);clear ha;rintro r H' m2 aG ⟨l2,rfl,rfl⟩;simp only[go_sem];by_cases h2:ai ts s.i [115,117,112,101,114]=true
    ·have ha:=cZ (en:=en) hT h2;have hi:=aN h2;have eF:=hI.next hi;have hs:=U7 (s:=s.next) (en:=en) hT eF (fun s1 g1 g2=>hA s1 g1 (dM (Nat.lt_succ_self _) g2));clear hA hP hE;refine ab ((ha m2).mono ?_);clear ha;rintro r H' m3 bu ⟨l3,rfl,rfl⟩;simp only[go_sem];refine ab ((hs m3).mono ?_);clear hs;rintro r H' m4 dc ⟨l4,x,e,s1,rfl,hx,rfl,hR⟩;simp only[go_sem];exact⟨(aa (aa (aa l1 l2) l3) l4),x,e,s1,rfl,hx,rfl,by rw[kA,ae (by rw[<- an];exact h0),ae (by rw[<- an];exact h1),ah (by rw[<- an];exact h2),<- bk];exact bt hI hi hR⟩
    ·have ha:=da (en:=en) hT h2;refine ab ((ha m2).mono ?_);clear ha;rintro r H' m3 bu ⟨l3,rfl,rfl⟩;simp only[go_sem];by_cases h3:ai ts s.i [110,101,119]=true
     ·have ha:=cZ (en:=en) hT h3;have hi:=aN h3;have eF:=hI.next hi;have hs:=QA (s:=s.next) (en:=en) hT eF (fun s1 g1 g2=>hA s1 g1 (dM (Nat.lt_succ_self _) g2)) (fun s1 g1 g2=>hE s1 g1 (dM (Nat.lt_succ_self _) g2));clear hA hP hE;refine ab ((ha m3).mono ?_);clear ha;rintro r H' m4 dc ⟨l4,rfl,rfl⟩;simp only[go_sem];refine ab ((hs m4).mono ?_);clear hs;rintro r H' m5 b9 ⟨l5,x,e,s1,rfl,hx,rfl,hR⟩;simp only[go_sem];exact⟨(aa (aa (aa (aa l1 l2) l3) l4) l5),x,e,s1,rfl,hx,rfl,by rw[kA,ae (by rw[<- an];exact h0),ae (by rw[<- an];exact h1),ae (by rw[<- an];exact h2),ah (by rw[<- an];exact h3),<- bk];exact bt hI hi hR⟩
     ·have ha:=da (en:=en) hT h3;refine ab ((ha m3).mono ?_);clear ha;rintro r H' m4 dc ⟨l4,rfl,rfl⟩;simp only[go_sem];by_cases h4:ai ts s.i [108,101,110]=true
      ·have ha:=cZ (en:=en) hT h4;have hi:=aN h4;have eF:=hI.next hi;have hs:=Gl (s:=s.next) (en:=en) hT 19 ⟨by decide,by decide⟩ (hP s.next eF (Nat.lt_succ_self _));clear hA hP hE;refine ab ((ha m4).mono ?_);clear ha;rintro r H' m5 b9 ⟨l5,rfl,rfl⟩;simp only[go_sem];refine ab ((hs m5).mono ?_);clear hs;rintro r H' m6 ej ⟨l6,x,e,s1,rfl,hx,rfl,hR⟩;simp only[go_sem];exact⟨(aa (aa (aa (aa (aa l1 l2) l3) l4) l5) l6),x,e,s1,rfl,hx,rfl,by rw[kA,ae (by rw[<- an];exact h0),ae (by rw[<- an];exact h1),ae (by rw[<- an];exact h2),ae (by rw[<- an];exact h3),ah (by rw[<- an];exact h4),<- bk];exact bt hI hi hR⟩
      ·have ha:=da (en:=en) hT h4;refine ab ((ha m4).mono ?_);clear ha;rintro r H' m5 b9 ⟨l5,rfl,rfl⟩;simp only[go_sem];by_cases h5:ai ts s.i gL=true
       ·have ha:=cZ (en:=en) hT h5;have hi:=aN h5;have eF:=hI.next hi;have hs:=Gl (s:=s.next) (en:=en) hT 20 ⟨by decide,by decide⟩ (hP s.next eF (Nat.lt_succ_self _));clear hA hP hE;refine ab ((ha m5).mono ?_);clear ha;rintro r H' m6 ej ⟨l6,rfl,rfl⟩;simp only[go_sem];refine ab ((hs m6).mono ?_);clear hs;rintro r H' m7 gb ⟨l7,x,e,s1,rfl,hx,rfl,hR⟩;simp only[go_sem];exact⟨(aa (aa (aa (aa (aa (aa l1 l2) l3) l4) l5) l6) l7),x,e,s1,rfl,hx,rfl,by rw[kA,ae (by rw[<- an];exact h0),ae (by rw[<- an];exact h1),ae (by rw[<- an];exact h2),ae (by rw[<- an];exact h3),ae (by rw[<- an];exact h4),ah (by rw[<- an];exact h5),<- bk];exact bt hI hi hR⟩
       ·have ha:=da (en:=en) hT h5;refine ab ((ha m5).mono ?_);clear ha;rintro r H' m6 ej ⟨l6,rfl,rfl⟩;simp only[go_sem];by_cases h6:ai ts s.i gH=true
        ·have ha:=cZ (en:=en) hT h6;have hi:=aN h6;have eF:=hI.next hi;have hs:=Gl (s:=s.next) (en:=en) hT 21 ⟨by decide,by decide⟩ (hP s.next eF (Nat.lt_succ_self _));clear hA hP hE;refine ab ((ha m6).mono ?_);clear ha;rintro r H' m7 gb ⟨l7,rfl,rfl⟩;simp only[go_sem];refine ab ((hs m7).mono ?_);clear hs;rintro r H' m8 jP ⟨l8,x,e,s1,rfl,hx,rfl,hR⟩;simp only[go_sem];exact⟨(aa (aa (aa (aa (aa (aa (aa l1 l2) l3) l4) l5) l6) l7) l8),x,e,s1,rfl,hx,rfl,by rw[kA,ae (by rw[<- an];exact h0),ae (by rw[<- an];exact h1),ae (by rw[<- an];exact h2),ae (by rw[<- an];exact h3),ae (by rw[<- an];exact h4),ae (by rw[<- an];exact h5),ah (by rw[<- an];exact h6),<- bk];exact bt hI hi hR⟩
        ·have ha:=da (en:=en) hT h6;refine ab ((ha m6).mono ?_);clear ha;rintro r H' m7 gb ⟨l7,rfl,rfl⟩;simp only[go_sem];have hf:=fun m' =>zi ts en s m' hT.l8
         clear hA hP hE;refine ab ((hf m7).mono ?_);clear hf;rintro r H' m8 jP ⟨rfl,rfl,rfl⟩;simp only[go_sem];exact⟨(aa (aa (aa (aa (aa (aa l1 l2) l3) l4) l5) l6) l7),⟨0,0,[],[],af,none,0,0⟩,.mk 0 0 [] [] af [],_,rfl,kR ⟨by decide,by decide⟩ ⟨by decide,by decide⟩ (au _) (au _) bX,rfl,by rw[kA,ae (by rw[<- an];exact h0),ae (by rw[<- an];exact h1),ae (by rw[<- an];exact h2),ae (by rw[<- an];exact h3),ae (by rw[<- an];exact h4),ae (by rw[<- an];exact h5),ae (by rw[<- an];exact h6)];exact Cp _ hI⟩
end
section
variable {ts:List Tk} {en:Int} {s:PSt}
theorem Xp (hT:TsB ts) (h:fL (ts.drop s.i)=true) (m:Mem):FnH Tryz.prog 190 [.box 0 0] (pH ts en s) m fun r H' m' =>ak m m' /\r= .v (.bool true)/\H' =pH ts en s:=
 (En ts en s m hT).mono fun r H' m2 _ q=>⟨q.1,by have:=q.2.1;rw[h] at this;exact this,q.2.2⟩
theorem Xq (hT:TsB ts) (h:¬fL (ts.drop s.i)=true) (m:Mem):FnH Tryz.prog 190 [.box 0 0] (pH ts en s) m fun r H' m' =>ak m m' /\r= .v (.bool false)/\H' =pH ts en s:=
 (En ts en s m hT).mono fun r H' m2 _ q=>⟨q.1,by have:=q.2.1;rw[(by simpa using h:fL (ts.drop s.i)=false)] at this;exact this,q.2.2⟩
theorem M7 (hT:TsB ts) (h:eG (ts.drop s.i)=true) (m:Mem):FnH Tryz.prog 126 [.box 0 0] (pH ts en s) m fun r H' m' =>ak m m' /\r= .v (.bool true)/\H' =pH ts en s:=
 (Eo ts en s m hT).mono fun r H' m2 _ q=>⟨q.1,by have:=q.2.1;rw[h] at this;exact this,q.2.2⟩
theorem M8 (hT:TsB ts) (h:¬eG (ts.drop s.i)=true) (m:Mem):FnH Tryz.prog 126 [.box 0 0] (pH ts en s) m fun r H' m' =>ak m m' /\r= .v (.bool false)/\H' =pH ts en s:=
 (Eo ts en s m hT).mono fun r H' m2 _ q=>⟨q.1,by have:=q.2.1;rw[(by simpa using h:eG (ts.drop s.i)=false)] at this;exact this,q.2.2⟩
theorem Rh (hT:TsB ts) (hI:Inv ts s) (hA:∀s1,Inv ts s1->s.i<s1.i->uq ts en s1) (hE:∀s1,Inv ts s1->s.i<s1.i->nK ts en 0 s1) (hK:∀m,FnH Tryz.prog 204 [.box 0 0] (pH ts en s) m (fP ts en s (lj (ts.drop s.i)) m)) (m:Mem):
  FnH Tryz.prog 150 [.box 0 0] (pH ts en s) m (fP ts en s (nb (ts.drop s.i)) m):=by
 have hp:=xt ts en s m hT.l8;refine aH aw Tryz.func150 ?_
 ·simp only[go_sem];refine ab (hp.mono ?_);clear hp;rintro r H' m1 aJ ⟨rfl,rfl⟩;simp only[go_sem];refine⟨fun hk=> ?_,fun hk=> ?_⟩
  ·have hi:s.i<ts.length:=by
    rcases Nat.lt_or_ge s.i ts.length with h |h
    ·exact h
    ·rw[vC h] at hk;exact absurd hk (by decide)
   have hl:=P5 (en:=en) hT hI hi;have e:nb (ts.drop s.i)=Dy (ts.drop s.i):=by
    rw[Ez,Dy,om];by_cases h3:(aP ts s.i).k=3
    ·rw[ah h3,ah h3]
    ·by_cases h4:(aP ts s.i).k=4
     ·rw[ae h3,ae h3,ah h4,ah h4]
     ·rw[ae h3,ae h3,ae h4,ae h4,ah (by omega)]
   rw[e];clear hA hE hK;refine ab ((hl m1).mono ?_);clear hl;rintro r H' m2 aG ⟨l2,x,e,s1,rfl,hx,rfl,hR⟩;simp only[go_sem];exact⟨.inr (M2 (.inr aJ:ak m m1) aG),x,e,s1,rfl,hx,rfl,hR⟩
  ·have e:nb (ts.drop s.i)=(if fL (ts.drop s.i)=true then ar (cW (ts.drop s.i)) fun s r=> .ok (.mk 6 0 s [] af [],r) else if eG (ts.drop s.i)=true then NF (ts.drop s.i) else if ai ts s.i [40]=true then fA (ts.drop s.i) else lj (ts.drop s.i)):=by
    rw[Ez,om,ae (by omega),ae (by omega),ae (by omega),an];rfl
   rw[e];by_cases h1:fL (ts.drop s.i)=true
   ·have ha:=Xp (en:=en) hT h1;have hb:=Rj (en:=en) hT hI;clear hA hE hK;rw[ah h1];refine ab ((ha m1).mono ?_);clear ha;rintro r H' m2 aG ⟨l2,rfl,rfl⟩;simp only[go_sem];refine ab ((hb m2).mono ?_);clear hb;rintro r H' m3 bu ⟨l3,x,e,s1,rfl,hx,rfl,hR⟩;simp only[go_sem];exact⟨aa (.inr aJ) (aa l2 l3),x,e,s1,rfl,hx,rfl,hR⟩
   ·have ha:=Xq (en:=en) hT h1;rw[ae h1];refine ab ((ha m1).mono ?_);clear ha;rintro r H' m2 aG ⟨l2,rfl,rfl⟩;simp only[go_sem];by_cases h2:eG (ts.drop s.i)=true
    ·have ha:=M7 (en:=en) hT h2;have hb:=RT (en:=en) hT hI h2 hA;clear hA hE hK;rw[ah h2];refine ab ((ha m2).mono ?_);clear ha;rintro r H' m3 bu ⟨l3,rfl,rfl⟩;simp only[go_sem];refine ab ((hb m3).mono ?_);clear hb;rintro r H' m4 dc ⟨l4,x,e,s1,rfl,hx,rfl,hR⟩;simp only[go_sem];exact⟨aa (.inr aJ) (aa l2 (aa l3 l4)),x,e,s1,rfl,hx,rfl,hR⟩
    ·have ha:=M8 (en:=en) hT h2;rw[ae h2];refine ab ((ha m2).mono ?_);clear ha;rintro r H' m3 bu ⟨l3,rfl,rfl⟩;simp only[go_sem];by_cases h3:ai ts s.i [40]=true
     ·have hi:=aN h3;have e4:aQ ts en s [40]=s.next:=ah h3;have ha:=lF (en:=en) hT h3;have hb:=KR (en:=en) hT hI (by rw[e4];exact hE s.next (hI.next hi) (Nat.lt_succ_self _));clear hA hE hK;rw[ah h3];refine ab ((ha m3).mono ?_);clear ha;rintro r H' m4 dc ⟨l4,rfl,rfl⟩;simp only[go_sem];refine ab ((hb m4).mono ?_);clear hb;rintro r H' m5 b9 ⟨l5,x,e,s1,rfl,hx,rfl,hR⟩;simp only[go_sem];exact⟨aa (.inr aJ) (aa l2 (aa l3 (aa l4 l5))),x,e,s1,rfl,hx,rfl,hR⟩
     ·have ha:=lG (en:=en) hT h3;clear hA hE;rw[ae h3];refine ab ((ha m3).mono ?_);clear ha;rintro r H' m4 dc ⟨l4,rfl,rfl⟩;simp only[go_sem];refine ab ((hK m4).mono ?_);clear hK;rintro r H' m5 b9 ⟨l5,x,e,s1,rfl,hx,rfl,hR⟩;simp only[go_sem];exact⟨aa (.inr aJ) (aa l2 (aa l3 (aa l4 l5))),x,e,s1,rfl,hx,rfl,hR⟩
end
attribute [go_sem] Sj jV Nd.svs
section
variable {ts:List Tk} {en:Int} {s:PSt}
theorem Ra (hT:TsB ts) (hI:Inv ts s) (hA:∀s1,Inv ts s1->s.i<s1.i->uq ts en s1) (hE:∀s1,Inv ts s1->s.i<s1.i->nK ts en 0 s1) (x:Nd) (e:Ex) (m:Mem) (hx:ba m e x.cs):
  FnH Tryz.prog 149 [.box 0 0,.agg x.svs] (pH ts en s) m (fP ts en s (pr e (ts.drop s.i)) m):=by
 refine aH aw Tryz.func149 ?_
 ·simp only[go_sem];refine CH aw 2 (fun y:PSt×Nd×Ex×Mem=>⟨[⟨0,[],.box 0 0⟩,⟨3,[],.box 2 0⟩,⟨4,[],.box 3 0⟩],[],[tb 3,⟨2,33,y.2.1.svs⟩,lu en y.1],[jJ ts],40,y.2.2.2⟩)
   (fun y=>ak m y.2.2.2/\Inv ts y.1/\s.i<=y.1.i/\ba y.2.2.2 y.2.2.1 y.2.1.cs/\∀a s',Res ts en y.1 (pr y.2.2.1 (ts.drop y.1.i)) a s' ->Res ts en s (pr e (ts.drop s.i)) a s')
   (fun y=>ts.length - y.1.i) (by kernel_rfl) (fun _ _=>dO rfl) (fun y hy=>hy.1) (fun _=> ?_) ?_ ?_
  ·simp only[go_sem]
  ·simp only[go_sem];exact⟨(s,x,e,m),⟨⟨⟨rfl,rfl,rfl,rfl,rfl,rfl,rfl,rfl⟩,⟨rfl,rfl,rfl⟩⟩,.inl rfl⟩,.inl rfl,hI,aq _,hx,fun a s' h=>h⟩
  ·rintro⟨s4,x4,e4,m4⟩ ⟨q1,q2,q3,q4,q5⟩;dsimp only at q1 q2 q3 q4 q5;have hl:=hT.len;have dJ:=q2.le;by_cases gT:ai ts s4.i [46]=true
   ·have ha:=cZ (en:=en) hT gT;have hi:=aN gT;have fk:=q2.next hi;have h5:=pR ts en s4.next;simp only[go_sem];refine ab ((ha m4).mono ?_);clear ha;rintro r H' m5 b9 ⟨l5,rfl,rfl⟩;simp only[go_sem];refine ab ((h5 m5 hT fk).mono ?_);clear h5;rintro r H' m6 ej ⟨l6,w,s6,rfl,hw,rfl,hR6⟩;have rC:=hR6.mono;have qK:s4.next.i=s4.i+1:=rfl;by_cases cB:ai ts s6.i [40]=true
    ·have ha:=lF (en:=en) hT cB;have hb:=hA s6 hR6.inv (by omega);clear hA hE;simp only[go_sem];refine ab ((ha m6).mono ?_);clear ha;rintro r H' m7 gb ⟨l7,rfl,rfl⟩;simp only[go_sem];refine cw (.hoist 0 (.hoist 1 (.hoist 3 (.alt 2 [3,0] (.alt 4 [0] (.alt 5 [0] (.hoist 6 (.alt 7 [] .done .stop)) .stop) .stop) (.alt 4 [1,0] (.alt 2 [0] (.alt 5 [0] (.hoist 6 (.alt 7 [] .done .stop)) .stop) .stop) .stop))))) aw (by kernel_rfl) (by kernel_rfl) ?_;simp only[go_sem];refine⟨ab ((hb m7).mono ?_),ab ((hb m7).mono ?_)⟩
     ·clear hb;rintro r H' m8 jP ⟨l8,es,a,cp,xs,s8,rfl,ha1,ha2,ha3,ha4,rfl,hR8⟩;simp only[go_sem];refine⟨l8,⟨xs,ha3,Ct ha3.1 ha4,gD (by omega) (by decide),l8,fun a9 c9 m9 w1 w2 w3=> ?_⟩⟩;have pJ:1+es.length=(e4::es).length:=by rw[cC,Nat.add_comm]
      rw[pJ] at w2 w3 ⊢;have mT:=hR8.mono;refine⟨(s8,⟨10,0,w,[],af,a9,(e4::es).length,c9⟩,.mk 10 0 w [] af (e4::es),m9),⟨⟨⟨rfl,rfl,rfl,rfl,rfl,rfl,rfl,rfl⟩,⟨rfl,rfl,rfl⟩⟩,.inl rfl⟩,⟨aa q1 (aa l5 (aa l6 (aa l7 (aa l8 (.inr w1))))),hR8.inv,by dsimp only;omega,eT ⟨by decide,by decide⟩ ⟨by decide,by decide⟩ hw (au _) bX (by rw[cC];omega) w2 w3 (Fm (aU (aa l5 (aa l6 (aa l7 (aa l8 (.inr w1))))) q4) (tP (.inr w1) ha4)),fun a s' h=>q5 a s' ?_⟩,by dsimp only;omega⟩;rw[xA,ah (by rw[<- an];exact gT),<- bk];exact bt q2 hi (aO hR6 (by rw[ah (by rw[<- an];exact cB)];exact aO hR8 h))
     ·clear hb;rintro r H' m8 jP ⟨l8,es,a,cp,xs,s8,rfl,ha1,ha2,ha3,ha4,rfl,hR8⟩;simp only[go_sem];refine⟨⟨l8,l8⟩,l8,⟨xs,ha3,Ct ha3.1 ha4,gD (by omega) (by decide),l8,fun a9 c9 m9 w1 w2 w3=> ?_⟩⟩;have pJ:1+es.length=(e4::es).length:=by rw[cC,Nat.add_comm]
      rw[pJ] at w2 w3 ⊢;have mT:=hR8.mono;refine⟨(s8,⟨10,0,w,[],af,a9,(e4::es).length,c9⟩,.mk 10 0 w [] af (e4::es),m9),⟨⟨⟨rfl,rfl,rfl,rfl,rfl,rfl,rfl,rfl⟩,⟨rfl,rfl,rfl⟩⟩,.inl rfl⟩,⟨aa q1 (aa l5 (aa l6 (aa l7 (aa l8 (.inr w1))))),hR8.inv,by dsimp only;omega,eT ⟨by decide,by decide⟩ ⟨by decide,by decide⟩ hw (au _) bX (by rw[cC];omega) w2 w3 (Fm (aU (aa l5 (aa l6 (aa l7 (aa l8 (.inr w1))))) q4) (tP (.inr w1) ha4)),fun a s' h=>q5 a s' ?_⟩,by dsimp only;omega⟩;rw[xA,ah (by rw[<- an];exact gT),<- bk];exact bt q2 hi (aO hR6 (by rw[ah (by rw[<- an];exact cB)];exact aO hR8 h))
    ·have ha:=lG (en:=en) hT cB;clear hA hE;simp only[go_sem];refine ab ((ha m6).mono ?_);clear ha;rintro r H' m7 gb ⟨l7,rfl,rfl⟩;simp only[go_sem];intro a c m8 w1 w2 w3;refine⟨(s6,⟨7,0,w,[],af,a,1,c⟩,.mk 7 0 w [] af [e4],m8),⟨⟨⟨rfl,rfl,rfl,rfl,rfl,rfl,rfl,rfl⟩,⟨rfl,rfl,rfl⟩⟩,.inl rfl⟩,⟨aa q1 (aa l5 (aa l6 (aa l7 (.inr w1)))),hR6.inv,by dsimp only;omega,eT (es:=[e4]) ⟨by decide,by decide⟩ ⟨by decide,by decide⟩ hw (au _) bX (by simp) w2 w3 (jZ (aU (aa l5 (aa l6 (aa l7 (.inr w1)))) q4)),fun a s' h=>q5 a s' ?_⟩,by dsimp only;omega⟩;rw[xA,ah (by rw[<- an];exact gT),<- bk];exact bt q2 hi (aO hR6 (by rw[ae (by rw[<- an];exact cB)];exact h))
   ·have ha:=da (en:=en) hT gT;clear hA;simp only[go_sem];refine ab ((ha m4).mono ?_);clear ha;rintro r H' m5 b9 ⟨l5,rfl,rfl⟩;simp only[go_sem];by_cases oW:ai ts s4.i [91]=true
    ·have ha:=cZ (en:=en) hT oW;have hi:=aN oW;have fk:=q2.next hi;have hb:∀m' :Mem,FnH Tryz.prog 31 [.box 0 0,.v (.int .i64 0)] (pH ts en s4.next) m' (fP ts en s4.next (bL 0 (ts.drop s4.next.i)) m'):=hE s4.next fk (Nat.lt_succ_of_le q3);clear hE;refine ab ((ha m5).mono ?_);clear ha;rintro r H' m6 ej ⟨l6,rfl,rfl⟩;simp only[go_sem];refine ab ((hb m6).mono ?_);clear hb;rintro r H' m7 gb ⟨l7,x7,e7,s7,rfl,hx7,rfl,hR7⟩;have AK:=hR7.mono;have qK:s4.next.i=s4.i+1:=rfl;have he:=fun m' =>ee ts en s7 [93] m' hT.l8
     have abx:s7.i<=(aQ ts en s7 [93]).i:=fR hR7.inv;simp only[go_sem];refine ab ((he m7).mono ?_);clear he;rintro r H' m8 jP ⟨l8,rfl,rfl⟩;simp only[go_sem];intro a c m9 w1 w2 w3;refine⟨(aQ ts en s7 [93],⟨9,0,[],[],af,a,2,c⟩,.mk 9 0 [] [] af [e4,e7],m9),⟨⟨⟨rfl,rfl,rfl,rfl,rfl,rfl,rfl,rfl⟩,⟨rfl,rfl,rfl⟩⟩,.inl rfl⟩,⟨aa q1 (aa l5 (aa l6 (aa l7 (aa l8 (.inr w1))))),eo hR7.inv,by dsimp only;omega,eT (es:=[e4,e7]) ⟨by decide,by decide⟩ ⟨by decide,by decide⟩ (au _) (au _) bX (by simp) w2 w3 (DM (aU (aa l5 (aa l6 (aa l7 (aa l8 (.inr w1))))) q4) (aU (aa l8 (.inr w1)) hx7)),fun a s' h=>q5 a s' ?_⟩,by dsimp only;omega⟩;rw[xA,ae (by rw[<- an];exact gT),ah (by rw[<- an];exact oW),<- bk];exact bt q2 hi (aO hR7 (dn hR7.inv h))
    ·have ha:=da (en:=en) hT oW;clear hE;refine ab ((ha m5).mono ?_);clear ha;rintro r H' m6 ej ⟨l6,rfl,rfl⟩;simp only[go_sem];refine⟨aa q1 (aa l5 l6),x4,e4,s4,rfl,aU (aa l5 l6) q4,rfl,q5 _ _ ?_⟩;rw[xA,ae (by rw[<- an];exact gT),ae (by rw[<- an];exact oW)];exact bI _ q2
end
section
variable {ts:List Tk} {en:Int} {s:PSt}
def N1 (ts:List Tk) (en:Int) (s:PSt):Prop:=∀(x:Nd) (e:Ex) (m:Mem),ba m e x.cs->FnH Tryz.prog 149 [.box 0 0,.agg x.svs] (pH ts en s) m (fP ts en s (pr e (ts.drop s.i)) m)
def N2 (ts:List Tk) (en:Int) (s:PSt):Prop:=∀m:Mem,FnH Tryz.prog 150 [.box 0 0] (pH ts en s) m (fP ts en s (nb (ts.drop s.i)) m)
theorem Tp (hT:TsB ts) (hI:Inv ts s) (hU:∀s1,Inv ts s1->s.i<s1.i->yS ts en s1) (hO:N2 ts en s) (hP:∀s1,Inv ts s1->s.i<=s1.i->N1 ts en s1):yS ts en s:=fun m=>by
 refine jv (aH aw Tryz.func61 ?_)
 ·simp only[go_sem];refine cK aw (fun y:Nat×Mem=>⟨[⟨0,[],.box 0 0⟩,⟨2,[],.box 2 0⟩,⟨5,[],.vec 3 0⟩,⟨6,[],.v (.int .i64 2)⟩,⟨7,[],.v (.int .i64 y.1)⟩],[],[tb 2,lu en s],[⟨3,0,9,1,2,[.string (bs [45]),.string (bs [33])]⟩,jJ ts],40,y.2⟩)
   (fun y=>ak m y.2/\y.1<=2/\(1<=y.1->¬ai ts s.i [45]=true)/\(2<=y.1->¬ai ts s.i [33]=true))
   (fun y=>2 - y.1) (0,m) (fun _ _=>dO rfl) (fun y hy=>hy.1) ?_ ?_ ?_
  ·simp only[go_sem];exact⟨rfl,rfl⟩
  ·exact⟨.inl rfl,au _,fun h=>absurd h (Nat.not_succ_le_zero _),fun h=>absurd h (Nat.not_succ_le_zero _)⟩
  ·rintro⟨i,m1⟩ ⟨q1,q2,q3,q4⟩;dsimp only at q1 q2 q3 q4;have hs:i=0\/i=1\/i=2:=by omega
   rcases hs with rfl |rfl |rfl
   ·by_cases hc:ai ts s.i [45]=true
    ·have ha:=cZ (en:=en) hT hc;have hi:=aN hc;have eF:=hI.next hi;have hu:=hU s.next eF (Nat.lt_succ_self _);clear hU hO hP;simp only[go_sem];refine⟨fun _=>⟨⟨by decide,by decide⟩,by kernel_rfl,cE ((ha m1).mono ?_)⟩,fun h=>absurd (by decide) h⟩;clear ha;rintro r H' m2 aG ⟨l2,rfl,rfl⟩;simp only[go_sem];refine ab ((hu m2).mono ?_);clear hu;rintro r H' m3 bu ⟨l3,x,e,s1,rfl,hx,rfl,hR⟩;simp only[go_sem];exact pX 7 rfl rfl (pH ts en s1) (List.Sublist.refl _) (.cons _ (List.Sublist.refl _)) fun a cp mm w1 w2 w3=>⟨aa (aa q1 (aa l2 l3)) (.inr w1),⟨15,0,[45],[],af,a,1,cp⟩,.mk 15 0 [45] [] af [e],s1,rfl,eT (es:=[e]) ⟨by decide,by decide⟩ ⟨by decide,by decide⟩ (by decide) (au _) bX (by simp) w2 w3 (jZ (aU (.inr w1) hx)),rfl,by rw[zd,ah (by rw[<- an];exact hc),<- bk];exact bt hI hi (aO hR (bI _ hR.inv))⟩
    ·have ha:=da (en:=en) hT hc;clear hU hO hP;simp only[go_sem];refine⟨fun _=>⟨⟨by decide,by decide⟩,by kernel_rfl,cE ((ha m1).mono ?_)⟩,fun h=>absurd (by decide) h⟩;clear ha;rintro r H' m2 aG ⟨l2,rfl,rfl⟩;simp only[go_sem];exact⟨⟨by decide,by decide⟩,(1,m2),⟨rfl,.inl rfl⟩,⟨aa q1 l2,(by decide:1<=2),fun _=>hc,fun h=>absurd h (by decide:¬2<=1)⟩,(by decide:2 - 1<2 - 0)⟩
   ·by_cases hc:ai ts s.i [33]=true
    ·have ha:=cZ (en:=en) hT hc;have hi:=aN hc;have eF:=hI.next hi;have hu:=hU s.next eF (Nat.lt_succ_self _);clear hU hO hP;simp only[go_sem];refine⟨fun _=>⟨⟨by decide,by decide⟩,by kernel_rfl,cE ((ha m1).mono ?_)⟩,fun h=>absurd (by decide) h⟩;clear ha;rintro r H' m2 aG ⟨l2,rfl,rfl⟩;simp only[go_sem];refine ab ((hu m2).mono ?_);clear hu;rintro r H' m3 bu ⟨l3,x,e,s1,rfl,hx,rfl,hR⟩;simp only[go_sem];exact pX 7 rfl rfl (pH ts en s1) (List.Sublist.refl _) (.cons _ (List.Sublist.refl _)) fun a cp mm w1 w2 w3=>⟨aa (aa q1 (aa l2 l3)) (.inr w1),⟨15,0,[33],[],af,a,1,cp⟩,.mk 15 0 [33] [] af [e],s1,rfl,eT (es:=[e]) ⟨by decide,by decide⟩ ⟨by decide,by decide⟩ (by decide) (au _) bX (by simp) w2 w3 (jZ (aU (.inr w1) hx)),rfl,by rw[zd,ae (by rw[<- an];exact q3 (aq _)),ah (by rw[<- an];exact hc),<- bk];exact bt hI hi (aO hR (bI _ hR.inv))⟩
    ·have ha:=da (en:=en) hT hc;clear hU hO hP;simp only[go_sem];refine⟨fun _=>⟨⟨by decide,by decide⟩,by kernel_rfl,cE ((ha m1).mono ?_)⟩,fun h=>absurd (by decide) h⟩;clear ha;rintro r H' m2 aG ⟨l2,rfl,rfl⟩;simp only[go_sem];exact⟨⟨by decide,by decide⟩,(2,m2),⟨rfl,.inl rfl⟩,⟨aa q1 l2,(by decide:2<=2),fun _=>q3 (aq _),fun h=>hc⟩,(by decide:2 - 2<2 - 1)⟩
   ·have hu:=hO;clear hU hO;simp only[go_sem];refine⟨fun h=>absurd h (by decide),fun _=>ab ((hu m1).mono ?_)⟩;clear hu;rintro r H' m2 aG ⟨l2,x,e,s1,rfl,hx,rfl,hR⟩;have hp:=fun m' h=>hP s1 hR.inv hR.mono x e m' h
    clear hP;simp only[go_sem];refine ab ((hp m2 hx).mono ?_);clear hp;rintro r H' m3 bu ⟨l3,x2,e2,s2,rfl,hx2,rfl,hR2⟩;simp only[go_sem];refine .inl ⟨aa q1 (aa l2 l3),x2,e2,s2,rfl,hx2,rfl,?_⟩;rw[zd,ae (by rw[<- an];exact q3 (by decide)),ae (by rw[<- an];exact q4 (by decide))];exact aO hR hR2
end
section
variable {ts:List Tk} {en:Int} {s:PSt}
theorem aaO {n:Nat} (hn:n<=9) (hT:TsB ts) (h:gI n (ts.drop s.i)=true) (m:Mem):FnH Tryz.prog 62 [.box 0 0,.v (.int .i64 n)] (pH ts en s) m fun r H' m' =>ak m m' /\r= .tup [.v (.string (bs (kp (ts.drop s.i)))),.v (.bool true)]/\H' =pH ts en s.next:=
 (ID ts en s m n hn hT).mono fun r H' m2 _ ⟨q1,w,q2,q3,q4⟩=>⟨q1,by rw[h] at q2;rw[q2,q3 h],by rw[ah h] at q4;exact q4⟩
theorem aaP {n:Nat} (hn:n<=9) (hT:TsB ts) (h:¬gI n (ts.drop s.i)=true) (m:Mem):FnH Tryz.prog 62 [.box 0 0,.v (.int .i64 n)] (pH ts en s) m fun r H' m' =>ak m m' /\∃w,r= .tup [.v (.string (bs w)),.v (.bool false)]/\H' =pH ts en s:=
 (ID ts en s m n hn hT).mono fun r H' m2 _ ⟨q1,w,q2,q3,q4⟩=>⟨q1,w,by rw[(by simpa using h:gI n (ts.drop s.i)=false)] at q2;exact q2,by rw[ae h] at q4;exact q4⟩
theorem Ut (hT:TsB ts) (hU:yS ts en s):nK ts en 10 s:=fun m=>by
 rw[Kc];refine aH aw Tryz.func31 ?_
 ·simp only[go_sem];refine⟨fun _=>ab ((hU m).mono ?_),fun h=>absurd rfl h⟩;clear hU;rintro r H' m1 aJ ⟨l1,x,e,s1,rfl,hx,rfl,hR⟩;simp only[go_sem];exact⟨l1,x,e,s1,rfl,hx,rfl,hR⟩
theorem Uu (hT:TsB ts) (hI:Inv ts s) (n:Nat) (hn:n<=9) (hN:nK ts en (n+1) s) (hE:∀s1,Inv ts s1->s.i<s1.i->nK ts en (n+1) s1):nK ts en n s:=fun m=>by
 have Pj:∀m' :Mem,FnH Tryz.prog 31 [.box 0 0,.v (.int .i64 ((n:Int)+1))] (pH ts en s) m' (fP ts en s (bL (n+1) (ts.drop s.i)) m'):=hN;clear hN;refine aH aw Tryz.func31 ?_
 ·simp only[go_sem];refine⟨fun h=>absurd h (by omega),fun _=> ?_⟩;refine⟨by unfold ax;omega,by kernel_rfl,cE ((Pj m).mono ?_)⟩;clear Pj;rintro r H' m1 aJ ⟨l1,x,e,s1,rfl,hx,rfl,hR⟩;have rD:=hR.mono;simp only[go_sem];refine CH aw 5 (fun y:PSt×Nd×Ex×Mem=>⟨[⟨0,[],.box 0 0⟩,⟨1,[],.v (.int .i64 n)⟩,⟨4,[],.box 2 0⟩,⟨5,[],.box 5 0⟩],[],[⟨5,33,y.2.1.svs⟩,lu en y.1,tb 2],[jJ ts],40,y.2.2.2⟩)
   (fun y=>ak m1 y.2.2.2/\Inv ts y.1/\s.i<=y.1.i/\ba y.2.2.2 y.2.2.1 y.2.1.cs/\∀a s',Res ts en y.1 (ue n y.2.2.1 (ts.drop y.1.i)) a s' ->Res ts en s (bL n (ts.drop s.i)) a s')
   (fun y=>ts.length - y.1.i) (by kernel_rfl) (fun _ _=>dO rfl) (fun y hy=>hy.1) (fun _=> ?_) ?_ ?_
  ·simp only[go_sem]
  ·simp only[go_sem];exact⟨(s1,x,e,m1),⟨⟨⟨rfl,rfl,rfl,rfl,rfl,rfl,rfl,rfl⟩,⟨rfl,rfl,rfl⟩⟩,.inl rfl⟩,.inl rfl,hR.inv,rD,hx,fun a s' h=>by rw[Lt hn];exact aO hR h⟩
  ·rintro⟨s4,x4,e4,m4⟩ ⟨q1,q2,q3,q4,q5⟩;dsimp only at q1 q2 q3 q4 q5;have hl:=hT.len;have dJ:=q2.le;by_cases pI:gI n (ts.drop s4.i)=true
   ·have ha:=aaO (en:=en) hn hT pI;have hi:=Gq pI;have fk:=q2.next hi;have hb:∀m' :Mem,FnH Tryz.prog 31 [.box 0 0,.v (.int .i64 ((n:Int)+1))] (pH ts en s4.next) m' (fP ts en s4.next (bL (n+1) (ts.drop s4.next.i)) m'):=hE s4.next fk (Nat.lt_succ_of_le q3);clear hE;have hw:(kp (ts.drop s4.i)).length<=1000000:=by rw[j4];exact hT.cs s4.i
    simp only[go_sem];refine ab ((ha m4).mono ?_);clear ha;rintro r H' m5 b9 ⟨l5,rfl,rfl⟩;simp only[go_sem];refine cw (.hoist 0 (.hoist 1 (.hoist 2 (.hoist 3 (.hoist 4 (.alt 5 [1,0] (.alt 6 [0] (.hoist 7 (.alt 8 [] .done .stop)) .stop) .stop)))))) aw (by kernel_rfl) (by kernel_rfl) ?_;simp only[go_sem];refine⟨by unfold ax;omega,by kernel_rfl,cE ((hb m5).mono ?_)⟩;clear hb;rintro r H' m6 ej ⟨l6,x6,e6,s6,rfl,hx6,rfl,hR6⟩;have rC:=hR6.mono;have qK:s4.next.i=s4.i+1:=rfl;simp only[go_sem];try simp only[l6,true_and,and_self]
    intro a c m7 w1 w2 w3;refine⟨(s6,⟨16,0,kp (ts.drop s4.i),[],af,a,2,c⟩,.mk 16 0 (kp (ts.drop s4.i)) [] af [e4,e6],m7),⟨⟨⟨rfl,rfl,rfl,rfl,rfl,rfl,rfl,rfl⟩,⟨rfl,rfl,rfl⟩⟩,.inl rfl⟩,⟨aa q1 (aa l5 (aa l6 (.inr w1))),hR6.inv,by dsimp only;omega,eT (es:=[e4,e6]) ⟨by decide,by decide⟩ ⟨by decide,by decide⟩ hw (au _) bX (by simp) w2 w3 (DM (aU (aa l5 (aa l6 (.inr w1))) q4) (aU (.inr w1) hx6)),fun a s' h=>q5 a s' ?_⟩,by dsimp only;omega⟩;rw[vu hn,ah pI,<- bk];exact bt q2 hi (aO hR6 h)
   ·have ha:=aaP (en:=en) hn hT pI;clear hE;simp only[go_sem];refine ab ((ha m4).mono ?_);clear ha;rintro r H' m5 b9 ⟨l5,w5,rfl,rfl⟩;simp only[go_sem];have DH:∀m',ak m5 m' ->(¬(n=6/\aA [105,115] (ts.drop s4.i)=true))->(¬(n=6/\aA [97,115] (ts.drop s4.i)=true))->fP ts en s (bL n (ts.drop s.i)) m (.agg x4.svs) (pH ts en s4) m' :=fun m' O7 h1 h2=>
     ⟨aa (aa l1 q1) (aa l5 O7),x4,e4,s4,rfl,aU (aa l5 O7) q4,rfl,q5 _ _ (by rw[vu hn,ae pI,ae h1,ae h2];exact bI _ q2)⟩
    refine⟨fun h6=> ?_,fun h6=>⟨fun h=>absurd h h6,fun _=>DH m5 (.inl rfl) (fun h=>h6 (by rw[h.1];rfl)) (fun h=>h6 (by rw[h.1];rfl))⟩⟩;have Ed:n=6:=by omega
    by_cases nX:ai ts s4.i [105,115]=true
    ·have ha:=cZ (en:=en) hT nX;have hi:=aN nX;have fk:=q2.next hi;have hb:=fun m' =>vq ts en s4.next m' hT fk
     clear DH;refine ab ((ha m5).mono ?_);clear ha;rintro r H' m6 ej ⟨l6,rfl,rfl⟩;simp only[go_sem];refine cw (.hoist 0 (.hoist 2 (.alt 1 [2] (.alt 3 [] (.hoist 4 (.alt 5 [] .done .stop)) .stop) (.alt 3 [0] (.alt 1 [] (.hoist 4 (.alt 5 [] .done .stop)) .stop) .stop)))) aw (by kernel_rfl) (by kernel_rfl) ?_;simp only[go_sem];refine⟨ab ((hb m6).mono ?_),ab ((hb m6).mono ?_)⟩
     ·clear hb;rintro r H' m7 gb ⟨l7,t,s7,rfl,dI,htn,rfl,hR7⟩;have AK:=hR7.mono;have qK:s4.next.i=s4.i+1:=rfl;simp only[go_sem];try simp only[l7,true_and,and_self]
      intro a c mz w1 w2 w3;refine⟨(s7,⟨18,0,[],[],t,a,1,c⟩,.mk 18 0 [] [] t [e4],mz),⟨⟨⟨rfl,rfl,rfl,rfl,rfl,rfl,rfl,rfl⟩,⟨rfl,rfl,rfl⟩⟩,.inl rfl⟩,⟨aa q1 (aa l5 (aa l6 (aa l7 (.inr w1)))),hR7.inv,by dsimp only;omega,eT (es:=[e4]) ⟨by decide,by decide⟩ ⟨by decide,by decide⟩ (au _) (au _) dI (by simp) w2 w3 (jZ (aU (aa l5 (aa l6 (aa l7 (.inr w1)))) q4)),fun a s' h=>q5 a s' ?_⟩,by dsimp only;omega⟩;rw[vu hn,ae pI,ah ⟨Ed,by rw[<- an];exact nX⟩,<- bk];exact bt q2 hi (aO hR7 h)
     ·clear hb;rintro r H' m7 gb ⟨l7,t,s7,rfl,dI,htn,rfl,hR7⟩;have AK:=hR7.mono;have qK:s4.next.i=s4.i+1:=rfl;simp only[go_sem];try simp only[l7,true_and,and_self]
      intro a c mz w1 w2 w3;refine⟨(s7,⟨18,0,[],[],t,a,1,c⟩,.mk 18 0 [] [] t [e4],mz),⟨⟨⟨rfl,rfl,rfl,rfl,rfl,rfl,rfl,rfl⟩,⟨rfl,rfl,rfl⟩⟩,.inl rfl⟩,⟨aa q1 (aa l5 (aa l6 (aa l7 (.inr w1)))),hR7.inv,by dsimp only;omega,eT (es:=[e4]) ⟨by decide,by decide⟩ ⟨by decide,by decide⟩ (au _) (au _) dI (by simp) w2 w3 (jZ (aU (aa l5 (aa l6 (aa l7 (.inr w1)))) q4)),fun a s' h=>q5 a s' ?_⟩,by dsimp only;omega⟩;rw[vu hn,ae pI,ah ⟨Ed,by rw[<- an];exact nX⟩,<- bk];exact bt q2 hi (aO hR7 h)
    ·have ha:=da (en:=en) hT nX;refine ab ((ha m5).mono ?_);clear ha;rintro r H' m6 ej ⟨l6,rfl,rfl⟩;simp only[go_sem];refine⟨fun _=> ?_,fun h=>absurd h6 h⟩;by_cases has:ai ts s4.i [97,115]=true
     ·have ha:=cZ (en:=en) hT has;have hi:=aN has;have fk:=q2.next hi;have hb:=fun m' =>vq ts en s4.next m' hT fk
      clear DH;refine ab ((ha m6).mono ?_);clear ha;rintro r H' m7 gb ⟨l7,rfl,rfl⟩;simp only[go_sem];refine cw (.hoist 0 (.hoist 2 (.alt 1 [2] (.alt 3 [] (.hoist 4 (.alt 5 [] .done .stop)) .stop) (.alt 3 [0] (.alt 1 [] (.hoist 4 (.alt 5 [] .done .stop)) .stop) .stop)))) aw (by kernel_rfl) (by kernel_rfl) ?_;simp only[go_sem];refine⟨ab ((hb m7).mono ?_),ab ((hb m7).mono ?_)⟩
      ·clear hb;rintro r H' m8 jP ⟨l8,t,s7,rfl,dI,htn,rfl,hR7⟩;have AK:=hR7.mono;have qK:s4.next.i=s4.i+1:=rfl;simp only[go_sem];try simp only[l8,true_and,and_self]
       intro a c mz w1 w2 w3;refine⟨(s7,⟨17,0,[],[],t,a,1,c⟩,.mk 17 0 [] [] t [e4],mz),⟨⟨⟨rfl,rfl,rfl,rfl,rfl,rfl,rfl,rfl⟩,⟨rfl,rfl,rfl⟩⟩,.inl rfl⟩,⟨aa q1 (aa l5 (aa l6 (aa l7 (aa l8 (.inr w1))))),hR7.inv,by dsimp only;omega,eT (es:=[e4]) ⟨by decide,by decide⟩ ⟨by decide,by decide⟩ (au _) (au _) dI (by simp) w2 w3 (jZ (aU (aa l5 (aa l6 (aa l7 (aa l8 (.inr w1))))) q4)),fun a s' h=>q5 a s' ?_⟩,by dsimp only;omega⟩;rw[vu hn,ae pI,ae (fun h=>nX (by rw[an];exact h.2)),ah ⟨Ed,by rw[<- an];exact has⟩,<- bk];exact bt q2 hi (aO hR7 h)
      ·clear hb;rintro r H' m8 jP ⟨l8,t,s7,rfl,dI,htn,rfl,hR7⟩;have AK:=hR7.mono;have qK:s4.next.i=s4.i+1:=rfl;simp only[go_sem];try simp only[l8,true_and,and_self]
       intro a c mz w1 w2 w3;refine⟨(s7,⟨17,0,[],[],t,a,1,c⟩,.mk 17 0 [] [] t [e4],mz),⟨⟨⟨rfl,rfl,rfl,rfl,rfl,rfl,rfl,rfl⟩,⟨rfl,rfl,rfl⟩⟩,.inl rfl⟩,⟨aa q1 (aa l5 (aa l6 (aa l7 (aa l8 (.inr w1))))),hR7.inv,by dsimp only;omega,eT (es:=[e4]) ⟨by decide,by decide⟩ ⟨by decide,by decide⟩ (au _) (au _) dI (by simp) w2 w3 (jZ (aU (aa l5 (aa l6 (aa l7 (aa l8 (.inr w1))))) q4)),fun a s' h=>q5 a s' ?_⟩,by dsimp only;omega⟩;rw[vu hn,ae pI,ae (fun h=>nX (by rw[an];exact h.2)),ah ⟨Ed,by rw[<- an];exact has⟩,<- bk];exact bt q2 hi (aO hR7 h)
     ·have ha:=da (en:=en) hT has;refine ab ((ha m6).mono ?_);clear ha;rintro r H' m7 gb ⟨l7,rfl,rfl⟩;simp only[go_sem];exact DH m7 (aa l6 l7) (fun h=>nX (by rw[an];exact h.2)) (fun h=>has (by rw[an];exact h.2))
end
structure EXW (ts:List Tk) (en:Int) (s:PSt):Prop where
 expr:∀n,n<=10->nK ts en n s
 un:yS ts en s
 args:uq ts en s
 paren:Da ts en s
theorem XN {ts:List Tk} {en:Int} (hT:TsB ts) (L:Nat) (ih:∀s:PSt,Inv ts s->ts.length - s.i<L->EXW ts en s):∀s,Inv ts s->ts.length - s.i=L->EXW ts en s:=by
 have later:∀s:PSt,ts.length - s.i=L->∀s1,Inv ts s1->s.i<s1.i->EXW ts en s1:=fun s hL s1 h1 h2=>ih s1 h1 (by have:=h1.le;omega)
 have hx:∀s,Inv ts s->ts.length - s.i=L->yS ts en s/\∀n,n<=10->nK ts en n s:=fun s hI hL=>by
  have lt:=later s hL;have hA:=fun s1 h1 h2=>(lt s1 h1 h2).args
  have hE:=fun s1 h1 h2=>(lt s1 h1 h2).expr 0 (by decide)
  have hK:=Rn hT hI hA (fun s1 h1 h2=>(lt s1 h1 h2).paren) hE;have hO:N2 ts en s:=Rh hT hI hA hE hK;have hP:∀s1,Inv ts s1->s.i<=s1.i->N1 ts en s1:=fun s1 h1 h2 x e m hx=>
   Ra hT h1 (fun s2 g1 g2=>hA s2 g1 (Nat.lt_of_le_of_lt h2 g2)) (fun s2 g1 g2=>hE s2 g1 (Nat.lt_of_le_of_lt h2 g2)) x e m hx
  have hU:yS ts en s:=Tp hT hI (fun s1 h1 h2=>(lt s1 h1 h2).un) hO hP;have hN:∀k n,n+k=10->nK ts en n s:=fun k=>by
   induction k with
   |zero=>
    intro n hn;obtain rfl:n=10:=by omega
    exact Ut hT hU
   |succ k ihk=>
    intro n hn;exact Uu hT hI n (by omega) (ihk (n+1) (by omega)) fun s1 h1 h2=>(lt s1 h1 h2).expr (n+1) (by omega)
  exact⟨hU,fun n hn=>hN (10 - n) n (by omega)⟩
 intro s hI hL;have he:∀s1,Inv ts s1->s.i<=s1.i->nK ts en 0 s1:=fun s1 h1 h2=>by
  rcases Nat.lt_or_ge s.i s1.i with h |h
  ·exact(later s hL s1 h1 h).expr 0 (by decide)
  ·exact(hx s1 h1 (by omega)).2 0 (by decide)
 exact⟨(hx s hI hL).2,(hx s hI hL).1,WC hT hI he,KR hT hI (he _ (eo hI) (fR hI))⟩
theorem Gg {ts:List Tk} {en:Int} (hT:TsB ts):∀(L:Nat) (s:PSt),Inv ts s->ts.length - s.i<L->EXW ts en s
 |0,s,_,h=>absurd h (Nat.not_lt_zero _)
 |L+1,s,hI,h=>by
  rcases Nat.lt_or_ge (ts.length - s.i) L with h1 |h1
  ·exact Gg hT L s hI h1
  ·exact XN hT L (fun s h2 h3=>Gg hT L s h2 h3) s hI (by omega)
theorem rR {ts:List Tk} {en:Int} {s:PSt} (hT:TsB ts) (hI:Inv ts s):EXW ts en s:=Gg hT _ s hI (Nat.lt_succ_self _)
abbrev Sd.svs (x:Sd):List SV:=[.v (.int .i64 x.k),.v (.string (bs x.name)),.v (.int .i64 x.ty.dim),.v (.int .u8 x.ty.base),.v (.string (bs x.ty.name)),.v (.int .i64 x.tg.k),.v (.int .i64 x.tg.n),.v (.string (bs x.tg.s)),.v (.string (bs x.tg.c)),.v (.int .i64 x.tg.ty.dim),.v (.int .u8 x.tg.ty.base),.v (.string (bs x.tg.ty.name)),.v (.slice x.tg.a x.tg.l x.tg.cp),.v (.int .i64 x.ex.k),.v (.int .i64 x.ex.n),.v (.string (bs x.ex.s)),.v (.string (bs x.ex.c)),.v (.int .i64 x.ex.ty.dim),.v (.int .u8 x.ex.ty.base),.v (.string (bs x.ex.ty.name)),.v (.slice x.ex.a x.ex.l x.ex.cp),.v (.slice x.a x.l x.cp),.v (.slice x.b x.l2 x.cp2)]
attribute [go_sem] Sd.svs
abbrev qs (ts:List Tk) (en:Int) (s:PSt) (K:PR St) (m:Mem):SV->Hp->Mem->Prop:=fun r H' m' =>ak m m' /\∃(x:Sd) (e:St) (s' :PSt),r= .agg x.svs/\eH m' e x.cs/\H' =pH ts en s' /\Res ts en s K e s'
abbrev acj (ts:List Tk) (en:Int) (s:PSt) (K:PR (List St)) (m:Mem):SV->Hp->Mem->Prop:=fun r H' m' =>ak m m' /\∃(es:List St) (a:Option Addr) (c:Nat) (xs:List Value) (s' :PSt),r= .v (.slice a es.length c)/\es.length<=c/\(es.length+s.i<=s'.i+(if s'.fl=true then 1 else 0)/\es.length<=1000001)/\aM m' a es.length 23 xs/\bj m' es xs/\H' =pH ts en s' /\Res ts en s K es s'
def Ax (ts:List Tk) (en:Int) (s:PSt):Prop:=∀m:Mem,FnH Tryz.prog 38 [.box 0 0] (pH ts en s) m (qs ts en s (pj (ts.drop s.i)) m)
def ph (ts:List Tk) (en:Int) (s:PSt):Prop:=∀m:Mem,FnH Tryz.prog 128 [.box 0 0] (pH ts en s) m (acj ts en s (fC (ts.drop s.i)) m)
theorem ie {m:Mem} {k:Int} {nm:List UInt8} {ty:Ty} {tx ex:Nd} {tg e:Ex} {body alt:List St} {a b:Option Addr} {cp cp2:Nat} {xs ys:List Value} (hk:ax k) (hn:nm.length<=1000000) (ht:nR ty)
  (h1:ba m tg tx.cs) (h2:ba m e ex.cs) (hl:body.length<=1000001) (hc:body.length<=cp) (hr:aM m a body.length 23 xs) (hs:bj m body xs)
  (bw:alt.length<=1000001) (j1:alt.length<=cp2) (cX:aM m b alt.length 23 ys) (tq:bj m alt ys):
  eH m (.mk k nm ty tg e body alt) (Sd.cs ⟨k,nm,ty,tx,ex,a,body.length,cp,b,alt.length,cp2⟩):=by
 simp only[eH];exact⟨⟨k,nm,ty,tx,ex,a,body.length,cp,b,alt.length,cp2⟩,⟨rfl,rfl,rfl,rfl⟩,h1,h2,⟨rfl,hc,rfl,j1⟩,⟨hk,by unfold az;omega,ht,by unfold az;omega,by unfold az;omega⟩,xs,ys,hr,cX,hs,tq⟩
theorem dy (m:Mem) (xs:List Value):bj m [] xs:=by simp only[bj]
theorem Z5 {m:Mem} {e:St} {x:Sd} (h:eH m e x.cs):bj m [e] x.cs:=by
 simp only[bj,and_true];exact h
theorem zu {m:Mem} {e:St} {x:Sd} (hx:eH m e x.cs):∀{es:List St} {xs:List Value},xs.length=es.length * 23->bj m es xs->bj m (es++[e]) (xs++x.cs)
 |[],xs,hl,_=>by
  have:xs=[]:=List.eq_nil_of_length_eq_zero (by simpa using hl);subst this;exact Z5 hx
 |y::r,xs,hl,h=>by
  simp only[bj,jt] at h ⊢;simp only[cC] at hl;have h8:23<=xs.length:=by omega
  rw[List.take_append_of_le_length h8,List.drop_append_of_le_length h8];exact⟨h.1,zu hx (by rw[cj];omega) h.2⟩
theorem kz {m m' :Mem} {es:List St} {xs:List Value} (hle:ak m m') (h:bj m es xs):bj m' es xs:=by
 rcases hle with rfl |hle
 ·exact h
 ·exact ze hle es xs h
section
variable {ts:List Tk} {en:Int} {s:PSt}
theorem zR {α:Type} {K:PR α} (a:α) (hI:Inv ts s) (h:s.fl=true):Res ts en s K a s:=
 ⟨hI,aq _,fun _=>rfl,fun e=>(by rw[h] at e;cases e),fun e=>(by rw[h] at e;cases e)⟩
theorem lz {α:Type} {K:PR α} {a:α} {s' :PSt} (h:Res ts en s K a s') (hf:s.fl=false) (hK:∀x r,K= .ok (x,r)->r.length<(ts.drop s.i).length):s'.fl=true\/s.i<s'.i:=by
 cases e:K with
 |error r=>exact .inl (h.er hf r e).1
 |ok p=>
  obtain⟨x,r⟩:=p;obtain⟨_,_,rfl⟩:=h.ok hf x r e;have:=hK x _ e;simp only[cj] at this;exact .inr (by omega)
theorem uh {w:List UInt8} (hT:TsB ts) (h:ai ts s.i w=true) (m:Mem):FnH Tryz.prog 52 [.box 0 0,.v (.string (bs w))] (pH ts en s) m fun r H' m' =>ak m m' /\r= .tup []/\H' =pH ts en s.next:=
 (ee ts en s w m hT.l8).mono fun r H' m2 _ q=>⟨q.1,q.2.1,by have:=q.2.2;rw[aQ,ah h] at this;exact this⟩
theorem F1 (l:List Tk):∀x r,pj l= .ok (x,r)->r.length<l.length:=fun x r h=>((p6 l).stmt.good.ok x r h).2 rfl
theorem UJ (hT:TsB ts) (hI:Inv ts s) (hS:∀s1,Inv ts s1->s.i<s1.i->Ax ts en s1):ph ts en s:=fun m=>by
 have h1:=ee ts en s [123] m hT.l8;have tA:Inv ts (aQ ts en s [123]):=eo hI;have rD:s.i<=(aQ ts en s [123]).i:=fR hI;refine jv (aH aw Tryz.func128 ?_)
 ·simp only[go_sem];refine ab (h1.mono ?_);clear h1;rintro r H' m1 aJ ⟨l1,rfl,rfl⟩;simp only[go_sem];refine qV 3 73 23 (by decide) rfl ?_;refine cK aw (fun y:PSt×List St×List Value×Nat×Mem=>⟨[⟨0,[],.box 0 0⟩,⟨3,[],.vec 4 y.2.2.2.1⟩],[],[lu en y.1],[⟨4,y.2.2.2.1,73,23,y.2.1.length,y.2.2.1⟩,jJ ts],40,y.2.2.2.2⟩)
   (fun y=>ak m1 y.2.2.2.2/\Inv ts y.1/\(y.1.fl=false->s.i<y.1.i)/\(y.2.1.length+s.i<=y.1.i+(if y.1.fl=true then 1 else 0))/\y.2.2.1.length=y.2.1.length * 23/\bj y.2.2.2.2 y.2.1 y.2.2.1/\∀a s',Res ts en y.1 (xP y.2.1 (ts.drop y.1.i)) a s' ->Res ts en s (fC (ts.drop s.i)) a s')
   (fun y=>if y.1.fl=true then 0 else ts.length - y.1.i+1) (aQ ts en s [123],[],[],0,m1) (fun _ _=>dO rfl) (fun y hy=>hy.1) ?_ ?_ ?_
  ·simp only[go_sem]
  ·refine⟨.inl rfl,tA,fun h=> ?_,by dsimp only[fm];omega,rfl,dy _ _,fun a s' h=> ?_⟩
   ·dsimp only at h ⊢;unfold aQ at h ⊢;split at h
    ·rename_i h';rw[ah h'];exact Nat.lt_succ_self _
    ·rw[zA] at h;cases h
   ·rw[Ko];exact dn hI h
  ·rintro⟨s4,es,xs,u,m4⟩ ⟨q1,q2,q3,q4,q5,q6,q7⟩;dsimp only at q1 q2 q3 q4 q5 q6 q7;have hl:=hT.len;have dJ:=q2.le;by_cases hf:s4.fl=true
   ·clear hS;have Hv:=q4;rw[ah hf] at q4;simp only[go_sem];refine⟨fun h=>(by rw[hf] at h;cases h),fun _=>zF (b:=⟨4,u,73,23,es.length,xs⟩) (by simp [cS]) (pH ts en s4) (List.Sublist.refl _) (.cons _ (List.Sublist.refl _)) fun a c mm w1 w2 w3=>⟨aa (aa l1 q1) (.inr w1),es,a,c,xs,s4,rfl,w2,⟨Hv,by omega⟩,w3,kz (.inr w1) q6,rfl,q7 _ _ (zR es q2 hf)⟩⟩
   ·have qN:s4.fl=false:=by simpa using hf
    have ao:=q3 qN;by_cases h1:ai ts s4.i [125]=true
    ·have ha:=cZ (en:=en) hT h1;have hi:=aN h1;have fk:=q2.next hi;clear hS;rw[ae hf] at q4;simp only[go_sem];refine⟨fun _=>ab ((ha m4).mono ?_),fun h=>by rw[qN] at h;cases h⟩;clear ha;rintro r H' m5 b9 ⟨l5,rfl,rfl⟩;simp only[go_sem];refine zF (b:=⟨4,u,73,23,es.length,xs⟩) (by simp [cS]) (pH ts en s4.next) (List.Sublist.refl _) (.cons_cons _ (List.nil_sublist _)) fun a c mm w1 w2 w3=>⟨aa (aa l1 q1) (aa l5 (.inr w1)),es,a,c,xs,s4.next,rfl,w2,⟨by have hn:s4.next.i=s4.i+1:=rfl;omega,by omega⟩,w3,kz (aa l5 (.inr w1)) q6,rfl,q7 _ _ ?_⟩
     rw[EV,ah (by rw[<- an];exact h1),<- bk];exact bt q2 hi (bI _ fk)
    ·have ha:=da (en:=en) hT h1;have hb:=hS s4 q2 ao;clear hS;rw[ae hf] at q4;simp only[go_sem];refine⟨fun _=>ab ((ha m4).mono ?_),fun h=>by rw[qN] at h;cases h⟩;clear ha;rintro r H' m5 b9 ⟨l5,rfl,rfl⟩;simp only[go_sem];refine ab ((hb m5).mono ?_);clear hb;rintro r H' m6 ej ⟨l6,x6,e6,s6,rfl,hx6,rfl,hR6⟩;have rC:=hR6.mono;have eY:=lz hR6 qN (F1 _);have wP:=hR6.inv.le;simp only[go_sem];refine⟨gD (by omega) (by decide),(s6,es++[e6],xs++x6.cs,u+1,m6),⟨rfl,⟨rfl,rfl,rfl⟩,⟨rfl,by simp,rfl⟩,.inl rfl⟩,⟨aa q1 (aa l5 l6),hR6.inv,fun h=>by dsimp only;omega,?_,by simp only[bY,fI,q5,Sd.cs,cC,fm];omega,zu hx6 q5 (kz (aa l5 l6) q6),fun a s' h=>q7 a s' ?_⟩,?_⟩
     ·dsimp only;rw[bY,fI];rcases eY with h |h
      ·rw[ah h];omega
      ·omega
     ·rw[EV,ae (by rw[<- an];exact h1)];exact aO hR6 h
     ·dsimp only;rw[ae hf];rcases eY with h |h
      ·rw[ah h];omega
      ·split<;>omega
end
noncomputable def ifK (l:List Tk):PR St:=ar (fA l) fun e r=>ar (fC r) fun b r2=>if aA rl r2=true then ar (fC r2.tail) fun a r3=> .ok (.mk 4 [] af zE e b a,r3) else .ok (.mk 4 [] af zE e b [],r2)
noncomputable def Nl (k:Int) (l:List Tk):PR St:=ar (fA l) fun e r=>ar (fC r) fun b r2=> .ok (.mk k [] af zE e b [],r2)
noncomputable def G3 (l:List Tk):PR St:=if aA [59] l=true then .ok (.mk 6 [] af zE zE [] [],l.tail) else ar (bL 0 l) fun e r=>aR [59] r fun r2=> .ok (.mk 6 [] af zE e [] [],r2)
noncomputable def W0 (l:List Tk):PR St:=ar (bL 0 l) fun e r=>aR [59] r fun r2=> .ok (.mk 7 [] af zE e [] [],r2)
noncomputable def AB (l:List Tk):PR St:=ar (fC l) fun b r=>aR nA r fun r2=>aR [40] r2 fun r3=>ar (fr r3) fun t r4=>ar (cW r4) fun s r5=>aR [41] r5 fun r6=>ar (fC r6) fun a r7=> .ok (.mk 8 s t zE zE b a,r7)
noncomputable def Yr (l:List Tk):PR St:=ar (fC l) fun b r=> .ok (.mk 10 [] af zE zE b [],r)
noncomputable def Za (l:List Tk):PR St:=ar (iQ l) fun es r=>aR [59] r fun r2=> .ok (.mk 11 [] af zE (.mk 0 0 [] [] af es) [] [],r2)
noncomputable def yd (l:List Tk):PR St:=ar (fr l) fun t r=>ar (cW r) fun s r2=>aR [61] r2 fun r3=>ar (bL 0 r3) fun e r4=>aR [59] r4 fun r5=> .ok (.mk 1 s t zE e [] [],r5)
noncomputable def ua (l:List Tk):PR St:=ar (bL 0 l) fun e r=>
 if aA [61] r=true then ar (bL 0 r.tail) fun x r2=>aR [59] r2 fun r3=> .ok (.mk 2 [] af e x [] [],r3)
 else aR [59] r fun r2=> .ok (.mk 3 [] af zE e [] [],r2)
section
variable {ts:List Tk} {en:Int} {s:PSt}
theorem YA (hT:TsB ts) (hI:Inv ts s) (j2:ai ts s.i lW=true) (hB:∀s1,Inv ts s1->s.i<s1.i->ph ts en s1) (m:Mem):FnH Tryz.prog 75 [.box 0 0] (pH ts en s) m (qs ts en s.next (ifK (ts.drop (s.next).i)) m):=by
 have hi:=aN j2;have eF:=hI.next hi;have hn:s.next.i=s.i+1:=rfl;refine aH aw Tryz.func75 ?_
 ·simp only[go_sem];have q1:=fun m' =>uh (en:=en) hT j2 m'
  refine ab ((q1 m).mono ?_);clear q1;rintro r H' m1 aJ ⟨l1,rfl,rfl⟩;simp only[go_sem];have q2:=fun m' =>(rR (en:=en) hT eF).paren m'
  refine ab ((q2 m1).mono ?_);clear q2;rintro r H' m2 aG ⟨l2,x2,e2,s2,rfl,hx2,rfl,hR2⟩;simp only[go_sem];have aX:=hR2.mono;have q3:=hB s2 hR2.inv (by omega);refine ab ((q3 m2).mono ?_);clear q3;rintro r H' m3 bu ⟨l3,bs3,a3,c3,xs3,s3,rfl,ha3,hb3,hc3,u7,rfl,hR3⟩;simp only[go_sem];have kg:=hR3.mono;by_cases hc4:ai ts (s3).i rl=true
  ·have q5:=fun m' =>cZ (en:=en) hT hc4 m'
   refine ab ((q5 m3).mono ?_);clear q5;rintro r H' m4 dc ⟨l4,rfl,rfl⟩;simp only[go_sem];have fk:=hR3.inv.next (aN hc4);have AL:(s3).next.i=(s3).i+1:=rfl;have q6:=hB (s3).next fk (by omega);refine ab ((q6 m4).mono ?_);clear q6;rintro r H' m5 b9 ⟨l5,bs6,a6,c6,xs6,s6,rfl,ha6,hb6,hc6,hd6,rfl,hR6⟩;simp only[go_sem];have rC:=hR6.mono;exact⟨(aa l1 (aa l2 (aa l3 (aa l4 l5)))),⟨4,[],af,aI,x2,a3,bs3.length,c3,a6,bs6.length,c6⟩,.mk 4 [] af zE e2 bs3 bs6,s6,rfl,ie ⟨by decide,by decide⟩ (au _) bX dQ (aU (aa l3 (aa l4 l5)) hx2) hb3.2 ha3 (aK (aa l4 l5) hc3) (kz (aa l4 l5) u7) hb6.2 ha6 hc6 hd6,rfl,(aO hR2 (aO hR3 (by rw[ah (by rw[<- an];exact hc4),<- bk];exact bt hR3.inv (aN hc4) (aO hR6 (bI _ hR6.inv)))))⟩
  ·have q5:=fun m' =>da (en:=en) hT hc4 m'
   refine ab ((q5 m3).mono ?_);clear q5;rintro r H' m4 dc ⟨l4,rfl,rfl⟩;simp only[go_sem];exact⟨(aa l1 (aa l2 (aa l3 l4))),⟨4,[],af,aI,x2,a3,bs3.length,c3,none,0,0⟩,.mk 4 [] af zE e2 bs3 [],s3,rfl,ie ⟨by decide,by decide⟩ (au _) bX dQ (aU (aa l3 l4) hx2) hb3.2 ha3 (aK l4 hc3) (kz l4 u7) (au _) (aq _) (cv _ _) (dy _ _),rfl,(aO hR2 (aO hR3 (by rw[ae (by rw[<- an];exact hc4)];exact(bI _ hR3.inv))))⟩
theorem S5 (hT:TsB ts) (hI:Inv ts s) (j2:ai ts s.i mh=true) (hB:∀s1,Inv ts s1->s.i<s1.i->ph ts en s1) (m:Mem):FnH Tryz.prog 76 [.box 0 0] (pH ts en s) m (qs ts en s.next (Nl 5 (ts.drop (s.next).i)) m):=by
 have hi:=aN j2;have eF:=hI.next hi;have hn:s.next.i=s.i+1:=rfl;refine aH aw Tryz.func76 ?_
 ·simp only[go_sem];have q1:=fun m' =>uh (en:=en) hT j2 m'
  refine ab ((q1 m).mono ?_);clear q1;rintro r H' m1 aJ ⟨l1,rfl,rfl⟩;simp only[go_sem];have q2:=fun m' =>(rR (en:=en) hT eF).paren m'
  refine ab ((q2 m1).mono ?_);clear q2;rintro r H' m2 aG ⟨l2,x2,e2,s2,rfl,hx2,rfl,hR2⟩;simp only[go_sem];have aX:=hR2.mono;have q3:=hB s2 hR2.inv (by omega);refine ab ((q3 m2).mono ?_);clear q3;rintro r H' m3 bu ⟨l3,bs3,a3,c3,xs3,s3,rfl,ha3,hb3,hc3,u7,rfl,hR3⟩;simp only[go_sem];have kg:=hR3.mono;exact⟨(aa l1 (aa l2 l3)),⟨5,[],af,aI,x2,a3,bs3.length,c3,none,0,0⟩,.mk 5 [] af zE e2 bs3 [],s3,rfl,ie ⟨by decide,by decide⟩ (au _) bX dQ (aU l3 hx2) hb3.2 ha3 hc3 u7 (au _) (aq _) (cv _ _) (dy _ _),rfl,(aO hR2 (aO hR3 (bI _ hR3.inv)))⟩
theorem U6 (hT:TsB ts) (hI:Inv ts s) (j2:ai ts s.i qa=true) (hB:∀s1,Inv ts s1->s.i<s1.i->ph ts en s1) (m:Mem):FnH Tryz.prog 80 [.box 0 0] (pH ts en s) m (qs ts en s.next (Nl 9 (ts.drop (s.next).i)) m):=by
 have hi:=aN j2;have eF:=hI.next hi;have hn:s.next.i=s.i+1:=rfl;refine aH aw Tryz.func80 ?_
 ·simp only[go_sem];have q1:=fun m' =>uh (en:=en) hT j2 m'
  refine ab ((q1 m).mono ?_);clear q1;rintro r H' m1 aJ ⟨l1,rfl,rfl⟩;simp only[go_sem];have q2:=fun m' =>(rR (en:=en) hT eF).paren m'
  refine ab ((q2 m1).mono ?_);clear q2;rintro r H' m2 aG ⟨l2,x2,e2,s2,rfl,hx2,rfl,hR2⟩;simp only[go_sem];have aX:=hR2.mono;have q3:=hB s2 hR2.inv (by omega);refine ab ((q3 m2).mono ?_);clear q3;rintro r H' m3 bu ⟨l3,bs3,a3,c3,xs3,s3,rfl,ha3,hb3,hc3,u7,rfl,hR3⟩;simp only[go_sem];have kg:=hR3.mono;exact⟨(aa l1 (aa l2 l3)),⟨9,[],af,aI,x2,a3,bs3.length,c3,none,0,0⟩,.mk 9 [] af zE e2 bs3 [],s3,rfl,ie ⟨by decide,by decide⟩ (au _) bX dQ (aU l3 hx2) hb3.2 ha3 hc3 u7 (au _) (aq _) (cv _ _) (dy _ _),rfl,(aO hR2 (aO hR3 (bI _ hR3.inv)))⟩
theorem W4 (hT:TsB ts) (hI:Inv ts s) (j2:ai ts s.i nL=true) (m:Mem):FnH Tryz.prog 77 [.box 0 0] (pH ts en s) m (qs ts en s.next (G3 (ts.drop (s.next).i)) m):=by
 have hi:=aN j2;have eF:=hI.next hi;have hn:s.next.i=s.i+1:=rfl;refine aH aw Tryz.func77 ?_
 ·simp only[go_sem];have q1:=fun m' =>uh (en:=en) hT j2 m'
  refine ab ((q1 m).mono ?_);clear q1;rintro r H' m1 aJ ⟨l1,rfl,rfl⟩;simp only[go_sem];by_cases j1:ai ts (s.next).i [59]=true
  ·have q3:=fun m' =>lF (en:=en) hT j1 m'
   refine ab ((q3 m1).mono ?_);clear q3;rintro r H' m2 aG ⟨l2,rfl,rfl⟩;simp only[go_sem];have q4:=fun m' =>uh (en:=en) hT j1 m'
   refine ab ((q4 m2).mono ?_);clear q4;rintro r H' m3 bu ⟨l3,rfl,rfl⟩;simp only[go_sem];exact⟨(aa l1 (aa l2 l3)),⟨6,[],af,aI,aI,none,0,0,none,0,0⟩,.mk 6 [] af zE zE [] [],(s.next).next,rfl,ie ⟨by decide,by decide⟩ (au _) bX dQ dQ (au _) (aq _) (cv _ _) (dy _ _) (au _) (aq _) (cv _ _) (dy _ _),rfl,(by rw[G3,ah (by rw[<- an];exact j1),<- bk];exact bt eF (aN j1) (bI _ (eF.next (aN j1))))⟩
  ·have q3:=fun m' =>lG (en:=en) hT j1 m'
   refine ab ((q3 m1).mono ?_);clear q3;rintro r H' m2 aG ⟨l2,rfl,rfl⟩;simp only[go_sem];have q4:=fun m' =>(show ∀m' :Mem,FnH Tryz.prog 31 [.box 0 0,.v (.int .i64 0)] (pH ts en s.next) m' (fP ts en s.next (bL 0 (ts.drop (s.next).i)) m') from(rR hT eF).expr 0 (by decide)) m'
   refine ab ((q4 m2).mono ?_);clear q4;rintro r H' m3 bu ⟨l3,x4,e4,s4,rfl,hx4,rfl,hR4⟩;simp only[go_sem];have DD:=hR4.mono;have q5:=fun m' =>ee ts en s4 [59] m' hT.l8
   have fk:Inv ts (aQ ts en s4 [59]):=eo hR4.inv;have AL:(s4).i<=(aQ ts en s4 [59]).i:=fR hR4.inv;refine ab ((q5 m3).mono ?_);clear q5;rintro r H' m4 dc ⟨l4,rfl,rfl⟩;simp only[go_sem];exact⟨(aa l1 (aa l2 (aa l3 l4))),⟨6,[],af,aI,x4,none,0,0,none,0,0⟩,.mk 6 [] af zE e4 [] [],(aQ ts en s4 [59]),rfl,ie ⟨by decide,by decide⟩ (au _) bX dQ (aU l4 hx4) (au _) (aq _) (cv _ _) (dy _ _) (au _) (aq _) (cv _ _) (dy _ _),rfl,(by rw[G3,ae (by rw[<- an];exact j1)];exact(aO hR4 (dn hR4.inv (bI _ fk))))⟩
theorem Tt (hT:TsB ts) (hI:Inv ts s) (j2:ai ts s.i ot=true) (m:Mem):FnH Tryz.prog 78 [.box 0 0] (pH ts en s) m (qs ts en s.next (W0 (ts.drop (s.next).i)) m):=by
 have hi:=aN j2;have eF:=hI.next hi;have hn:s.next.i=s.i+1:=rfl;refine aH aw Tryz.func78 ?_
 ·simp only[go_sem];have q1:=fun m' =>uh (en:=en) hT j2 m'
  refine ab ((q1 m).mono ?_);clear q1;rintro r H' m1 aJ ⟨l1,rfl,rfl⟩;simp only[go_sem];have q2:=fun m' =>(show ∀m' :Mem,FnH Tryz.prog 31 [.box 0 0,.v (.int .i64 0)] (pH ts en s.next) m' (fP ts en s.next (bL 0 (ts.drop (s.next).i)) m') from(rR hT eF).expr 0 (by decide)) m'
  refine ab ((q2 m1).mono ?_);clear q2;rintro r H' m2 aG ⟨l2,x2,e2,s2,rfl,hx2,rfl,hR2⟩;simp only[go_sem];have aX:=hR2.mono;have q3:=fun m' =>ee ts en s2 [59] m' hT.l8
  have mW:Inv ts (aQ ts en s2 [59]):=eo hR2.inv;have kg:(s2).i<=(aQ ts en s2 [59]).i:=fR hR2.inv;refine ab ((q3 m2).mono ?_);clear q3;rintro r H' m3 bu ⟨l3,rfl,rfl⟩;simp only[go_sem];exact⟨(aa l1 (aa l2 l3)),⟨7,[],af,aI,x2,none,0,0,none,0,0⟩,.mk 7 [] af zE e2 [] [],(aQ ts en s2 [59]),rfl,ie ⟨by decide,by decide⟩ (au _) bX dQ (aU l3 hx2) (au _) (aq _) (cv _ _) (dy _ _) (au _) (aq _) (cv _ _) (dy _ _),rfl,(aO hR2 (dn hR2.inv (bI _ mW)))⟩
theorem WX (hT:TsB ts) (hI:Inv ts s) (j2:ai ts s.i pw=true) (hB:∀s1,Inv ts s1->s.i<s1.i->ph ts en s1) (m:Mem):FnH Tryz.prog 79 [.box 0 0] (pH ts en s) m (qs ts en s.next (AB (ts.drop (s.next).i)) m):=by
 have hi:=aN j2;have eF:=hI.next hi;have hn:s.next.i=s.i+1:=rfl;refine aH aw Tryz.func79 ?_
 ·simp only[go_sem];have q1:=fun m' =>uh (en:=en) hT j2 m'
  refine ab ((q1 m).mono ?_);clear q1;rintro r H' m1 aJ ⟨l1,rfl,rfl⟩;simp only[go_sem];have q2:=hB s.next eF (by omega);refine ab ((q2 m1).mono ?_);clear q2;rintro r H' m2 aG ⟨l2,bs2,a2,c2,xs2,s2,rfl,ha2,yN,j1,Bp,rfl,hR2⟩;simp only[go_sem];have aX:=hR2.mono;have q3:=fun m' =>ee ts en s2 nA m' hT.l8
  have mW:Inv ts (aQ ts en s2 nA):=eo hR2.inv;have kg:(s2).i<=(aQ ts en s2 nA).i:=fR hR2.inv;refine ab ((q3 m2).mono ?_);clear q3;rintro r H' m3 bu ⟨l3,rfl,rfl⟩;simp only[go_sem];have q4:=fun m' =>ee ts en (aQ ts en s2 nA) [40] m' hT.l8
  have Br:Inv ts (aQ ts en (aQ ts en s2 nA) [40]):=eo mW;have DD:((aQ ts en s2 nA)).i<=(aQ ts en (aQ ts en s2 nA) [40]).i:=fR mW;refine ab ((q4 m3).mono ?_);clear q4;rintro r H' m4 dc ⟨l4,rfl,rfl⟩;simp only[go_sem];have q5:=fun m' =>vq ts en (aQ ts en (aQ ts en s2 nA) [40]) m' hT Br
  refine ab ((q5 m4).mono ?_);clear q5;rintro r H' m5 b9 ⟨l5,t5,s5,rfl,ht5,hu5,rfl,hR5⟩;simp only[go_sem];have AL:=hR5.mono;have q6:=fun m' =>pR ts en s5 m' hT hR5.inv
  refine ab ((q6 m5).mono ?_);clear q6;rintro r H' m6 ej ⟨l6,w6,s6,rfl,yE,rfl,hR6⟩;simp only[go_sem];have rC:=hR6.mono;have q7:=fun m' =>ee ts en s6 [41] m' hT.l8
  have hI7:Inv ts (aQ ts en s6 [41]):=eo hR6.inv;have AK:(s6).i<=(aQ ts en s6 [41]).i:=fR hR6.inv;refine ab ((q7 m6).mono ?_);clear q7;rintro r H' m7 gb ⟨l7,rfl,rfl⟩;simp only[go_sem];have q8:=hB (aQ ts en s6 [41]) hI7 (by omega);refine ab ((q8 m7).mono ?_);clear q8;rintro r H' m8 jP ⟨l8,bs8,a8,c8,xs8,s8,rfl,ha8,hb8,hc8,hd8,rfl,hR8⟩;simp only[go_sem];have abx:=hR8.mono;exact⟨(aa l1 (aa l2 (aa l3 (aa l4 (aa l5 (aa l6 (aa l7 l8))))))),⟨8,w6,t5,aI,aI,a2,bs2.length,c2,a8,bs8.length,c8⟩,.mk 8 w6 t5 zE zE bs2 bs8,s8,rfl,ie ⟨by decide,by decide⟩ yE ht5 dQ dQ yN.2 ha2 (aK (aa l3 (aa l4 (aa l5 (aa l6 (aa l7 l8))))) j1) (kz (aa l3 (aa l4 (aa l5 (aa l6 (aa l7 l8))))) Bp) hb8.2 ha8 hc8 hd8,rfl,(aO hR2 (dn hR2.inv (dn mW (aO hR5 (aO hR6 (dn hR6.inv (aO hR8 (bI _ hR8.inv))))))))⟩
theorem VC (hT:TsB ts) (hI:Inv ts s) (dP:ph ts en s) (m:Mem):FnH Tryz.prog 81 [.box 0 0] (pH ts en s) m (qs ts en s (Yr (ts.drop (s).i)) m):=by
 refine aH aw Tryz.func81 ?_
 ·simp only[go_sem];have q1:=dP;refine ab ((q1 m).mono ?_);clear q1;rintro r H' m1 aJ ⟨l1,bs1,a1,c1,xs1,s1,rfl,ha1,D8,H8,hd1,rfl,dw⟩;simp only[go_sem];have rD:=dw.mono;exact⟨l1,⟨10,[],af,aI,aI,a1,bs1.length,c1,none,0,0⟩,.mk 10 [] af zE zE bs1 [],s1,rfl,ie ⟨by decide,by decide⟩ (au _) bX dQ dQ D8.2 ha1 H8 hd1 (au _) (aq _) (cv _ _) (dy _ _),rfl,(aO dw (bI _ dw.inv))⟩
theorem WA (hT:TsB ts) (hI:Inv ts s) (j2:ai ts s.i o7=true) (m:Mem):FnH Tryz.prog 83 [.box 0 0] (pH ts en s) m (qs ts en s.next (Za (ts.drop (s.next).i)) m):=by
 have hi:=aN j2;have eF:=hI.next hi;have hn:s.next.i=s.i+1:=rfl;refine aH aw Tryz.func83 ?_
 ·simp only[go_sem];have q1:=fun m' =>uh (en:=en) hT j2 m'
  refine ab ((q1 m).mono ?_);clear q1;rintro r H' m1 aJ ⟨l1,rfl,rfl⟩;simp only[go_sem];have q2:=fun m' =>(rR (en:=en) hT eF).args m'
  refine ab ((q2 m1).mono ?_);clear q2;rintro r H' m2 aG ⟨l2,es2,a2,c2,xs2,s2,rfl,ha2,yN,j1,Bp,rfl,hR2⟩;simp only[go_sem];have aX:=hR2.mono;have q3:=fun m' =>ee ts en s2 [59] m' hT.l8
  have mW:Inv ts (aQ ts en s2 [59]):=eo hR2.inv;have kg:(s2).i<=(aQ ts en s2 [59]).i:=fR hR2.inv;refine ab ((q3 m2).mono ?_);clear q3;rintro r H' m3 bu ⟨l3,rfl,rfl⟩;simp only[go_sem];exact⟨(aa l1 (aa l2 l3)),⟨11,[],af,aI,⟨0,0,[],[],af,a2,es2.length,c2⟩,none,0,0,none,0,0⟩,.mk 11 [] af zE (.mk 0 0 [] [] af es2) [] [],(aQ ts en s2 [59]),rfl,ie ⟨by decide,by decide⟩ (au _) bX dQ (eT ⟨by decide,by decide⟩ ⟨by decide,by decide⟩ (au _) (au _) bX (Nat.le_succ_of_le yN) ha2 (aK l3 j1) (tP l3 Bp)) (au _) (aq _) (cv _ _) (dy _ _) (au _) (aq _) (cv _ _) (dy _ _),rfl,(aO hR2 (dn hR2.inv (bI _ mW)))⟩
theorem My (hT:TsB ts) (hI:Inv ts s) (m:Mem):FnH Tryz.prog 85 [.box 0 0] (pH ts en s) m (qs ts en s (yd (ts.drop (s).i)) m):=by
 refine aH aw Tryz.func85 ?_
 ·simp only[go_sem];have q1:=fun m' =>vq ts en s m' hT hI
  refine ab ((q1 m).mono ?_);clear q1;rintro r H' m1 aJ ⟨l1,t1,s1,rfl,ht1,hu1,rfl,dw⟩;simp only[go_sem];have rD:=dw.mono;have q2:=fun m' =>pR ts en s1 m' hT dw.inv
  refine ab ((q2 m1).mono ?_);clear q2;rintro r H' m2 aG ⟨l2,w2,s2,rfl,rL,rfl,hR2⟩;simp only[go_sem];have aX:=hR2.mono;have q3:=fun m' =>ee ts en s2 [61] m' hT.l8
  have mW:Inv ts (aQ ts en s2 [61]):=eo hR2.inv;have kg:(s2).i<=(aQ ts en s2 [61]).i:=fR hR2.inv;refine ab ((q3 m2).mono ?_);clear q3;rintro r H' m3 bu ⟨l3,rfl,rfl⟩;simp only[go_sem];have q4:=fun m' =>(show ∀m' :Mem,FnH Tryz.prog 31 [.box 0 0,.v (.int .i64 0)] (pH ts en (aQ ts en s2 [61])) m' (fP ts en (aQ ts en s2 [61]) (bL 0 (ts.drop ((aQ ts en s2 [61])).i)) m') from(rR hT mW).expr 0 (by decide)) m'
  refine ab ((q4 m3).mono ?_);clear q4;rintro r H' m4 dc ⟨l4,x4,e4,s4,rfl,hx4,rfl,hR4⟩;simp only[go_sem];have DD:=hR4.mono;have q5:=fun m' =>ee ts en s4 [59] m' hT.l8
  have fk:Inv ts (aQ ts en s4 [59]):=eo hR4.inv;have AL:(s4).i<=(aQ ts en s4 [59]).i:=fR hR4.inv;refine ab ((q5 m4).mono ?_);clear q5;rintro r H' m5 b9 ⟨l5,rfl,rfl⟩;simp only[go_sem];exact⟨(aa l1 (aa l2 (aa l3 (aa l4 l5)))),⟨1,w2,t1,aI,x4,none,0,0,none,0,0⟩,.mk 1 w2 t1 zE e4 [] [],(aQ ts en s4 [59]),rfl,ie ⟨by decide,by decide⟩ rL ht1 dQ (aU l5 hx4) (au _) (aq _) (cv _ _) (dy _ _) (au _) (aq _) (cv _ _) (dy _ _),rfl,(aO dw (aO hR2 (dn hR2.inv (aO hR4 (dn hR4.inv (bI _ fk))))))⟩
theorem LH (hT:TsB ts) (hI:Inv ts s) (m:Mem):FnH Tryz.prog 73 [.box 0 0] (pH ts en s) m (qs ts en s (ua (ts.drop (s).i)) m):=by
 refine aH aw Tryz.func73 ?_
 ·simp only[go_sem];have q1:=fun m' =>(show ∀m' :Mem,FnH Tryz.prog 31 [.box 0 0,.v (.int .i64 0)] (pH ts en s) m' (fP ts en s (bL 0 (ts.drop (s).i)) m') from(rR hT hI).expr 0 (by decide)) m'
  refine ab ((q1 m).mono ?_);clear q1;rintro r H' m1 aJ ⟨l1,x1,e1,s1,rfl,hx1,rfl,dw⟩;simp only[go_sem];have rD:=dw.mono;by_cases j1:ai ts (s1).i [61]=true
  ·have q3:=fun m' =>cZ (en:=en) hT j1 m'
   refine ab ((q3 m1).mono ?_);clear q3;rintro r H' m2 aG ⟨l2,rfl,rfl⟩;simp only[go_sem];have mW:=dw.inv.next (aN j1);have kg:(s1).next.i=(s1).i+1:=rfl;refine cw (.hoist 0 (.hoist 1 (.hoist 2 (.alt 3 [1,0] (.hoist 4 (.alt 5 [] .done .stop)) .stop)))) aw (by kernel_rfl) (by kernel_rfl) ?_;simp only[go_sem];have q4:=fun m' =>(show ∀m' :Mem,FnH Tryz.prog 31 [.box 0 0,.v (.int .i64 0)] (pH ts en (s1).next) m' (fP ts en (s1).next (bL 0 (ts.drop ((s1).next).i)) m') from(rR hT mW).expr 0 (by decide)) m'
   refine ab ((q4 m2).mono ?_);clear q4;rintro r H' m3 bu ⟨l3,x4,e4,s4,rfl,hx4,rfl,hR4⟩;simp only[go_sem];have DD:=hR4.mono;try simp only[l3,true_and,and_self]
   have q5:=fun m' =>ee ts en s4 [59] m' hT.l8
   have fk:Inv ts (aQ ts en s4 [59]):=eo hR4.inv;have AL:(s4).i<=(aQ ts en s4 [59]).i:=fR hR4.inv;refine ab ((q5 m3).mono ?_);clear q5;rintro r H' m4 dc ⟨l4,rfl,rfl⟩;simp only[go_sem];exact⟨(aa l1 (aa l2 (aa l3 l4))),⟨2,[],af,x1,x4,none,0,0,none,0,0⟩,.mk 2 [] af e1 e4 [] [],(aQ ts en s4 [59]),rfl,ie ⟨by decide,by decide⟩ (au _) bX (aU (aa l2 (aa l3 l4)) hx1) (aU l4 hx4) (au _) (aq _) (cv _ _) (dy _ _) (au _) (aq _) (cv _ _) (dy _ _),rfl,(aO dw (by rw[ah (by rw[<- an];exact j1),<- bk];exact bt dw.inv (aN j1) (aO hR4 (dn hR4.inv (bI _ fk)))))⟩
  ·have q3:=fun m' =>da (en:=en) hT j1 m'
   refine ab ((q3 m1).mono ?_);clear q3;rintro r H' m2 aG ⟨l2,rfl,rfl⟩;simp only[go_sem];have q4:=fun m' =>ee ts en s1 [59] m' hT.l8
   have Br:Inv ts (aQ ts en s1 [59]):=eo dw.inv;have DD:(s1).i<=(aQ ts en s1 [59]).i:=fR dw.inv;refine ab ((q4 m2).mono ?_);clear q4;rintro r H' m3 bu ⟨l3,rfl,rfl⟩;simp only[go_sem];exact⟨(aa l1 (aa l2 l3)),⟨3,[],af,aI,x1,none,0,0,none,0,0⟩,.mk 3 [] af zE e1 [] [],(aQ ts en s1 [59]),rfl,ie ⟨by decide,by decide⟩ (au _) bX dQ (aU (aa l2 l3) hx1) (au _) (aq _) (cv _ _) (dy _ _) (au _) (aq _) (cv _ _) (dy _ _),rfl,(aO dw (by rw[ae (by rw[<- an];exact j1)];exact(dn dw.inv (bI _ Br))))⟩
end
section
variable {ts:List Tk} {en:Int} {s:PSt}
theorem BK (hT:TsB ts) (hI:Inv ts s) (w:List UInt8) (m:Mem):FnH Tryz.prog 82 [.box 0 0,.v (.string (bs w))] (pH ts en s) m fun r H' m' =>ak m m' /\r= .v (.bool (aA w (ts.drop s.i).tail))/\H' =pH ts en s:=by
 have hp:=fun m' =>Cq ts en s.next w m' hT.l8
 have hl:=hT.len;have dJ:=hI.le;have e:ai ts s.next.i w=aA w (ts.drop s.i).tail:=by rw[an,bk]
 rw[e] at hp;refine aH aw Tryz.func82 ?_
 ·simp only[go_sem];refine⟨by unfold ax;omega,?_⟩;refine ab ((hp m).mono ?_);clear hp;rintro r H' m1 aJ ⟨l1,rfl,rfl⟩;simp only[go_sem];exact l1
theorem Rx (hT:TsB ts) (hI:Inv ts s) (b:Bool) (hb:ig (ts.drop s.i)=b) (m:Mem):FnH Tryz.prog 84 [.box 0 0] (pH ts en s) m fun r H' m' =>ak m m' /\r= .v (.bool b)/\H' =pH ts en s:=by
 refine aH aw Tryz.func84 ?_
 ·simp only[go_sem];by_cases h1:ai ts s.i gL=true
  ·have ha:=lF (en:=en) hT h1;have hf:=fun m' =>BK (en:=en) hT hI [40] m'
   have e:ig (ts.drop s.i)= !aA [40] (ts.drop s.i).tail:=by rw[ig,ah];rw[<- an,h1];rfl
   refine ab ((ha m).mono ?_);clear ha;rintro r H' m1 aJ ⟨l1,rfl,rfl⟩;simp only[go_sem];refine ab ((hf m1).mono ?_);clear hf;rintro r H' m2 aG ⟨l2,rfl,rfl⟩;simp only[go_sem];exact⟨aa l1 l2,by rw[<- hb,e]⟩
  ·have ha:=lG (en:=en) hT h1;refine ab ((ha m).mono ?_);clear ha;rintro r H' m1 aJ ⟨l1,rfl,rfl⟩;simp only[go_sem];by_cases h2:ai ts s.i gH=true
   ·have ha:=lF (en:=en) hT h2;have hf:=fun m' =>BK (en:=en) hT hI [40] m'
    have e:ig (ts.drop s.i)= !aA [40] (ts.drop s.i).tail:=by rw[ig,ah];rw[<- an,<- an,h2,Bool.or_true]
    refine ab ((ha m1).mono ?_);clear ha;rintro r H' m2 aG ⟨l2,rfl,rfl⟩;simp only[go_sem];refine ab ((hf m2).mono ?_);clear hf;rintro r H' m3 bu ⟨l3,rfl,rfl⟩;simp only[go_sem];exact⟨aa l1 (aa l2 l3),by rw[<- hb,e]⟩
   ·have ha:=lG (en:=en) hT h2;have e:ig (ts.drop s.i)=(eG (ts.drop s.i)&& !aA [46] (ts.drop s.i).tail):=by rw[ig,ae];rw[<- an,<- an,Bool.or_eq_true];rintro(h |h);exact h1 h;exact h2 h
    refine ab ((ha m1).mono ?_);clear ha;rintro r H' m2 aG ⟨l2,rfl,rfl⟩;simp only[go_sem];by_cases h3:eG (ts.drop s.i)=true
    ·have ha:=M7 (en:=en) hT h3;have hf:=fun m' =>BK (en:=en) hT hI [46] m'
     refine ab ((ha m2).mono ?_);clear ha;rintro r H' m3 bu ⟨l3,rfl,rfl⟩;simp only[go_sem];refine ab ((hf m3).mono ?_);clear hf;rintro r H' m4 dc ⟨l4,rfl,rfl⟩;simp only[go_sem];exact⟨aa l1 (aa l2 (aa l3 l4)),by rw[<- hb,e,h3];rfl⟩
    ·have ha:=M8 (en:=en) hT h3;refine ab ((ha m2).mono ?_);clear ha;rintro r H' m3 bu ⟨l3,rfl,rfl⟩;simp only[go_sem];exact⟨aa l1 (aa l2 l3),by rw[<- hb,e,(by simpa using h3:eG (ts.drop s.i)=false)];rfl⟩
theorem IF (hT:TsB ts) (hI:Inv ts s) (m:Mem):FnH Tryz.prog 84 [.box 0 0] (pH ts en s) m fun r H' m' =>ak m m' /\r= .v (.bool (ig (ts.drop s.i)))/\H' =pH ts en s:=Rx hT hI _ rfl m
theorem U8 (hT:TsB ts) (hI:Inv ts s) (dP:ph ts en s) (hB:∀s1,Inv ts s1->s.i<s1.i->ph ts en s1):Ax ts en s:=fun m=>by
 refine aH aw Tryz.func38 ?_
 ·simp only[go_sem];by_cases h0:ai ts s.i lW=true
  ·have ha:=lF (en:=en) hT h0;have hb:=YA (en:=en) hT hI h0 hB;clear hB dP;refine ab ((ha m).mono ?_);clear ha;rintro r H' m1 aJ ⟨l1,rfl,rfl⟩;simp only[go_sem];refine ab ((hb m1).mono ?_);clear hb;rintro r H' m2 aG ⟨l2,x,e,s1,rfl,hx,rfl,hR⟩;simp only[go_sem];exact⟨(aa l1 l2),x,e,s1,rfl,hx,rfl,by rw[od,ah (by rw[<- an];exact h0),<- bk];exact bt hI (aN h0) hR⟩
  ·have ha:=lG (en:=en) hT h0;refine ab ((ha m).mono ?_);clear ha;rintro r H' m1 aJ ⟨l1,rfl,rfl⟩;simp only[go_sem];by_cases h1:ai ts s.i mh=true
   ·have ha:=lF (en:=en) hT h1;have hb:=S5 (en:=en) hT hI h1 hB;clear hB dP;refine ab ((ha m1).mono ?_);clear ha;rintro r H' m2 aG ⟨l2,rfl,rfl⟩;simp only[go_sem];refine ab ((hb m2).mono ?_);clear hb;rintro r H' m3 bu ⟨l3,x,e,s1,rfl,hx,rfl,hR⟩;simp only[go_sem];exact⟨(aa l1 (aa l2 l3)),x,e,s1,rfl,hx,rfl,by rw[od,ae (by rw[<- an];exact h0),ah (by rw[<- an];exact h1),<- bk];exact bt hI (aN h1) hR⟩
   ·have ha:=lG (en:=en) hT h1;refine ab ((ha m1).mono ?_);clear ha;rintro r H' m2 aG ⟨l2,rfl,rfl⟩;simp only[go_sem];by_cases h2:ai ts s.i nL=true
    ·have ha:=lF (en:=en) hT h2;have hb:=W4 (en:=en) hT hI h2;clear hB dP;refine ab ((ha m2).mono ?_);clear ha;rintro r H' m3 bu ⟨l3,rfl,rfl⟩;simp only[go_sem];refine ab ((hb m3).mono ?_);clear hb;rintro r H' m4 dc ⟨l4,x,e,s1,rfl,hx,rfl,hR⟩;simp only[go_sem];exact⟨(aa l1 (aa l2 (aa l3 l4))),x,e,s1,rfl,hx,rfl,by rw[od,ae (by rw[<- an];exact h0),ae (by rw[<- an];exact h1),ah (by rw[<- an];exact h2),<- bk];exact bt hI (aN h2) hR⟩
    ·have ha:=lG (en:=en) hT h2;refine ab ((ha m2).mono ?_);clear ha;rintro r H' m3 bu ⟨l3,rfl,rfl⟩;simp only[go_sem];by_cases h3:ai ts s.i ot=true
     ·have ha:=lF (en:=en) hT h3;have hb:=Tt (en:=en) hT hI h3;clear hB dP;refine ab ((ha m3).mono ?_);clear ha;rintro r H' m4 dc ⟨l4,rfl,rfl⟩;simp only[go_sem];refine ab ((hb m4).mono ?_);clear hb;rintro r H' m5 b9 ⟨l5,x,e,s1,rfl,hx,rfl,hR⟩;simp only[go_sem];exact⟨(aa l1 (aa l2 (aa l3 (aa l4 l5)))),x,e,s1,rfl,hx,rfl,by rw[od,ae (by rw[<- an];exact h0),ae (by rw[<- an];exact h1),ae (by rw[<- an];exact h2),ah (by rw[<- an];exact h3),<- bk];exact bt hI (aN h3) hR⟩
     ·have ha:=lG (en:=en) hT h3;refine ab ((ha m3).mono ?_);clear ha;rintro r H' m4 dc ⟨l4,rfl,rfl⟩;simp only[go_sem];by_cases h4:ai ts s.i pw=true
      ·have ha:=lF (en:=en) hT h4;have hb:=WX (en:=en) hT hI h4 hB;clear hB dP;refine ab ((ha m4).mono ?_);clear ha;rintro r H' m5 b9 ⟨l5,rfl,rfl⟩;simp only[go_sem];refine ab ((hb m5).mono ?_);clear hb;rintro r H' m6 ej ⟨l6,x,e,s1,rfl,hx,rfl,hR⟩;simp only[go_sem];exact⟨(aa l1 (aa l2 (aa l3 (aa l4 (aa l5 l6))))),x,e,s1,rfl,hx,rfl,by rw[od,ae (by rw[<- an];exact h0),ae (by rw[<- an];exact h1),ae (by rw[<- an];exact h2),ae (by rw[<- an];exact h3),ah (by rw[<- an];exact h4),<- bk];exact bt hI (aN h4) hR⟩
      ·have ha:=lG (en:=en) hT h4;refine ab ((ha m4).mono ?_);clear ha;rintro r H' m5 b9 ⟨l5,rfl,rfl⟩;simp only[go_sem];by_cases h5:ai ts s.i qa=true
       ·have ha:=lF (en:=en) hT h5;have hb:=U6 (en:=en) hT hI h5 hB;clear hB dP;refine ab ((ha m5).mono ?_);clear ha;rintro r H' m6 ej ⟨l6,rfl,rfl⟩;simp only[go_sem];refine ab ((hb m6).mono ?_);clear hb;rintro r H' m7 gb ⟨l7,x,e,s1,rfl,hx,rfl,hR⟩;simp only[go_sem];exact⟨(aa l1 (aa l2 (aa l3 (aa l4 (aa l5 (aa l6 l7)))))),x,e,s1,rfl,hx,rfl,by rw[od,ae (by rw[<- an];exact h0),ae (by rw[<- an];exact h1),ae (by rw[<- an];exact h2),ae (by rw[<- an];exact h3),ae (by rw[<- an];exact h4),ah (by rw[<- an];exact h5),<- bk];exact bt hI (aN h5) hR⟩
       ·have ha:=lG (en:=en) hT h5;refine ab ((ha m5).mono ?_);clear ha;rintro r H' m6 ej ⟨l6,rfl,rfl⟩;simp only[go_sem];by_cases h6:ai ts s.i [123]=true
        ·have ha:=lF (en:=en) hT h6;have hb:=VC (en:=en) hT hI dP;clear hB dP;refine ab ((ha m6).mono ?_);clear ha;rintro r H' m7 gb ⟨l7,rfl,rfl⟩;simp only[go_sem];refine ab ((hb m7).mono ?_);clear hb;rintro r H' m8 jP ⟨l8,x,e,s1,rfl,hx,rfl,hR⟩;simp only[go_sem];exact⟨(aa l1 (aa l2 (aa l3 (aa l4 (aa l5 (aa l6 (aa l7 l8))))))),x,e,s1,rfl,hx,rfl,by rw[od,ae (by rw[<- an];exact h0),ae (by rw[<- an];exact h1),ae (by rw[<- an];exact h2),ae (by rw[<- an];exact h3),ae (by rw[<- an];exact h4),ae (by rw[<- an];exact h5),ah (by rw[<- an];exact h6)];exact hR⟩
        ·have ha:=lG (en:=en) hT h6;refine ab ((ha m6).mono ?_);clear ha;rintro r H' m7 gb ⟨l7,rfl,rfl⟩;simp only[go_sem];by_cases h7:ai ts s.i o7=true
         ·have ha:=lF (en:=en) hT h7;have hf:=fun m' =>BK (en:=en) hT hI [40] m'
          refine ab ((ha m7).mono ?_);clear ha;rintro r H' m8 jP ⟨l8,rfl,rfl⟩;simp only[go_sem];by_cases h8:aA [40] (ts.drop s.i).tail=true
          ·rw[h8] at hf;have hb:=WA (en:=en) hT hI h7;clear hB dP;refine ab ((hf m8).mono ?_);clear hf;rintro r H' m9 mT ⟨l9,rfl,rfl⟩;simp only[go_sem];refine ab ((hb m9).mono ?_);clear hb;rintro r H' m10 uB ⟨l10,x,e,s1,rfl,hx,rfl,hR⟩;simp only[go_sem];exact⟨(aa l1 (aa l2 (aa l3 (aa l4 (aa l5 (aa l6 (aa l7 (aa l8 (aa l9 l10))))))))),x,e,s1,rfl,hx,rfl,by rw[od,ae (by rw[<- an];exact h0),ae (by rw[<- an];exact h1),ae (by rw[<- an];exact h2),ae (by rw[<- an];exact h3),ae (by rw[<- an];exact h4),ae (by rw[<- an];exact h5),ae (by rw[<- an];exact h6),ah ⟨by rw[<- an];exact h7,h8⟩,<- bk];exact bt hI (aN h7) hR⟩
          ·rw[(by simpa using h8:aA [40] (ts.drop s.i).tail=false)] at hf;refine ab ((hf m8).mono ?_);clear hf;rintro r H' m9 mT ⟨l9,rfl,rfl⟩;simp only[go_sem];have hd:=fun m' =>IF (en:=en) hT hI m'
           refine ab ((hd m9).mono ?_);clear hd;rintro r H' m10 uB ⟨l10,rfl,rfl⟩;simp only[go_sem];refine⟨fun h9=> ?_,fun h9=> ?_⟩
           ·have hb:=My (en:=en) hT hI;clear hB dP;refine ab ((hb m10).mono ?_);clear hb;rintro r H' m11 abu ⟨HA,x,e,s1,rfl,hx,rfl,hR⟩;simp only[go_sem];exact⟨(aa l1 (aa l2 (aa l3 (aa l4 (aa l5 (aa l6 (aa l7 (aa l8 (aa l9 (aa l10 HA)))))))))),x,e,s1,rfl,hx,rfl,by rw[od,ae (by rw[<- an];exact h0),ae (by rw[<- an];exact h1),ae (by rw[<- an];exact h2),ae (by rw[<- an];exact h3),ae (by rw[<- an];exact h4),ae (by rw[<- an];exact h5),ae (by rw[<- an];exact h6),ae (fun q=>h8 q.2),ah h9];exact hR⟩
           ·have hb:=LH (en:=en) hT hI;clear hB dP;refine ab ((hb m10).mono ?_);clear hb;rintro r H' m11 abu ⟨HA,x,e,s1,rfl,hx,rfl,hR⟩;simp only[go_sem];exact⟨(aa l1 (aa l2 (aa l3 (aa l4 (aa l5 (aa l6 (aa l7 (aa l8 (aa l9 (aa l10 HA)))))))))),x,e,s1,rfl,hx,rfl,by rw[od,ae (by rw[<- an];exact h0),ae (by rw[<- an];exact h1),ae (by rw[<- an];exact h2),ae (by rw[<- an];exact h3),ae (by rw[<- an];exact h4),ae (by rw[<- an];exact h5),ae (by rw[<- an];exact h6),ae (fun q=>h8 q.2),ae (by rw[h9];decide)];exact hR⟩
         ·have ha:=lG (en:=en) hT h7;refine ab ((ha m7).mono ?_);clear ha;rintro r H' m8 jP ⟨l8,rfl,rfl⟩;simp only[go_sem];have hd:=fun m' =>IF (en:=en) hT hI m'
          refine ab ((hd m8).mono ?_);clear hd;rintro r H' m9 mT ⟨l9,rfl,rfl⟩;simp only[go_sem];refine⟨fun h9=> ?_,fun h9=> ?_⟩
          ·have hb:=My (en:=en) hT hI;clear hB dP;refine ab ((hb m9).mono ?_);clear hb;rintro r H' m10 uB ⟨l10,x,e,s1,rfl,hx,rfl,hR⟩;simp only[go_sem];exact⟨(aa l1 (aa l2 (aa l3 (aa l4 (aa l5 (aa l6 (aa l7 (aa l8 (aa l9 l10))))))))),x,e,s1,rfl,hx,rfl,by rw[od,ae (by rw[<- an];exact h0),ae (by rw[<- an];exact h1),ae (by rw[<- an];exact h2),ae (by rw[<- an];exact h3),ae (by rw[<- an];exact h4),ae (by rw[<- an];exact h5),ae (by rw[<- an];exact h6),ae (fun q=>h7 (by rw[an];exact q.1)),ah h9];exact hR⟩
          ·have hb:=LH (en:=en) hT hI;clear hB dP;refine ab ((hb m9).mono ?_);clear hb;rintro r H' m10 uB ⟨l10,x,e,s1,rfl,hx,rfl,hR⟩;simp only[go_sem];exact⟨(aa l1 (aa l2 (aa l3 (aa l4 (aa l5 (aa l6 (aa l7 (aa l8 (aa l9 l10))))))))),x,e,s1,rfl,hx,rfl,by rw[od,ae (by rw[<- an];exact h0),ae (by rw[<- an];exact h1),ae (by rw[<- an];exact h2),ae (by rw[<- an];exact h3),ae (by rw[<- an];exact h4),ae (by rw[<- an];exact h5),ae (by rw[<- an];exact h6),ae (fun q=>h7 (by rw[an];exact q.1)),ae (by rw[h9];decide)];exact hR⟩
end
theorem FZ {ts:List Tk} {en:Int} (hT:TsB ts):∀(L:Nat) (s:PSt),Inv ts s->ts.length - s.i<L->Ax ts en s/\ph ts en s
 |0,s,_,h=>absurd h (Nat.not_lt_zero _)
 |L+1,s,hI,h=>by
  have later:∀s1,Inv ts s1->s.i<s1.i->Ax ts en s1/\ph ts en s1:=fun s1 h1 h2=>FZ hT L s1 h1 (by have:=h1.le;omega)
  have hb:ph ts en s:=UJ hT hI fun s1 h1 h2=>(later s1 h1 h2).1
  exact⟨U8 hT hI hb fun s1 h1 h2=>(later s1 h1 h2).2,hb⟩
theorem stw {ts:List Tk} {en:Int} {s:PSt} (hT:TsB ts) (hI:Inv ts s):Ax ts en s:=(FZ hT _ s hI (Nat.lt_succ_self _)).1
theorem wW {ts:List Tk} {en:Int} {s:PSt} (hT:TsB ts) (hI:Inv ts s):ph ts en s:=(FZ hT _ s hI (Nat.lt_succ_self _)).2
theorem aaM:∀fl:Int,0<=fl->fl<1->bits .or .i64 fl 1=fl+1:=fun fl h0 h1=>by
 have h:(List.range 1).all (fun n=>decide (bits .or .i64 (n:Int) 1=(n:Int)+1))=true:=by kernel_rfl
 obtain⟨k,rfl⟩:=Int.eq_ofNat_of_zero_le h0;exact of_decide_eq_true (List.all_eq_true.1 h k (List.mem_range.2 (by omega)))
theorem aaL:∀fl:Int,0<=fl->fl<2->bits .or .i64 fl 2=fl+2:=fun fl h0 h1=>by
 have h:(List.range 2).all (fun n=>decide (bits .or .i64 (n:Int) 2=(n:Int)+2))=true:=by kernel_rfl
 obtain⟨k,rfl⟩:=Int.eq_ofNat_of_zero_le h0;exact of_decide_eq_true (List.all_eq_true.1 h k (List.mem_range.2 (by omega)))
theorem aaK:∀fl:Int,0<=fl->fl<4->bits .or .i64 fl 4=fl+4:=fun fl h0 h1=>by
 have h:(List.range 4).all (fun n=>decide (bits .or .i64 (n:Int) 4=(n:Int)+4))=true:=by kernel_rfl
 obtain⟨k,rfl⟩:=Int.eq_ofNat_of_zero_le h0;exact of_decide_eq_true (List.all_eq_true.1 h k (List.mem_range.2 (by omega)))
theorem aaJ:∀fl:Int,0<=fl->fl<8->bits .or .i64 fl 8=fl+8:=fun fl h0 h1=>by
 have h:(List.range 8).all (fun n=>decide (bits .or .i64 (n:Int) 8=(n:Int)+8))=true:=by kernel_rfl
 obtain⟨k,rfl⟩:=Int.eq_ofNat_of_zero_le h0;exact of_decide_eq_true (List.all_eq_true.1 h k (List.mem_range.2 (by omega)))
theorem NH:∀fl:Int,0<=fl->fl<16->bits .or .i64 fl 16=fl+16:=fun fl h0 h1=>by
 have h:(List.range 16).all (fun n=>decide (bits .or .i64 (n:Int) 16=(n:Int)+16))=true:=by kernel_rfl
 obtain⟨k,rfl⟩:=Int.eq_ofNat_of_zero_le h0;exact of_decide_eq_true (List.all_eq_true.1 h k (List.mem_range.2 (by omega)))
theorem Yn:∀fl:Int,0<=fl->fl<32->bits .or .i64 fl 32=fl+32:=fun fl h0 h1=>by
 have h:(List.range 32).all (fun n=>decide (bits .or .i64 (n:Int) 32=(n:Int)+32))=true:=by kernel_rfl
 obtain⟨k,rfl⟩:=Int.eq_ofNat_of_zero_le h0;exact of_decide_eq_true (List.all_eq_true.1 h k (List.mem_range.2 (by omega)))
theorem F7:∀fl:Int,0<=fl->fl<64->bits .or .i64 fl 1024=fl+1024:=fun fl h0 h1=>by
 have h:(List.range 64).all (fun n=>decide (bits .or .i64 (n:Int) 1024=(n:Int)+1024))=true:=by kernel_rfl
 obtain⟨k,rfl⟩:=Int.eq_ofNat_of_zero_le h0;exact of_decide_eq_true (List.all_eq_true.1 h k (List.mem_range.2 (by omega)))
theorem XS:gV Tryz.prog 155=some 3:=by kernel_rfl
theorem UY:eV Tryz.prog 3=some [.v (.int .i64 0)]:=by kernel_rfl
attribute [go_sem] XS UY
theorem fp (p:Int×List UInt8) (q:List (Int×List UInt8)) (fl:Int) (l:List Tk):bl (p::q) fl l=if aA p.2 l=true then bl q (fl+p.1) l.tail else bl q fl l:=rfl
structure ModR (ts:List Tk) (q:List (Int×List UInt8)) (fl0:Int) (s:PSt) (v:Int) (s' :PSt):Prop where
 inv:Inv ts s'
 mono:s.i<=s'.i
 fl:s'.fl=s.fl
 same:s.fl=true->s' =s
 val:bl q fl0 (ts.drop s.i)=(v,ts.drop s'.i)
section
variable {ts:List Tk} {en:Int} {s:PSt}
theorem PO (hT:TsB ts) (hI:Inv ts s) (m:Mem):FnH Tryz.prog 127 [.box 0 0] (pH ts en s) m fun r H' m' =>ak m m' /\∃fl s',r= .v (.int .i64 fl)/\(0<=fl/\fl<2048)/\H' =pH ts en s' /\ModR ts br 0 s fl s' :=by
 refine aH aw Tryz.func127 ?_
 ·simp only[go_sem];refine cK aw (fun y:Nat×PSt×Int×Mem=>⟨[⟨0,[],.box 0 0⟩,⟨3,[],.v (.int .i64 y.2.2.1)⟩,⟨6,[],.vec 2 0⟩,⟨7,[],.v (.int .i64 7)⟩,⟨8,[],.v (.int .i64 y.1)⟩],[],[lu en y.2.1],[⟨2,0,9,1,7,[.string (bs [112,117,98,108,105,99]),.string (bs [112,114,105,118,97,116,101]),.string (bs [112,114,111,116,101,99,116,101,100]),.string (bs [115,116,97,116,105,99]),.string (bs [102,105,110,97,108]),.string (bs [115,121,110,99]),.string (bs [97,98,115,116,114,97,99,116])]⟩,jJ ts],40,y.2.2.2⟩)
   (fun y=>ak m y.2.2.2/\y.1<=7/\Inv ts y.2.1/\s.i<=y.2.1.i/\y.2.1.fl=s.fl/\(s.fl=true->y.2.1=s)/\(0<=y.2.2.1/\y.2.2.1<2048/\(y.1<=6->y.2.2.1<2 ^ y.1))/\bl (br.drop y.1) y.2.2.1 (ts.drop y.2.1.i)=bl br 0 (ts.drop s.i))
   (fun y=>7 - y.1) (0,s,0,m) (fun _ _=>dO rfl) (fun y hy=>hy.1) ?_ ?_ ?_
  ·simp only[go_sem];exact⟨rfl,rfl⟩
  ·exact⟨.inl rfl,au _,hI,aq _,rfl,fun _=>rfl,⟨by dsimp only;omega,by dsimp only;omega,fun _=>by dsimp only;omega⟩,rfl⟩
  ·rintro⟨i,s1,fl,m1⟩ ⟨q1,q2,q3,q4,q5,q6,⟨q7,q8,q9⟩,q10⟩;dsimp only at q1 q2 q3 q4 q5 q6 q7 q8 q9 q10;have hs:i=0\/i=1\/i=2\/i=3\/i=4\/i=5\/i=6\/i=7:=by omega
   rcases hs with rfl |rfl |rfl |rfl |rfl |rfl |rfl |rfl
   ·have lY:fl<1:=q9 (by decide);have oT:=aaM fl q7 lY;by_cases hc:ai ts s1.i [112,117,98,108,105,99]=true
    ·have ha:=cZ (en:=en) hT hc;have hi:=aN hc;simp only[go_sem];refine⟨fun _=>⟨⟨by decide,by decide⟩,by kernel_rfl,cE ((ha m1).mono ?_)⟩,fun h=>absurd (by decide) h⟩;clear ha;rintro r H' m2 aG ⟨l2,rfl,rfl⟩;simp only[go_sem,oT];refine⟨⟨by decide,by decide⟩,⟨by decide,by decide⟩,(1,s1.next,fl+1,m2),⟨⟨rfl,rfl⟩,⟨rfl,rfl,rfl⟩,.inl rfl⟩,⟨aa q1 l2,(by decide:1<=7),q3.next hi,Nat.le_succ_of_le q4,q5,fun h=> ?_,⟨by dsimp only;omega,by dsimp only;omega,fun h=> ?_⟩,?_⟩,(by decide:7 - 1<7 - 0)⟩
     ·have h1:=q3.nfl hi;rw[q5,h] at h1;cases h1
     ·first |(exact absurd h (by decide:¬7<=6)) |(dsimp only;omega)
     ·rw[show br.drop 0=(1,[112,117,98,108,105,99])::br.drop 1 from rfl,fp,ah (by rw[<- an];exact hc),<- bk] at q10;exact q10
    ·have ha:=da (en:=en) hT hc;simp only[go_sem];refine⟨fun _=>⟨⟨by decide,by decide⟩,by kernel_rfl,cE ((ha m1).mono ?_)⟩,fun h=>absurd (by decide) h⟩;clear ha;rintro r H' m2 aG ⟨l2,rfl,rfl⟩;simp only[go_sem];refine⟨⟨by decide,by decide⟩,(1,s1,fl,m2),⟨⟨rfl,rfl⟩,⟨rfl,rfl,rfl⟩,.inl rfl⟩,⟨aa q1 l2,(by decide:1<=7),q3,q4,q5,q6,⟨q7,q8,fun h=> ?_⟩,?_⟩,(by decide:7 - 1<7 - 0)⟩
     ·first |(exact absurd h (by decide:¬7<=6)) |(dsimp only;omega)
     ·rw[show br.drop 0=(1,[112,117,98,108,105,99])::br.drop 1 from rfl,fp,ae (by rw[<- an];exact hc)] at q10;exact q10
   ·have lY:fl<2:=q9 (by decide);have oT:=aaL fl q7 lY;by_cases hc:ai ts s1.i [112,114,105,118,97,116,101]=true
    ·have ha:=cZ (en:=en) hT hc;have hi:=aN hc;simp only[go_sem];refine⟨fun _=>⟨⟨by decide,by decide⟩,by kernel_rfl,cE ((ha m1).mono ?_)⟩,fun h=>absurd (by decide) h⟩;clear ha;rintro r H' m2 aG ⟨l2,rfl,rfl⟩;simp only[go_sem,oT];refine⟨⟨by decide,by decide⟩,⟨by decide,by decide⟩,(2,s1.next,fl+2,m2),⟨⟨rfl,rfl⟩,⟨rfl,rfl,rfl⟩,.inl rfl⟩,⟨aa q1 l2,(by decide:2<=7),q3.next hi,Nat.le_succ_of_le q4,q5,fun h=> ?_,⟨by dsimp only;omega,by dsimp only;omega,fun h=> ?_⟩,?_⟩,(by decide:7 - 2<7 - 1)⟩
     ·have h1:=q3.nfl hi;rw[q5,h] at h1;cases h1
     ·first |(exact absurd h (by decide:¬7<=6)) |(dsimp only;omega)
     ·rw[show br.drop 1=(2,[112,114,105,118,97,116,101])::br.drop 2 from rfl,fp,ah (by rw[<- an];exact hc),<- bk] at q10;exact q10
    ·have ha:=da (en:=en) hT hc;simp only[go_sem];refine⟨fun _=>⟨⟨by decide,by decide⟩,by kernel_rfl,cE ((ha m1).mono ?_)⟩,fun h=>absurd (by decide) h⟩;clear ha;rintro r H' m2 aG ⟨l2,rfl,rfl⟩;simp only[go_sem];refine⟨⟨by decide,by decide⟩,(2,s1,fl,m2),⟨⟨rfl,rfl⟩,⟨rfl,rfl,rfl⟩,.inl rfl⟩,⟨aa q1 l2,(by decide:2<=7),q3,q4,q5,q6,⟨q7,q8,fun h=> ?_⟩,?_⟩,(by decide:7 - 2<7 - 1)⟩
     ·first |(exact absurd h (by decide:¬7<=6)) |(dsimp only;omega)
     ·rw[show br.drop 1=(2,[112,114,105,118,97,116,101])::br.drop 2 from rfl,fp,ae (by rw[<- an];exact hc)] at q10;exact q10
   ·have lY:fl<4:=q9 (by decide);have oT:=aaK fl q7 lY;by_cases hc:ai ts s1.i [112,114,111,116,101,99,116,101,100]=true
    ·have ha:=cZ (en:=en) hT hc;have hi:=aN hc;simp only[go_sem];refine⟨fun _=>⟨⟨by decide,by decide⟩,by kernel_rfl,cE ((ha m1).mono ?_)⟩,fun h=>absurd (by decide) h⟩;clear ha;rintro r H' m2 aG ⟨l2,rfl,rfl⟩;simp only[go_sem,oT];refine⟨⟨by decide,by decide⟩,⟨by decide,by decide⟩,(3,s1.next,fl+4,m2),⟨⟨rfl,rfl⟩,⟨rfl,rfl,rfl⟩,.inl rfl⟩,⟨aa q1 l2,(by decide:3<=7),q3.next hi,Nat.le_succ_of_le q4,q5,fun h=> ?_,⟨by dsimp only;omega,by dsimp only;omega,fun h=> ?_⟩,?_⟩,(by decide:7 - 3<7 - 2)⟩
     ·have h1:=q3.nfl hi;rw[q5,h] at h1;cases h1
     ·first |(exact absurd h (by decide:¬7<=6)) |(dsimp only;omega)
     ·rw[show br.drop 2=(4,[112,114,111,116,101,99,116,101,100])::br.drop 3 from rfl,fp,ah (by rw[<- an];exact hc),<- bk] at q10;exact q10
    ·have ha:=da (en:=en) hT hc;simp only[go_sem];refine⟨fun _=>⟨⟨by decide,by decide⟩,by kernel_rfl,cE ((ha m1).mono ?_)⟩,fun h=>absurd (by decide) h⟩;clear ha;rintro r H' m2 aG ⟨l2,rfl,rfl⟩;simp only[go_sem];refine⟨⟨by decide,by decide⟩,(3,s1,fl,m2),⟨⟨rfl,rfl⟩,⟨rfl,rfl,rfl⟩,.inl rfl⟩,⟨aa q1 l2,(by decide:3<=7),q3,q4,q5,q6,⟨q7,q8,fun h=> ?_⟩,?_⟩,(by decide:7 - 3<7 - 2)⟩
     ·first |(exact absurd h (by decide:¬7<=6)) |(dsimp only;omega)
     ·rw[show br.drop 2=(4,[112,114,111,116,101,99,116,101,100])::br.drop 3 from rfl,fp,ae (by rw[<- an];exact hc)] at q10;exact q10
   ·have lY:fl<8:=q9 (by decide);have oT:=aaJ fl q7 lY;by_cases hc:ai ts s1.i [115,116,97,116,105,99]=true
    ·have ha:=cZ (en:=en) hT hc;have hi:=aN hc;simp only[go_sem];refine⟨fun _=>⟨⟨by decide,by decide⟩,by kernel_rfl,cE ((ha m1).mono ?_)⟩,fun h=>absurd (by decide) h⟩;clear ha;rintro r H' m2 aG ⟨l2,rfl,rfl⟩;simp only[go_sem,oT];refine⟨⟨by decide,by decide⟩,⟨by decide,by decide⟩,(4,s1.next,fl+8,m2),⟨⟨rfl,rfl⟩,⟨rfl,rfl,rfl⟩,.inl rfl⟩,⟨aa q1 l2,(by decide:4<=7),q3.next hi,Nat.le_succ_of_le q4,q5,fun h=> ?_,⟨by dsimp only;omega,by dsimp only;omega,fun h=> ?_⟩,?_⟩,(by decide:7 - 4<7 - 3)⟩
     ·have h1:=q3.nfl hi;rw[q5,h] at h1;cases h1
     ·first |(exact absurd h (by decide:¬7<=6)) |(dsimp only;omega)
     ·rw[show br.drop 3=(8,[115,116,97,116,105,99])::br.drop 4 from rfl,fp,ah (by rw[<- an];exact hc),<- bk] at q10;exact q10
    ·have ha:=da (en:=en) hT hc;simp only[go_sem];refine⟨fun _=>⟨⟨by decide,by decide⟩,by kernel_rfl,cE ((ha m1).mono ?_)⟩,fun h=>absurd (by decide) h⟩;clear ha;rintro r H' m2 aG ⟨l2,rfl,rfl⟩;simp only[go_sem];refine⟨⟨by decide,by decide⟩,(4,s1,fl,m2),⟨⟨rfl,rfl⟩,⟨rfl,rfl,rfl⟩,.inl rfl⟩,⟨aa q1 l2,(by decide:4<=7),q3,q4,q5,q6,⟨q7,q8,fun h=> ?_⟩,?_⟩,(by decide:7 - 4<7 - 3)⟩
     ·first |(exact absurd h (by decide:¬7<=6)) |(dsimp only;omega)
     ·rw[show br.drop 3=(8,[115,116,97,116,105,99])::br.drop 4 from rfl,fp,ae (by rw[<- an];exact hc)] at q10;exact q10
   ·have lY:fl<16:=q9 (by decide);have oT:=NH fl q7 lY;by_cases hc:ai ts s1.i [102,105,110,97,108]=true
    ·have ha:=cZ (en:=en) hT hc;have hi:=aN hc;simp only[go_sem];refine⟨fun _=>⟨⟨by decide,by decide⟩,by kernel_rfl,cE ((ha m1).mono ?_)⟩,fun h=>absurd (by decide) h⟩;clear ha;rintro r H' m2 aG ⟨l2,rfl,rfl⟩;simp only[go_sem,oT];refine⟨⟨by decide,by decide⟩,⟨by decide,by decide⟩,(5,s1.next,fl+16,m2),⟨⟨rfl,rfl⟩,⟨rfl,rfl,rfl⟩,.inl rfl⟩,⟨aa q1 l2,(by decide:5<=7),q3.next hi,Nat.le_succ_of_le q4,q5,fun h=> ?_,⟨by dsimp only;omega,by dsimp only;omega,fun h=> ?_⟩,?_⟩,(by decide:7 - 5<7 - 4)⟩
     ·have h1:=q3.nfl hi;rw[q5,h] at h1;cases h1
     ·first |(exact absurd h (by decide:¬7<=6)) |(dsimp only;omega)
     ·rw[show br.drop 4=(16,[102,105,110,97,108])::br.drop 5 from rfl,fp,ah (by rw[<- an];exact hc),<- bk] at q10;exact q10
    ·have ha:=da (en:=en) hT hc;simp only[go_sem];refine⟨fun _=>⟨⟨by decide,by decide⟩,by kernel_rfl,cE ((ha m1).mono ?_)⟩,fun h=>absurd (by decide) h⟩;clear ha;rintro r H' m2 aG ⟨l2,rfl,rfl⟩;simp only[go_sem];refine⟨⟨by decide,by decide⟩,(5,s1,fl,m2),⟨⟨rfl,rfl⟩,⟨rfl,rfl,rfl⟩,.inl rfl⟩,⟨aa q1 l2,(by decide:5<=7),q3,q4,q5,q6,⟨q7,q8,fun h=> ?_⟩,?_⟩,(by decide:7 - 5<7 - 4)⟩
     ·first |(exact absurd h (by decide:¬7<=6)) |(dsimp only;omega)
     ·rw[show br.drop 4=(16,[102,105,110,97,108])::br.drop 5 from rfl,fp,ae (by rw[<- an];exact hc)] at q10;exact q10
   ·have lY:fl<32:=q9 (by decide);have oT:=Yn fl q7 lY;by_cases hc:ai ts s1.i [115,121,110,99]=true
    ·have ha:=cZ (en:=en) hT hc;have hi:=aN hc;simp only[go_sem];refine⟨fun _=>⟨⟨by decide,by decide⟩,by kernel_rfl,cE ((ha m1).mono ?_)⟩,fun h=>absurd (by decide) h⟩;clear ha;rintro r H' m2 aG ⟨l2,rfl,rfl⟩;simp only[go_sem,oT];refine⟨⟨by decide,by decide⟩,⟨by decide,by decide⟩,(6,s1.next,fl+32,m2),⟨⟨rfl,rfl⟩,⟨rfl,rfl,rfl⟩,.inl rfl⟩,⟨aa q1 l2,(by decide:6<=7),q3.next hi,Nat.le_succ_of_le q4,q5,fun h=> ?_,⟨by dsimp only;omega,by dsimp only;omega,fun h=> ?_⟩,?_⟩,(by decide:7 - 6<7 - 5)⟩
     ·have h1:=q3.nfl hi;rw[q5,h] at h1;cases h1
     ·first |(exact absurd h (by decide:¬7<=6)) |(dsimp only;omega)
     ·rw[show br.drop 5=(32,[115,121,110,99])::br.drop 6 from rfl,fp,ah (by rw[<- an];exact hc),<- bk] at q10;exact q10
    ·have ha:=da (en:=en) hT hc;simp only[go_sem];refine⟨fun _=>⟨⟨by decide,by decide⟩,by kernel_rfl,cE ((ha m1).mono ?_)⟩,fun h=>absurd (by decide) h⟩;clear ha;rintro r H' m2 aG ⟨l2,rfl,rfl⟩;simp only[go_sem];refine⟨⟨by decide,by decide⟩,(6,s1,fl,m2),⟨⟨rfl,rfl⟩,⟨rfl,rfl,rfl⟩,.inl rfl⟩,⟨aa q1 l2,(by decide:6<=7),q3,q4,q5,q6,⟨q7,q8,fun h=> ?_⟩,?_⟩,(by decide:7 - 6<7 - 5)⟩
     ·first |(exact absurd h (by decide:¬7<=6)) |(dsimp only;omega)
     ·rw[show br.drop 5=(32,[115,121,110,99])::br.drop 6 from rfl,fp,ae (by rw[<- an];exact hc)] at q10;exact q10
   ·have lY:fl<64:=q9 (by decide);have oT:=F7 fl q7 lY;by_cases hc:ai ts s1.i [97,98,115,116,114,97,99,116]=true
    ·have ha:=cZ (en:=en) hT hc;have hi:=aN hc;simp only[go_sem];refine⟨fun _=>⟨⟨by decide,by decide⟩,by kernel_rfl,cE ((ha m1).mono ?_)⟩,fun h=>absurd (by decide) h⟩;clear ha;rintro r H' m2 aG ⟨l2,rfl,rfl⟩;simp only[go_sem,oT];refine⟨⟨by decide,by decide⟩,⟨by decide,by decide⟩,(7,s1.next,fl+1024,m2),⟨⟨rfl,rfl⟩,⟨rfl,rfl,rfl⟩,.inl rfl⟩,⟨aa q1 l2,(by decide:7<=7),q3.next hi,Nat.le_succ_of_le q4,q5,fun h=> ?_,⟨by dsimp only;omega,by dsimp only;omega,fun h=> ?_⟩,?_⟩,(by decide:7 - 7<7 - 6)⟩
     ·have h1:=q3.nfl hi;rw[q5,h] at h1;cases h1
     ·first |(exact absurd h (by decide:¬7<=6)) |(dsimp only;omega)
     ·rw[show br.drop 6=(1024,[97,98,115,116,114,97,99,116])::br.drop 7 from rfl,fp,ah (by rw[<- an];exact hc),<- bk] at q10;exact q10
    ·have ha:=da (en:=en) hT hc;simp only[go_sem];refine⟨fun _=>⟨⟨by decide,by decide⟩,by kernel_rfl,cE ((ha m1).mono ?_)⟩,fun h=>absurd (by decide) h⟩;clear ha;rintro r H' m2 aG ⟨l2,rfl,rfl⟩;simp only[go_sem];refine⟨⟨by decide,by decide⟩,(7,s1,fl,m2),⟨⟨rfl,rfl⟩,⟨rfl,rfl,rfl⟩,.inl rfl⟩,⟨aa q1 l2,(by decide:7<=7),q3,q4,q5,q6,⟨q7,q8,fun h=> ?_⟩,?_⟩,(by decide:7 - 7<7 - 6)⟩
     ·first |(exact absurd h (by decide:¬7<=6)) |(dsimp only;omega)
     ·rw[show br.drop 6=(1024,[97,98,115,116,114,97,99,116])::br.drop 7 from rfl,fp,ae (by rw[<- an];exact hc)] at q10;exact q10
   ·simp only[go_sem];refine⟨fun h=>absurd h (by decide),fun _=>⟨aa (.inl rfl) q1,fl,s1,rfl,⟨q7,q8⟩,rfl,q3,q4,q5,q6,q10.symm⟩⟩
end
theorem abS:mY Tryz.prog 160=48:=by kernel_rfl
attribute [go_sem] abS
abbrev ach (ts:List Tk) (en:Int) (s:PSt) (K:PR (List (List UInt8))) (m:Mem):SV->Hp->Mem->Prop:=fun r H' m' =>ak m m' /\∃(l:List (List UInt8)) (a:Option Addr) (c:Nat) (s' :PSt),r= .v (.slice a l.length c)/\l.length<=c/\l.length<=1000001/\aM m' a l.length 1 (strs l)/\(∀w∈l,w.length<=1000000)/\H' =pH ts en s' /\Res ts en s K l s'
abbrev acd (ts:List Tk) (en:Int) (s:PSt) (K:PR (List Pc)) (m:Mem):SV->Hp->Mem->Prop:=fun r H' m' =>ak m m' /\∃(l:List Pc) (a:Option Addr) (c:Nat) (s' :PSt),r= .v (.slice a l.length c)/\l.length<=c/\l.length<=1000001/\aM m' a l.length 4 (flat Pc.cs l)/\(∀p∈l,PcOk p)/\H' =pH ts en s' /\Res ts en s K l s'
noncomputable def Oo (l:List Tk):PR (List (List UInt8)):=ar (fO l) fun s r=>xQ [s] r
theorem RS (l:List (List UInt8)) (w:List UInt8):strs (l++[w])=strs l++[.string (bs w)]:=by simp [strs]
theorem B9 {α:Type} (f:α->List Value) (l:List α) (x:α):flat f (l++[x])=flat f l++f x:=by simp [flat]
theorem Cr {α:Type} {p:α->Prop} {l:List α} {x:α} (h:∀y∈l,p y) (hx:p x):∀y∈l++[x],p y:=fun y hy=>by
 rcases List.mem_append.1 hy with h1 |h1
 ·exact h y h1
 ·rw[List.mem_singleton.1 h1];exact hx
section
variable {ts:List Tk} {en:Int} {s:PSt}
theorem yU (hT:TsB ts) (hI:Inv ts s) (m:Mem):FnH Tryz.prog 51 [.box 0 0] (pH ts en s) m (ach ts en s (Oo (ts.drop s.i)) m):=by
 have h1:=fun m' =>n9 ts en s m' hT hI
 refine jv (aH aw Tryz.func51 ?_)
 ·simp only[go_sem];refine ab ((h1 m).mono ?_);clear h1;rintro r H' m1 aJ ⟨l1,w,s1,rfl,hw,rfl,dw⟩;simp only[go_sem];refine cK aw (fun y:PSt×List (List UInt8)×Nat×Mem=>⟨[⟨0,[],.box 0 0⟩,⟨3,[],.vec 4 y.2.2.1⟩],[],[lu en y.1],[⟨4,y.2.2.1,9,1,y.2.1.length,strs y.2.1⟩,jJ ts],40,y.2.2.2⟩)
   (fun y=>ak m1 y.2.2.2/\Inv ts y.1/\y.2.1.length<=y.1.i+1/\(∀w∈y.2.1,w.length<=1000000)/\∀a s',Res ts en y.1 (xQ y.2.1 (ts.drop y.1.i)) a s' ->Res ts en s (Oo (ts.drop s.i)) a s')
   (fun y=>ts.length - y.1.i) (s1,[w],0,m1) (fun _ _=>dO rfl) (fun y hy=>hy.1) ?_ ?_ ?_
  ·simp only[go_sem];exact rfl
  ·exact⟨.inl rfl,dw.inv,by simp,fun x hx=>by rw[List.mem_singleton.1 hx];exact hw,fun a s' h=>aO dw h⟩
  ·rintro⟨s4,l,u,m4⟩ ⟨q1,q2,q3,q4,q5⟩;dsimp only at q1 q2 q3 q4 q5;have hl:=hT.len;have dJ:=q2.le;by_cases hc:ai ts s4.i [44]=true
   ·have ha:=cZ (en:=en) hT hc;have hi:=aN hc;have fk:=q2.next hi;have hb:=fun m' =>n9 ts en s4.next m' hT fk
    simp only[go_sem];refine ab ((ha m4).mono ?_);clear ha;rintro r H' m5 b9 ⟨l5,rfl,rfl⟩;simp only[go_sem];refine ab ((hb m5).mono ?_);clear hb;rintro r H' m6 ej ⟨l6,w6,s6,rfl,yE,rfl,hR6⟩;have rC:=hR6.mono;have qK:s4.next.i=s4.i+1:=rfl;simp only[go_sem];refine⟨gD (by omega) (by decide),(s6,l++[w6],u+1,m6),⟨rfl,⟨rfl,rfl,rfl⟩,⟨rfl,by simp,(RS l w6).symm⟩,.inl rfl⟩,⟨aa q1 (aa l5 l6),hR6.inv,by simp only[bY,fI];omega,Cr q4 yE,fun a s' h=>q5 a s' ?_⟩,by dsimp only;omega⟩;rw[Kl,ah (by rw[<- an];exact hc),<- bk];exact bt q2 hi (aO hR6 h)
   ·have ha:=da (en:=en) hT hc;simp only[go_sem];refine ab ((ha m4).mono ?_);clear ha;rintro r H' m5 b9 ⟨l5,rfl,rfl⟩;simp only[go_sem];refine zF (b:=⟨4,u,9,1,l.length,strs l⟩) (by simp [cS]) (pH ts en s4) (List.Sublist.refl _) (.cons_cons _ (List.nil_sublist _)) fun a c mm w1 w2 w3=>⟨aa (aa l1 q1) (aa l5 (.inr w1)),l,a,c,s4,rfl,w2,by omega,w3,q4,rfl,q5 _ _ ?_⟩
    rw[Kl,ae (by rw[<- an];exact hc)];exact bI _ q2
theorem xe (hT:TsB ts) (hI:Inv ts s) (m:Mem):FnH Tryz.prog 129 [.box 0 0] (pH ts en s) m (acd ts en s (sd (ts.drop s.i)) m):=by
 have h1:=fun m' =>ee ts en s [40] m' hT.l8
 have tA:Inv ts (aQ ts en s [40]):=eo hI;by_cases hc:ai ts (aQ ts en s [40]).i [41]=true
 ·have h2:=cZ (en:=en) hT hc;have hi:=aN hc;refine jv (aH aw Tryz.func129 ?_)
  ·simp only[go_sem];refine ab ((h1 m).mono ?_);clear h1;rintro r H' m1 aJ ⟨l1,rfl,rfl⟩;simp only[go_sem];refine ab ((h2 m1).mono ?_);clear h2;rintro r H' m2 aG ⟨l2,rfl,rfl⟩;simp only[go_sem];refine .inl ⟨aa l1 l2,[],none,0,_,rfl,aq _,au _,cv _ _,fun p hp=>(by cases hp),rfl,?_⟩;unfold sd;refine dn hI ?_;rw[<- an,ah hc,<- bk];exact bt tA hi (bI _ (tA.next hi))
 ·have h2:=da (en:=en) hT hc;refine jv (aH aw Tryz.func129 ?_)
  ·simp only[go_sem];refine ab ((h1 m).mono ?_);clear h1;rintro r H' m1 aJ ⟨l1,rfl,rfl⟩;simp only[go_sem];refine ab ((h2 m1).mono ?_);clear h2;rintro r H' m2 aG ⟨l2,rfl,rfl⟩;simp only[go_sem];refine qV 3 160 4 (by decide) rfl ?_;refine cK aw (fun y:PSt×Bool×List Pc×Nat×Mem=>⟨[⟨0,[],.box 0 0⟩,⟨3,[],.vec 6 y.2.2.2.1⟩,⟨4,[],.v (.bool y.2.1)⟩],[],[lu en y.1],[⟨6,y.2.2.2.1,160,4,y.2.2.1.length,flat Pc.cs y.2.2.1⟩,jJ ts],40,y.2.2.2.2⟩)
    (fun y=>ak m2 y.2.2.2.2/\Inv ts y.1/\(y.2.2.1.length<=y.1.i+(if y.2.1=true then 0 else 1))/\(∀p∈y.2.2.1,PcOk p)/\
     (y.2.1=true->∀a s',Res ts en y.1 (ar (fr (ts.drop y.1.i)) fun t r=>ar (cW r) fun w r2=>zW (y.2.2.1++[⟨t,w⟩]) r2) a s' ->Res ts en s (sd (ts.drop s.i)) a s')/\
     (y.2.1=false->∀a s',Res ts en y.1 (aR [41] (ts.drop y.1.i) fun r=> .ok (y.2.2.1,r)) a s' ->Res ts en s (sd (ts.drop s.i)) a s'))
    (fun y=>if y.2.1=true then ts.length - y.1.i+1 else 0) (aQ ts en s [40],true,[],0,m2) (fun _ _=>dO rfl) (fun y hy=>hy.1) ?_ ?_ ?_
   ·simp only[go_sem];exact rfl
   ·refine⟨.inl rfl,tA,au _,fun p hp=>(by cases hp),fun _ a s' h=> ?_,fun h=>(by cases h)⟩;unfold sd;refine dn hI ?_;rw[<- an,ae hc];exact h
   ·rintro⟨s4,b,l,u,m4⟩ ⟨q1,q2,q3,q4,q5,q6⟩;dsimp only at q1 q2 q3 q4 q5 q6;have hl:=hT.len;have dJ:=q2.le;cases b with
    |true=>
     rw[ah rfl] at q3;have hb:=fun m' =>vq ts en s4 m' hT q2
     simp only[go_sem];refine ab ((hb m4).mono ?_);clear hb;rintro r H' m5 b9 ⟨l5,t,s5,rfl,ht,hu,rfl,hR5⟩;have AL:=hR5.mono;have hb:=fun m' =>pR ts en s5 m' hT hR5.inv
     simp only[go_sem];refine cw (.hoist 0 (.hoist 1 (.hoist 2 (.alt 3 [1,0] (.hoist 4 (.alt 5 [0] (.alt 6 [] (.hoist 7 .done) .stop) .stop)) .stop)))) aw (by kernel_rfl) (by kernel_rfl) ?_;simp only[go_sem];refine ab ((hb m5).mono ?_);clear hb;rintro r H' m6 ej ⟨l6,w6,s6,rfl,yE,rfl,hR6⟩;have rC:=hR6.mono;have yG:PcOk ⟨t,w6⟩:=⟨ht,by unfold az;dsimp only;omega⟩;have aeG:=hR6.inv.le;simp only[go_sem];refine⟨⟨l6,l6⟩,l6,gD (by omega) (by decide),?_⟩;by_cases h44:ai ts s6.i [44]=true
     ·have ha:=cZ (en:=en) hT h44;have hi:=aN h44;have hn:s6.next.i=s6.i+1:=rfl;refine ab ((ha m6).mono ?_);clear ha;rintro r H' m7 gb ⟨l7,rfl,rfl⟩;simp only[go_sem];refine⟨(s6.next,true,l++[⟨t,w6⟩],u+1,m7),⟨⟨rfl,rfl⟩,⟨rfl,rfl,rfl⟩,⟨rfl,by simp,by rw[B9];rfl⟩,.inl rfl⟩,⟨aa q1 (aa l5 (aa l6 l7)),hR6.inv.next hi,?_,Cr q4 yG,fun _ a s' h=>q5 rfl a s' ?_,fun h=>(by cases h)⟩,?_⟩
      ·dsimp only;rw[ah rfl,bY,fI];omega
      ·refine aO hR5 (aO hR6 ?_);rw[JR,ah (by rw[<- an];exact h44),<- bk];exact bt hR6.inv hi h
      ·dsimp only;try rw[ah rfl]
       omega
     ·have ha:=da (en:=en) hT h44;refine ab ((ha m6).mono ?_);clear ha;rintro r H' m7 gb ⟨l7,rfl,rfl⟩;simp only[go_sem];refine⟨(s6,false,l++[⟨t,w6⟩],u+1,m7),⟨⟨rfl,rfl⟩,⟨rfl,rfl,rfl⟩,⟨rfl,by simp,by rw[B9];rfl⟩,.inl rfl⟩,⟨aa q1 (aa l5 (aa l6 l7)),hR6.inv,?_,Cr q4 yG,fun h=>(by cases h),fun _ a s' h=>q5 rfl a s' ?_⟩,?_⟩
      ·dsimp only;rw[ae (by decide),bY,fI];omega
      ·refine aO hR5 (aO hR6 ?_);rw[JR,ae (by rw[<- an];exact h44)];exact h
      ·dsimp only;rw[ae (by decide)];omega
    |false=>
     rw[ae (by decide)] at q3;have hb:=fun m' =>ee ts en s4 [41] m' hT.l8
     simp only[go_sem];refine ab ((hb m4).mono ?_);clear hb;rintro r H' m5 b9 ⟨l5,rfl,rfl⟩;simp only[go_sem];exact zF (b:=⟨6,u,160,4,l.length,flat Pc.cs l⟩) (by simp [cS]) (pH ts en (aQ ts en s4 [41])) (List.Sublist.refl _) (.cons_cons _ (List.nil_sublist _)) fun a c mm w1 w2 w3=>⟨aa (aa l1 l2) (aa q1 (aa l5 (.inr w1))),l,a,c,_,rfl,w2,by omega,w3,q4,rfl,q6 rfl _ _ (dn q2 (bI _ (eo q2)))⟩
end
theorem abV:mY Tryz.prog 94=56:=by kernel_rfl
theorem abT:mY Tryz.prog 98=112:=by kernel_rfl
attribute [go_sem] abV abT
structure DSt where
 d:Cd
 ia:Option Addr
 ic:Nat
 uf:Nat
 um:Nat
 ui:Nat
 ms:List Value
 is:List Value
abbrev mH (ts:List Tk) (en:Int) (s:PSt) (y:DSt):Hp:=⟨[⟨0,62,[.vec 2 0,.v (.int .i64 s.i),.v (.int .i64 en),.v (.bool s.fl),.v (.int .i64 s.off)]⟩,
  ⟨1,59,[.v (.int .i64 y.d.fl),.v (.string (bs y.d.name)),.v (.string (bs y.d.super)),.v (.slice y.ia y.d.ifs.length y.ic),.vec 3 y.uf,.vec 4 y.um,.vec 5 y.ui]⟩],
 [⟨2,0,50,4,ts.length,cG ts⟩,⟨3,y.uf,94,5,y.d.fields.length,flat Fc.cs y.d.fields⟩,⟨4,y.um,98,8,y.d.methods.length,y.ms⟩,⟨5,y.ui,73,23,y.d.init.length,y.is⟩]⟩
structure DOk (m:Mem) (y:DSt) (n:Nat):Prop where
 msl:y.ms.length=y.d.methods.length * 8
 msr:nF (iD m) 8 y.d.methods y.ms
 isl:y.is.length=y.d.init.length * 23
 isr:bj m y.d.init y.is
 fs:∀f∈y.d.fields,FcOk f
 fn:y.d.fields.length<=n
 mn:y.d.methods.length<=n
 inn:y.d.init.length<=n
structure Same (y y' :DSt):Prop where
 ia:y'.ia=y.ia
 ic:y'.ic=y.ic
 fl:y'.d.fl=y.d.fl
 name:y'.d.name=y.d.name
 super:y'.d.super=y.d.super
 ifs:y'.d.ifs=y.d.ifs
 uf:y.uf<=y'.uf
 um:y.um<=y'.um
 ui:y.ui<=y'.ui
abbrev Oz (ts:List Tk) (en:Int) (s:PSt) (y:DSt) (K:PR Cd) (m:Mem):SV->Hp->Mem->Prop:=fun r H' m' =>ak m m' /\∃(y' :DSt) (s' :PSt),r= .tup []/\H' =mH ts en s' y' /\Same y y' /\DOk m' y' (s'.i+(if s'.fl=true then 1 else 0))/\Res ts en s K y'.d s'
theorem LG {m:Mem} {l2:List St} {ys:List Value} (h2:bj m l2 ys):∀{l:List St} {xs:List Value},xs.length=l.length * 23->bj m l xs->bj m (l++l2) (xs++ys)
 |[],xs,hl,_=>by
  have:xs=[]:=List.eq_nil_of_length_eq_zero (by simpa using hl);subst this;exact h2
 |y::r,xs,hl,h=>by
  simp only[bj,jt] at h ⊢;simp only[cC] at hl;have h8:23<=xs.length:=by omega
  rw[List.take_append_of_le_length h8,List.drop_append_of_le_length h8];exact⟨h.1,LG h2 (by rw[cj];omega) h.2⟩
theorem Gw {α:Type} {R:α->List Value->Prop} {sz:Nat} {l2:List α} {ys:List Value} (h2:nF R sz l2 ys):∀{l:List α} {xs:List Value},xs.length=l.length * sz->nF R sz l xs->nF R sz (l++l2) (xs++ys)
 |[],xs,hl,_=>by
  have:xs=[]:=List.eq_nil_of_length_eq_zero (by simpa using hl);subst this;exact h2
 |y::r,xs,hl,h=>by
  simp only[nF,jt] at h ⊢;rw[cC,Nat.succ_mul] at hl;have h8:sz<=xs.length:=by omega
  rw[List.take_append_of_le_length h8,List.drop_append_of_le_length h8];exact⟨h.1,Gw h2 (by rw[cj];omega) h.2⟩
theorem W1 {m:Mem} {e:St} {cs:List Value} (h:eH m e cs):∀u∈cs,u.oneCell' =true:=by
 cases e with
 |mk k nm ty tg ex body alt=>
  simp only[eH] at h;obtain⟨x,⟨rfl,_⟩,_⟩:=h;intro u hu;simp only[Sd.cs,List.mem_cons,List.not_mem_nil,or_false] at hu;rcases hu with rfl |rfl |rfl |rfl |rfl |rfl |rfl |rfl |rfl |rfl |rfl |rfl |rfl |rfl |rfl |rfl |rfl |rfl |rfl |rfl |rfl |rfl |rfl<;>rfl
theorem Ky {m:Mem}:∀{es:List St} {xs:List Value},xs.length=es.length * 23->bj m es xs->∀u∈xs,u.oneCell' =true
 |[],xs,hl,_=>by
  have:xs=[]:=List.eq_nil_of_length_eq_zero (by simpa using hl);subst this;intro u hu;cases hu
 |y::r,xs,hl,h=>by
  simp only[bj] at h;simp only[cC] at hl;intro u hu;rw[<- List.take_append_drop 23 xs] at hu;rcases List.mem_append.1 hu with hu |hu
  ·exact W1 h.1 u hu
  ·exact Ky (by rw[cj];omega) h.2 u hu
theorem DOk.up {m m' :Mem} {y:DSt} {n n' :Nat} (h:DOk m y n) (hle:ak m m') (hn:n<=n'):DOk m' y n' :=
 ⟨h.msl,vP (fun _ _=>tI hle) h.msr,h.isl,kz hle h.isr,h.fs,cg h.fn hn,cg h.mn hn,cg h.inn hn⟩
section
variable {ts:List Tk} {en:Int} {s:PSt}
theorem iK {α:Type} {K:PR α} {a:α} {q:List (Int×List UInt8)} {v0 v:Int} {s1 s' :PSt} (hm:ModR ts q v0 s v s1) (h:Res ts en s1 K a s'):Res ts en s K a s' :=
 ⟨h.inv,cg hm.mono h.mono,fun e=>by have e1:=hm.same e;subst e1;exact h.fl e,fun e=>h.ok (by rw[hm.fl];exact e),fun e=>h.er (by rw[hm.fl];exact e)⟩
theorem oa (d:Cd) (l:List Tk):∀x r,fx d (bl br 0 l).1 (bl br 0 l).2= .ok (x,r)->r.length<l.length:=fun x r h=>by
 have g:=(Js d (bl br 0 l).1 (bl br 0 l).2).good;rw[iL (L9 d (bl br 0 l).1 (bl br 0 l).2)] at g;exact dM ((g.ok x r h).2 rfl) (rX br 0 l).length_le
theorem oG {y y' :DSt} {s' :PSt} {K:PR Cd} {m m3:Mem} {H' :Hp} (e:H' =mH ts en s' y') (h:ak m m3/\Same y y' /\DOk m3 y' (s'.i+(if s'.fl=true then 1 else 0))/\Res ts en s K y'.d s'):Oy (Oz ts en s y K m) (.tup []) H' m3:=by
 subst e;exact⟨mH ts en s' y',⟨⟨rfl,rfl,rfl,rfl,trivial⟩,⟨rfl,rfl,rfl,rfl,rfl,rfl,rfl,rfl,trivial⟩⟩,h.1,y',s',rfl,rfl,h.2⟩
theorem xN:nR eA:=⟨⟨by decide,by decide⟩,⟨by decide,by decide⟩,by decide⟩
theorem rj {m:Mem} {v:Int} {ty:Ty} {w:List UInt8} {ps:List Pc} {hb:Bool} {body:List St} {pa a:Option Addr} {pc cp:Nat} {xs:List Value} (hv:0<=v/\v<2048) (ht:nR ty) (hw:w.length<=1000000)
  (km:ps.length<=1000001) (yG:ps.length<=pc) (rN:aM m pa ps.length 4 (flat Pc.cs ps)) (uW:∀p∈ps,PcOk p) (hl:body.length<=1000001) (bb:body.length<=cp) (hr:aM m a body.length 23 xs) (hs:bj m body xs):
  iD m ⟨v,ty,w,ps,hb,body⟩ (Mc.cs ⟨v,ty,w,pa,ps.length,pc,hb,a,body.length,cp⟩):=
 ⟨⟨v,ty,w,pa,ps.length,pc,hb,a,body.length,cp⟩,⟨rfl,rfl,rfl,rfl,rfl⟩,⟨rfl,yG,rfl,bb⟩,⟨by unfold ax;dsimp only;omega,ht,by unfold az;dsimp only;omega,by unfold az;dsimp only;omega,uW,by unfold az;dsimp only;omega⟩,rN,xs,hr,hs⟩
theorem pg {s s' :PSt} (h:s'.fl=true\/s.i<s'.i) (h2:s.i<=s'.i):s.i+1<=s'.i+(if s'.fl=true then 1 else 0):=by
 rcases h with h |h
 ·rw[ah h];omega
 ·omega
theorem DOk.addM {m:Mem} {d:Cd} {ia:Option Addr} {ic uf um ui n n' :Nat} {ms is:List Value} (h:DOk m ⟨d,ia,ic,uf,um,ui,ms,is⟩ n) {x:Md} {cs:List Value} (hx:iD m x cs) (hl:cs.length=8) (hn:n+1<=n'):DOk m ⟨d.addM x,ia,ic,uf,um+1,ui,ms++cs,is⟩ n' :=by
 have h1:=h.msl;have h2:=h.mn;have h3:=h.fn;have h4:=h.inn;dsimp only at h1 h2 h3 h4;refine⟨by simp only[Cd.addM,bY,fI,h1,hl];omega,Gw (l2:=[x]) ⟨by rw[fH (by omega)];exact hx,trivial⟩ h1 h.msr,h.isl,h.isr,h.fs,by show d.fields.length<=n';omega,by simp only[Cd.addM,bY,fI];omega,by show d.init.length<=n';omega⟩
theorem DOk.addF {m:Mem} {d:Cd} {ia:Option Addr} {ic uf um ui n n' :Nat} {ms is:List Value} (h:DOk m ⟨d,ia,ic,uf,um,ui,ms,is⟩ n) {x:Fc} (hx:FcOk x) (hn:n+1<=n'):DOk m ⟨d.addF x,ia,ic,uf+1,um,ui,ms,is⟩ n' :=by
 have h2:=h.mn;have h3:=h.fn;have h4:=h.inn;dsimp only at h2 h3 h4;exact⟨h.msl,h.msr,h.isl,h.isr,Cr h.fs hx,by simp only[Cd.addF,bY,fI];omega,by show d.methods.length<=n';omega,by show d.init.length<=n';omega⟩
theorem DOk.addI {m:Mem} {d:Cd} {ia:Option Addr} {ic uf um ui n n' :Nat} {ms is:List Value} (h:DOk m ⟨d,ia,ic,uf,um,ui,ms,is⟩ n) {l:List St} {ys:List Value} (hx:bj m l ys) (hl:ys.length=l.length * 23) (hn:n+l.length<=n'):DOk m ⟨d.addI l,ia,ic,uf,um,ui+1,ms,is++ys⟩ n' :=by
 have h1:=h.isl;have h2:=h.mn;have h3:=h.fn;have h4:=h.inn;dsimp only at h1 h2 h3 h4;exact⟨h.msl,h.msr,by simp only[Cd.addI,bY,h1,hl];omega,LG hx h1 h.isr,h.fs,by show d.fields.length<=n';omega,by show d.methods.length<=n';omega,by simp only[Cd.addI,bY];omega⟩
theorem Qv (hT:TsB ts) (hI:Inv ts s) (hs:s.fl=false) (y:DSt) (m:Mem) (hy:DOk m y s.i):FnH Tryz.prog 53 [.box 0 0,.box 1 0] (mH ts en s y) m (Oz ts en s y (fx y.d (bl br 0 (ts.drop s.i)).1 (bl br 0 (ts.drop s.i)).2) m):=by
 obtain⟨d,ia,ic,uf,um,ui,ms,is⟩:=y;have O9:=hT.len;have hi0:=hI.le;have h1:=fun m' =>PO (en:=en) hT hI m'
 refine WH (aH aw Tryz.func53 ?_)
 ·simp only[go_sem];refine ab ((h1 m).mono ?_);clear h1;rintro r H' m1 aJ ⟨l1,v,s1,rfl,hv,rfl,hM⟩;simp only[go_sem];refine⟨fun uU=> ?_,fun uU=> ?_⟩
  ·by_cases hbr:ai ts s1.i [123]=true
   ·have q0:=lF (en:=en) hT hbr;refine ab ((q0 m1).mono ?_);clear q0;rintro r H' m2 aG ⟨l2,rfl,rfl⟩;simp only[go_sem];refine cw (.hoist 0 (.hoist 1 (.hoist 2 (.hoist 3 (.hoist 4 (.hoist 5 (.alt 6 [4,3,2,1,0] (.alt 7 [0] (.hoist 8 (.hoist 9 (.alt 10 [] .done .stop))) .stop) .stop))))))) aw (by kernel_rfl) (by kernel_rfl) ?_;simp only[go_sem];have Oe:=hM.mono;have gR:=wW (en:=en) hT hM.inv;refine ab ((gR m2).mono ?_);clear gR;rintro r H' m3 bu ⟨l3,Ov,a21,c21,xs21,OE,rfl,ha21,hb21,hc21,hd21,rfl,hR21⟩;simp only[go_sem];have Dk:=hR21.mono;refine⟨⟨l3,l3,l3,l3,l3⟩,xs21,hc21,Ky hc21.1 hd21,gD (by have h0:=hy.inn;have h1:=hI.le;have h2:=hT.len;have h3:=hb21.2;dsimp only at h0;omega) (by decide),l3,?_⟩;have bM:Res ts en s (fx d (bl br 0 (ts.drop s.i)).1 (bl br 0 (ts.drop s.i)).2) (d.addI Ov) OE:=(by rw[hM.val];exact iK hM (by unfold fx;rw[ah ⟨uU,by rw[<- an];exact hbr⟩];exact aO hR21 (bI _ hR21.inv)));exact oG (y' :=⟨d.addI Ov,ia,ic,uf,um,ui+1,ms,is++xs21⟩) (s' :=OE) (by simp only[mH,Cd.addI,bY]<;>rfl) ⟨(aa l1 (aa l2 l3)),⟨rfl,rfl,rfl,rfl,rfl,rfl,by dsimp only;omega,by dsimp only;omega,by dsimp only;omega⟩,(hy.up (aa l1 (aa l2 l3)) (aq _)).addI hd21 hc21.1 (by have h1:=hb21.1;omega),bM⟩
   ·have q0:=lG (en:=en) hT hbr;refine ab ((q0 m1).mono ?_);clear q0;rintro r H' m2 aG ⟨l2,rfl,rfl⟩;simp only[go_sem];have Oe:=hM.mono;by_cases hc21:ai ts (s1).i Dv=true
    ·have iX:=fun m' =>cZ (en:=en) hT hc21 m'
     refine ab ((iX m2).mono ?_);clear iX;rintro r H' m3 bu ⟨l3,rfl,rfl⟩;simp only[go_sem];have Hk:=hM.inv.next (aN hc21);have Ar:(s1).next.i=(s1).i+1:=rfl;have A0:=fun m' =>xe (en:=en) hT Hk m'
     refine ab ((A0 m3).mono ?_);clear A0;rintro r H' m4 dc ⟨l4,ps23,a23,c23,s23,rfl,ha23,hb23,hc23,hd23,rfl,hR23⟩;simp only[go_sem];have YN:=hR23.mono;have ls:=wW (en:=en) hT (hR23.inv);refine ab ((ls m4).mono ?_);clear ls;rintro r H' m5 b9 ⟨l5,bs24,a24,c24,xs24,s24,rfl,ha24,hb24,hc24,hd24,rfl,hR24⟩;simp only[go_sem];have GN:=hR24.mono;refine cw (.hoist 0 (.hoist 1 (.hoist 2 (.hoist 3 (.hoist 4 (.hoist 5 (.alt 6 [4,3,2,1,0] (.alt 7 [0] (.hoist 8 (.hoist 9 (.alt 10 [] .done .stop))) .stop) .stop))))))) aw (by kernel_rfl) (by kernel_rfl) ?_;simp only[go_sem];refine⟨gD (by have h0:=hy.mn;dsimp only at h0;omega) (by decide),?_⟩;have bM:Res ts en s (fx d (bl br 0 (ts.drop s.i)).1 (bl br 0 (ts.drop s.i)).2) (d.addM ⟨v,eA,ei,ps23,true,bs24⟩) s24:=(by rw[hM.val];exact iK hM (by unfold fx;rw[ae (fun q=>hbr (by rw[an];exact q.2)),ah (by rw[<- an];exact hc21),<- bk];exact bt hM.inv (aN hc21) (aO hR23 (aO hR24 (bI _ hR24.inv)))));have eY:=lz bM hs (oa _ _);have kn:iD m5 ⟨v,eA,ei,ps23,true,bs24⟩ (Mc.cs ⟨v,eA,ei,a23,ps23.length,c23,true,a24,bs24.length,c24⟩):=rj hv xN (by decide) hb23 ha23 (aK l5 hc23) hd23 hb24.2 ha24 hc24 hd24;exact oG (y' :=⟨d.addM ⟨v,eA,ei,ps23,true,bs24⟩,ia,ic,uf,um+1,ui,ms++Mc.cs ⟨v,eA,ei,a23,ps23.length,c23,true,a24,bs24.length,c24⟩,is⟩) (s' :=s24) (by simp only[mH,Cd.addM,bY,cC,fm]<;>rfl) ⟨(aa l1 (aa l2 (aa l3 (aa l4 l5)))),⟨rfl,rfl,rfl,rfl,rfl,rfl,by dsimp only;omega,by dsimp only;omega,by dsimp only;omega⟩,(hy.up (aa l1 (aa l2 (aa l3 (aa l4 l5)))) (aq _)).addM kn rfl (pg eY bM.mono),bM⟩
    ·have iX:=fun m' =>da (en:=en) hT hc21 m'
     refine ab ((iX m2).mono ?_);clear iX;rintro r H' m3 bu ⟨l3,rfl,rfl⟩;simp only[go_sem];by_cases hc23:ai ts (s1).i Ac=true
     ·have ls:=fun m' =>cZ (en:=en) hT hc23 m'
      refine ab ((ls m3).mono ?_);clear ls;rintro r H' m4 dc ⟨l4,rfl,rfl⟩;simp only[go_sem];have Hj:=hM.inv.next (aN hc23);have GN:(s1).next.i=(s1).i+1:=rfl;have qy:=fun m' =>pR ts en (s1).next m' hT Hj
      refine ab ((qy m4).mono ?_);clear qy;rintro r H' m5 b9 ⟨l5,w25,s25,rfl,hw25,rfl,hR25⟩;simp only[go_sem];have GM:=hR25.mono;have qx:=fun m' =>xe (en:=en) hT hR25.inv m'
      refine ab ((qx m5).mono ?_);clear qx;rintro r H' m6 ej ⟨l6,ps26,a26,tD,iT,rfl,ha26,hb26,hc26,hd26,rfl,hR26⟩;simp only[go_sem];have GL:=hR26.mono;by_cases hc27:ai ts (iT).i [59]=true
      ·have iW:=fun m' =>cZ (en:=en) hT hc27 m'
       refine ab ((iW m6).mono ?_);clear iW;rintro r H' m7 gb ⟨l7,rfl,rfl⟩;simp only[go_sem];have wh:=hR26.inv.next (aN hc27);have GK:(iT).next.i=(iT).i+1:=rfl;refine cw (.hoist 0 (.hoist 1 (.hoist 2 (.hoist 3 (.hoist 4 (.hoist 5 (.alt 6 [4,3,2,1,0] (.alt 7 [0] (.hoist 8 (.hoist 9 (.alt 10 [] .done .stop))) .stop) .stop))))))) aw (by kernel_rfl) (by kernel_rfl) ?_;simp only[go_sem];refine⟨gD (by have h0:=hy.mn;dsimp only at h0;omega) (by decide),?_⟩;have bM:Res ts en s (fx d (bl br 0 (ts.drop s.i)).1 (bl br 0 (ts.drop s.i)).2) (d.addM ⟨v,eA,w25,ps26,false,[]⟩) (iT).next:=(by rw[hM.val];exact iK hM (by unfold fx;rw[ae (fun q=>hbr (by rw[an];exact q.2)),ae (by rw[<- an];exact hc21),ah (by rw[<- an];exact hc23),<- bk];exact bt hM.inv (aN hc23) (aO hR25 (by unfold pn;exact(aO hR26 (by rw[ah (by rw[<- an];exact hc27),<- bk];exact bt hR26.inv (aN hc27) (bI _ wh)))))));have eY:=lz bM hs (oa _ _);have kn:iD m7 ⟨v,eA,w25,ps26,false,[]⟩ (Mc.cs ⟨v,eA,w25,a26,ps26.length,tD,false,none,0,0⟩):=rj hv xN hw25 hb26 ha26 (aK l7 hc26) hd26 (au _) (aq _) (cv _ _) (dy _ _);exact oG (y' :=⟨d.addM ⟨v,eA,w25,ps26,false,[]⟩,ia,ic,uf,um+1,ui,ms++Mc.cs ⟨v,eA,w25,a26,ps26.length,tD,false,none,0,0⟩,is⟩) (s' :=(iT).next) (by simp only[mH,Cd.addM,bY,cC,fm]<;>rfl) ⟨(aa l1 (aa l2 (aa l3 (aa l4 (aa l5 (aa l6 l7)))))),⟨rfl,rfl,rfl,rfl,rfl,rfl,by dsimp only;omega,by dsimp only;omega,by dsimp only;omega⟩,(hy.up (aa l1 (aa l2 (aa l3 (aa l4 (aa l5 (aa l6 l7)))))) (aq _)).addM kn rfl (pg eY bM.mono),bM⟩
      ·have iW:=fun m' =>da (en:=en) hT hc27 m'
       refine ab ((iW m6).mono ?_);clear iW;rintro r H' m7 gb ⟨l7,rfl,rfl⟩;simp only[go_sem];have qw:=wW (en:=en) hT (hR26.inv);refine ab ((qw m7).mono ?_);clear qw;rintro r H' m8 jP ⟨l8,bs29,a29,mX,xs29,lr,rfl,ha29,hb29,hc29,hd29,rfl,hR29⟩;simp only[go_sem];have GJ:=hR29.mono;refine cw (.hoist 0 (.hoist 1 (.hoist 2 (.hoist 3 (.hoist 4 (.hoist 5 (.alt 6 [4,3,2,1,0] (.alt 7 [0] (.hoist 8 (.hoist 9 (.alt 10 [] .done .stop))) .stop) .stop))))))) aw (by kernel_rfl) (by kernel_rfl) ?_;simp only[go_sem];refine⟨gD (by have h0:=hy.mn;dsimp only at h0;omega) (by decide),?_⟩;have bM:Res ts en s (fx d (bl br 0 (ts.drop s.i)).1 (bl br 0 (ts.drop s.i)).2) (d.addM ⟨v,eA,w25,ps26,true,bs29⟩) lr:=(by rw[hM.val];exact iK hM (by unfold fx;rw[ae (fun q=>hbr (by rw[an];exact q.2)),ae (by rw[<- an];exact hc21),ah (by rw[<- an];exact hc23),<- bk];exact bt hM.inv (aN hc23) (aO hR25 (by unfold pn;exact(aO hR26 (by rw[ae (by rw[<- an];exact hc27)];exact(aO hR29 (bI _ hR29.inv))))))));have eY:=lz bM hs (oa _ _);have kn:iD m8 ⟨v,eA,w25,ps26,true,bs29⟩ (Mc.cs ⟨v,eA,w25,a26,ps26.length,tD,true,a29,bs29.length,mX⟩):=rj hv xN hw25 hb26 ha26 (aK (aa l7 l8) hc26) hd26 hb29.2 ha29 hc29 hd29;exact oG (y' :=⟨d.addM ⟨v,eA,w25,ps26,true,bs29⟩,ia,ic,uf,um+1,ui,ms++Mc.cs ⟨v,eA,w25,a26,ps26.length,tD,true,a29,bs29.length,mX⟩,is⟩) (s' :=lr) (by simp only[mH,Cd.addM,bY,cC,fm]<;>rfl) ⟨(aa l1 (aa l2 (aa l3 (aa l4 (aa l5 (aa l6 (aa l7 l8))))))),⟨rfl,rfl,rfl,rfl,rfl,rfl,by dsimp only;omega,by dsimp only;omega,by dsimp only;omega⟩,(hy.up (aa l1 (aa l2 (aa l3 (aa l4 (aa l5 (aa l6 (aa l7 l8))))))) (aq _)).addM kn rfl (pg eY bM.mono),bM⟩
     ·have ls:=fun m' =>da (en:=en) hT hc23 m'
      refine ab ((ls m3).mono ?_);clear ls;rintro r H' m4 dc ⟨l4,rfl,rfl⟩;simp only[go_sem];have qy:=fun m' =>vq ts en s1 m' hT hM.inv
      refine ab ((qy m4).mono ?_);clear qy;rintro r H' m5 b9 ⟨l5,t25,s25,rfl,ht25,hu25,rfl,hR25⟩;simp only[go_sem];have GM:=hR25.mono;have qx:=fun m' =>pR ts en s25 m' hT hR25.inv
      refine ab ((qx m5).mono ?_);clear qx;rintro r H' m6 ej ⟨l6,w26,iT,rfl,hw26,rfl,hR26⟩;simp only[go_sem];have GL:=hR26.mono;by_cases hc27:ai ts (iT).i [59]=true
      ·have iW:=fun m' =>cZ (en:=en) hT hc27 m'
       refine ab ((iW m6).mono ?_);clear iW;rintro r H' m7 gb ⟨l7,rfl,rfl⟩;simp only[go_sem];have wh:=hR26.inv.next (aN hc27);have GK:(iT).next.i=(iT).i+1:=rfl;refine cw (.hoist 0 (.hoist 1 (.hoist 2 (.hoist 3 (.hoist 4 (.hoist 5 (.hoist 6 (.hoist 7 (.hoist 8 (.hoist 9 (.hoist 10 (.alt 11 [4,3,2,1,0] (.alt 12 [0] (.hoist 13 (.hoist 14 (.alt 15 [] .done .stop))) .stop) .stop)))))))))))) aw (by kernel_rfl) (by kernel_rfl) ?_;simp only[go_sem];refine⟨gD (by have h0:=hy.fn;dsimp only at h0;omega) (by decide),?_⟩;have bM:Res ts en s (fx d (bl br 0 (ts.drop s.i)).1 (bl br 0 (ts.drop s.i)).2) (d.addF ⟨v,t25,w26⟩) ((iT).next):=(by rw[hM.val];exact iK hM (by unfold fx;rw[ae (fun q=>hbr (by rw[an];exact q.2)),ae (by rw[<- an];exact hc21),ae (by rw[<- an];exact hc23)];exact(aO hR25 (aO hR26 (by rw[ah (by rw[<- an];exact hc27),<- bk];exact bt hR26.inv (aN hc27) (bI _ wh))))));have eY:=lz bM hs (oa _ _);exact oG (y' :=⟨d.addF ⟨v,t25,w26⟩,ia,ic,uf+1,um,ui,ms,is⟩) (s' :=((iT).next)) (by simp only[mH,Cd.addF,bY,cC,fm,B9]<;>rfl) ⟨(aa l1 (aa l2 (aa l3 (aa l4 (aa l5 (aa l6 l7)))))),⟨rfl,rfl,rfl,rfl,rfl,rfl,by dsimp only;omega,by dsimp only;omega,by dsimp only;omega⟩,(hy.up (aa l1 (aa l2 (aa l3 (aa l4 (aa l5 (aa l6 l7)))))) (aq _)).addF ⟨by unfold ax;dsimp only;omega,ht25,by unfold az;dsimp only;omega⟩ (pg eY bM.mono),bM⟩
      ·have iW:=fun m' =>da (en:=en) hT hc27 m'
       refine ab ((iW m6).mono ?_);clear iW;rintro r H' m7 gb ⟨l7,rfl,rfl⟩;simp only[go_sem];have qw:=fun m' =>xe (en:=en) hT hR26.inv m'
       refine ab ((qw m7).mono ?_);clear qw;rintro r H' m8 jP ⟨l8,ps29,a29,mX,lr,rfl,ha29,hb29,hc29,hd29,rfl,hR29⟩;simp only[go_sem];have GJ:=hR29.mono;by_cases hc30:ai ts (lr).i [59]=true
       ·have qv:=fun m' =>cZ (en:=en) hT hc30 m'
        refine ab ((qv m8).mono ?_);clear qv;rintro r H' m9 mT ⟨l9,rfl,rfl⟩;simp only[go_sem];have Hh:=hR29.inv.next (aN hc30);have YM:(lr).next.i=(lr).i+1:=rfl;refine cw (.hoist 0 (.hoist 1 (.hoist 2 (.hoist 3 (.hoist 4 (.hoist 5 (.alt 6 [4,3,2,1,0] (.alt 7 [0] (.hoist 8 (.hoist 9 (.alt 10 [] .done .stop))) .stop) .stop))))))) aw (by kernel_rfl) (by kernel_rfl) ?_;simp only[go_sem];refine⟨gD (by have h0:=hy.mn;dsimp only at h0;omega) (by decide),?_⟩;have bM:Res ts en s (fx d (bl br 0 (ts.drop s.i)).1 (bl br 0 (ts.drop s.i)).2) (d.addM ⟨v,t25,w26,ps29,false,[]⟩) (lr).next:=(by rw[hM.val];exact iK hM (by unfold fx;rw[ae (fun q=>hbr (by rw[an];exact q.2)),ae (by rw[<- an];exact hc21),ae (by rw[<- an];exact hc23)];exact(aO hR25 (aO hR26 (by rw[ae (by rw[<- an];exact hc27)];exact(by unfold pn;exact(aO hR29 (by rw[ah (by rw[<- an];exact hc30),<- bk];exact bt hR29.inv (aN hc30) (bI _ Hh)))))))));have eY:=lz bM hs (oa _ _);have kn:iD m9 ⟨v,t25,w26,ps29,false,[]⟩ (Mc.cs ⟨v,t25,w26,a29,ps29.length,mX,false,none,0,0⟩):=rj hv ht25 hw26 hb29 ha29 (aK l9 hc29) hd29 (au _) (aq _) (cv _ _) (dy _ _);exact oG (y' :=⟨d.addM ⟨v,t25,w26,ps29,false,[]⟩,ia,ic,uf,um+1,ui,ms++Mc.cs ⟨v,t25,w26,a29,ps29.length,mX,false,none,0,0⟩,is⟩) (s' :=(lr).next) (by simp only[mH,Cd.addM,bY,cC,fm]<;>rfl) ⟨(aa l1 (aa l2 (aa l3 (aa l4 (aa l5 (aa l6 (aa l7 (aa l8 l9)))))))),⟨rfl,rfl,rfl,rfl,rfl,rfl,by dsimp only;omega,by dsimp only;omega,by dsimp only;omega⟩,(hy.up (aa l1 (aa l2 (aa l3 (aa l4 (aa l5 (aa l6 (aa l7 (aa l8 l9)))))))) (aq _)).addM kn rfl (pg eY bM.mono),bM⟩
       ·have qv:=fun m' =>da (en:=en) hT hc30 m'
        refine ab ((qv m8).mono ?_);clear qv;rintro r H' m9 mT ⟨l9,rfl,rfl⟩;simp only[go_sem];have AZ:=wW (en:=en) hT (hR29.inv);refine ab ((AZ m9).mono ?_);clear AZ;rintro r H' m10 uB ⟨l10,bs32,a32,BC,xs32,s32,rfl,ha32,hb32,hc32,hd32,rfl,hR32⟩;simp only[go_sem];have YL:=hR32.mono;refine cw (.hoist 0 (.hoist 1 (.hoist 2 (.hoist 3 (.hoist 4 (.hoist 5 (.alt 6 [4,3,2,1,0] (.alt 7 [0] (.hoist 8 (.hoist 9 (.alt 10 [] .done .stop))) .stop) .stop))))))) aw (by kernel_rfl) (by kernel_rfl) ?_;simp only[go_sem];refine⟨gD (by have h0:=hy.mn;dsimp only at h0;omega) (by decide),?_⟩;have bM:Res ts en s (fx d (bl br 0 (ts.drop s.i)).1 (bl br 0 (ts.drop s.i)).2) (d.addM ⟨v,t25,w26,ps29,true,bs32⟩) s32:=(by rw[hM.val];exact iK hM (by unfold fx;rw[ae (fun q=>hbr (by rw[an];exact q.2)),ae (by rw[<- an];exact hc21),ae (by rw[<- an];exact hc23)];exact(aO hR25 (aO hR26 (by rw[ae (by rw[<- an];exact hc27)];exact(by unfold pn;exact(aO hR29 (by rw[ae (by rw[<- an];exact hc30)];exact(aO hR32 (bI _ hR32.inv))))))))));have eY:=lz bM hs (oa _ _);have kn:iD m10 ⟨v,t25,w26,ps29,true,bs32⟩ (Mc.cs ⟨v,t25,w26,a29,ps29.length,mX,true,a32,bs32.length,BC⟩):=rj hv ht25 hw26 hb29 ha29 (aK (aa l9 l10) hc29) hd29 hb32.2 ha32 hc32 hd32;exact oG (y' :=⟨d.addM ⟨v,t25,w26,ps29,true,bs32⟩,ia,ic,uf,um+1,ui,ms++Mc.cs ⟨v,t25,w26,a29,ps29.length,mX,true,a32,bs32.length,BC⟩,is⟩) (s' :=s32) (by simp only[mH,Cd.addM,bY,cC,fm]<;>rfl) ⟨(aa l1 (aa l2 (aa l3 (aa l4 (aa l5 (aa l6 (aa l7 (aa l8 (aa l9 l10))))))))),⟨rfl,rfl,rfl,rfl,rfl,rfl,by dsimp only;omega,by dsimp only;omega,by dsimp only;omega⟩,(hy.up (aa l1 (aa l2 (aa l3 (aa l4 (aa l5 (aa l6 (aa l7 (aa l8 (aa l9 l10))))))))) (aq _)).addM kn rfl (pg eY bM.mono),bM⟩
  ·have Oe:=hM.mono;by_cases hc21:ai ts (s1).i Dv=true
   ·have iX:=fun m' =>cZ (en:=en) hT hc21 m'
    refine ab ((iX m1).mono ?_);clear iX;rintro r H' m2 aG ⟨l2,rfl,rfl⟩;simp only[go_sem];have Hk:=hM.inv.next (aN hc21);have Ar:(s1).next.i=(s1).i+1:=rfl;have A0:=fun m' =>xe (en:=en) hT Hk m'
    refine ab ((A0 m2).mono ?_);clear A0;rintro r H' m3 bu ⟨l3,ps23,a23,c23,s23,rfl,ha23,hb23,hc23,hd23,rfl,hR23⟩;simp only[go_sem];have YN:=hR23.mono;have ls:=wW (en:=en) hT (hR23.inv);refine ab ((ls m3).mono ?_);clear ls;rintro r H' m4 dc ⟨l4,bs24,a24,c24,xs24,s24,rfl,ha24,hb24,hc24,hd24,rfl,hR24⟩;simp only[go_sem];have GN:=hR24.mono;refine cw (.hoist 0 (.hoist 1 (.hoist 2 (.hoist 3 (.hoist 4 (.hoist 5 (.alt 6 [4,3,2,1,0] (.alt 7 [0] (.hoist 8 (.hoist 9 (.alt 10 [] .done .stop))) .stop) .stop))))))) aw (by kernel_rfl) (by kernel_rfl) ?_;simp only[go_sem];refine⟨gD (by have h0:=hy.mn;dsimp only at h0;omega) (by decide),?_⟩;have bM:Res ts en s (fx d (bl br 0 (ts.drop s.i)).1 (bl br 0 (ts.drop s.i)).2) (d.addM ⟨v,eA,ei,ps23,true,bs24⟩) s24:=(by rw[hM.val];exact iK hM (by unfold fx;rw[ae (fun q=>uU q.1),ah (by rw[<- an];exact hc21),<- bk];exact bt hM.inv (aN hc21) (aO hR23 (aO hR24 (bI _ hR24.inv)))));have eY:=lz bM hs (oa _ _);have kn:iD m4 ⟨v,eA,ei,ps23,true,bs24⟩ (Mc.cs ⟨v,eA,ei,a23,ps23.length,c23,true,a24,bs24.length,c24⟩):=rj hv xN (by decide) hb23 ha23 (aK l4 hc23) hd23 hb24.2 ha24 hc24 hd24;exact oG (y' :=⟨d.addM ⟨v,eA,ei,ps23,true,bs24⟩,ia,ic,uf,um+1,ui,ms++Mc.cs ⟨v,eA,ei,a23,ps23.length,c23,true,a24,bs24.length,c24⟩,is⟩) (s' :=s24) (by simp only[mH,Cd.addM,bY,cC,fm]<;>rfl) ⟨(aa l1 (aa l2 (aa l3 l4))),⟨rfl,rfl,rfl,rfl,rfl,rfl,by dsimp only;omega,by dsimp only;omega,by dsimp only;omega⟩,(hy.up (aa l1 (aa l2 (aa l3 l4))) (aq _)).addM kn rfl (pg eY bM.mono),bM⟩
   ·have iX:=fun m' =>da (en:=en) hT hc21 m'
    refine ab ((iX m1).mono ?_);clear iX;rintro r H' m2 aG ⟨l2,rfl,rfl⟩;simp only[go_sem];by_cases hc23:ai ts (s1).i Ac=true
    ·have ls:=fun m' =>cZ (en:=en) hT hc23 m'
     refine ab ((ls m2).mono ?_);clear ls;rintro r H' m3 bu ⟨l3,rfl,rfl⟩;simp only[go_sem];have Hj:=hM.inv.next (aN hc23);have GN:(s1).next.i=(s1).i+1:=rfl;have qy:=fun m' =>pR ts en (s1).next m' hT Hj
     refine ab ((qy m3).mono ?_);clear qy;rintro r H' m4 dc ⟨l4,w25,s25,rfl,hw25,rfl,hR25⟩;simp only[go_sem];have GM:=hR25.mono;have qx:=fun m' =>xe (en:=en) hT hR25.inv m'
     refine ab ((qx m4).mono ?_);clear qx;rintro r H' m5 b9 ⟨l5,ps26,a26,tD,iT,rfl,ha26,hb26,hc26,hd26,rfl,hR26⟩;simp only[go_sem];have GL:=hR26.mono;by_cases hc27:ai ts (iT).i [59]=true
     ·have iW:=fun m' =>cZ (en:=en) hT hc27 m'
      refine ab ((iW m5).mono ?_);clear iW;rintro r H' m6 ej ⟨l6,rfl,rfl⟩;simp only[go_sem];have wh:=hR26.inv.next (aN hc27);have GK:(iT).next.i=(iT).i+1:=rfl;refine cw (.hoist 0 (.hoist 1 (.hoist 2 (.hoist 3 (.hoist 4 (.hoist 5 (.alt 6 [4,3,2,1,0] (.alt 7 [0] (.hoist 8 (.hoist 9 (.alt 10 [] .done .stop))) .stop) .stop))))))) aw (by kernel_rfl) (by kernel_rfl) ?_;simp only[go_sem];refine⟨gD (by have h0:=hy.mn;dsimp only at h0;omega) (by decide),?_⟩;have bM:Res ts en s (fx d (bl br 0 (ts.drop s.i)).1 (bl br 0 (ts.drop s.i)).2) (d.addM ⟨v,eA,w25,ps26,false,[]⟩) (iT).next:=(by rw[hM.val];exact iK hM (by unfold fx;rw[ae (fun q=>uU q.1),ae (by rw[<- an];exact hc21),ah (by rw[<- an];exact hc23),<- bk];exact bt hM.inv (aN hc23) (aO hR25 (by unfold pn;exact(aO hR26 (by rw[ah (by rw[<- an];exact hc27),<- bk];exact bt hR26.inv (aN hc27) (bI _ wh)))))));have eY:=lz bM hs (oa _ _);have kn:iD m6 ⟨v,eA,w25,ps26,false,[]⟩ (Mc.cs ⟨v,eA,w25,a26,ps26.length,tD,false,none,0,0⟩):=rj hv xN hw25 hb26 ha26 (aK l6 hc26) hd26 (au _) (aq _) (cv _ _) (dy _ _);exact oG (y' :=⟨d.addM ⟨v,eA,w25,ps26,false,[]⟩,ia,ic,uf,um+1,ui,ms++Mc.cs ⟨v,eA,w25,a26,ps26.length,tD,false,none,0,0⟩,is⟩) (s' :=(iT).next) (by simp only[mH,Cd.addM,bY,cC,fm]<;>rfl) ⟨(aa l1 (aa l2 (aa l3 (aa l4 (aa l5 l6))))),⟨rfl,rfl,rfl,rfl,rfl,rfl,by dsimp only;omega,by dsimp only;omega,by dsimp only;omega⟩,(hy.up (aa l1 (aa l2 (aa l3 (aa l4 (aa l5 l6))))) (aq _)).addM kn rfl (pg eY bM.mono),bM⟩
     ·have iW:=fun m' =>da (en:=en) hT hc27 m'
      refine ab ((iW m5).mono ?_);clear iW;rintro r H' m6 ej ⟨l6,rfl,rfl⟩;simp only[go_sem];have qw:=wW (en:=en) hT (hR26.inv);refine ab ((qw m6).mono ?_);clear qw;rintro r H' m7 gb ⟨l7,bs29,a29,mX,xs29,lr,rfl,ha29,hb29,hc29,hd29,rfl,hR29⟩;simp only[go_sem];have GJ:=hR29.mono;refine cw (.hoist 0 (.hoist 1 (.hoist 2 (.hoist 3 (.hoist 4 (.hoist 5 (.alt 6 [4,3,2,1,0] (.alt 7 [0] (.hoist 8 (.hoist 9 (.alt 10 [] .done .stop))) .stop) .stop))))))) aw (by kernel_rfl) (by kernel_rfl) ?_;simp only[go_sem];refine⟨gD (by have h0:=hy.mn;dsimp only at h0;omega) (by decide),?_⟩;have bM:Res ts en s (fx d (bl br 0 (ts.drop s.i)).1 (bl br 0 (ts.drop s.i)).2) (d.addM ⟨v,eA,w25,ps26,true,bs29⟩) lr:=(by rw[hM.val];exact iK hM (by unfold fx;rw[ae (fun q=>uU q.1),ae (by rw[<- an];exact hc21),ah (by rw[<- an];exact hc23),<- bk];exact bt hM.inv (aN hc23) (aO hR25 (by unfold pn;exact(aO hR26 (by rw[ae (by rw[<- an];exact hc27)];exact(aO hR29 (bI _ hR29.inv))))))));have eY:=lz bM hs (oa _ _);have kn:iD m7 ⟨v,eA,w25,ps26,true,bs29⟩ (Mc.cs ⟨v,eA,w25,a26,ps26.length,tD,true,a29,bs29.length,mX⟩):=rj hv xN hw25 hb26 ha26 (aK (aa l6 l7) hc26) hd26 hb29.2 ha29 hc29 hd29;exact oG (y' :=⟨d.addM ⟨v,eA,w25,ps26,true,bs29⟩,ia,ic,uf,um+1,ui,ms++Mc.cs ⟨v,eA,w25,a26,ps26.length,tD,true,a29,bs29.length,mX⟩,is⟩) (s' :=lr) (by simp only[mH,Cd.addM,bY,cC,fm]<;>rfl) ⟨(aa l1 (aa l2 (aa l3 (aa l4 (aa l5 (aa l6 l7)))))),⟨rfl,rfl,rfl,rfl,rfl,rfl,by dsimp only;omega,by dsimp only;omega,by dsimp only;omega⟩,(hy.up (aa l1 (aa l2 (aa l3 (aa l4 (aa l5 (aa l6 l7)))))) (aq _)).addM kn rfl (pg eY bM.mono),bM⟩
    ·have ls:=fun m' =>da (en:=en) hT hc23 m'
     refine ab ((ls m2).mono ?_);clear ls;rintro r H' m3 bu ⟨l3,rfl,rfl⟩;simp only[go_sem];have qy:=fun m' =>vq ts en s1 m' hT hM.inv
     refine ab ((qy m3).mono ?_);clear qy;rintro r H' m4 dc ⟨l4,t25,s25,rfl,ht25,hu25,rfl,hR25⟩;simp only[go_sem];have GM:=hR25.mono;have qx:=fun m' =>pR ts en s25 m' hT hR25.inv
     refine ab ((qx m4).mono ?_);clear qx;rintro r H' m5 b9 ⟨l5,w26,iT,rfl,hw26,rfl,hR26⟩;simp only[go_sem];have GL:=hR26.mono;by_cases hc27:ai ts (iT).i [59]=true
     ·have iW:=fun m' =>cZ (en:=en) hT hc27 m'
      refine ab ((iW m5).mono ?_);clear iW;rintro r H' m6 ej ⟨l6,rfl,rfl⟩;simp only[go_sem];have wh:=hR26.inv.next (aN hc27);have GK:(iT).next.i=(iT).i+1:=rfl;refine cw (.hoist 0 (.hoist 1 (.hoist 2 (.hoist 3 (.hoist 4 (.hoist 5 (.hoist 6 (.hoist 7 (.hoist 8 (.hoist 9 (.hoist 10 (.alt 11 [4,3,2,1,0] (.alt 12 [0] (.hoist 13 (.hoist 14 (.alt 15 [] .done .stop))) .stop) .stop)))))))))))) aw (by kernel_rfl) (by kernel_rfl) ?_;simp only[go_sem];refine⟨gD (by have h0:=hy.fn;dsimp only at h0;omega) (by decide),?_⟩;have bM:Res ts en s (fx d (bl br 0 (ts.drop s.i)).1 (bl br 0 (ts.drop s.i)).2) (d.addF ⟨v,t25,w26⟩) ((iT).next):=(by rw[hM.val];exact iK hM (by unfold fx;rw[ae (fun q=>uU q.1),ae (by rw[<- an];exact hc21),ae (by rw[<- an];exact hc23)];exact(aO hR25 (aO hR26 (by rw[ah (by rw[<- an];exact hc27),<- bk];exact bt hR26.inv (aN hc27) (bI _ wh))))));have eY:=lz bM hs (oa _ _);exact oG (y' :=⟨d.addF ⟨v,t25,w26⟩,ia,ic,uf+1,um,ui,ms,is⟩) (s' :=((iT).next)) (by simp only[mH,Cd.addF,bY,cC,fm,B9]<;>rfl) ⟨(aa l1 (aa l2 (aa l3 (aa l4 (aa l5 l6))))),⟨rfl,rfl,rfl,rfl,rfl,rfl,by dsimp only;omega,by dsimp only;omega,by dsimp only;omega⟩,(hy.up (aa l1 (aa l2 (aa l3 (aa l4 (aa l5 l6))))) (aq _)).addF ⟨by unfold ax;dsimp only;omega,ht25,by unfold az;dsimp only;omega⟩ (pg eY bM.mono),bM⟩
     ·have iW:=fun m' =>da (en:=en) hT hc27 m'
      refine ab ((iW m5).mono ?_);clear iW;rintro r H' m6 ej ⟨l6,rfl,rfl⟩;simp only[go_sem];have qw:=fun m' =>xe (en:=en) hT hR26.inv m'
      refine ab ((qw m6).mono ?_);clear qw;rintro r H' m7 gb ⟨l7,ps29,a29,mX,lr,rfl,ha29,hb29,hc29,hd29,rfl,hR29⟩;simp only[go_sem];have GJ:=hR29.mono;by_cases hc30:ai ts (lr).i [59]=true
      ·have qv:=fun m' =>cZ (en:=en) hT hc30 m'
       refine ab ((qv m7).mono ?_);clear qv;rintro r H' m8 jP ⟨l8,rfl,rfl⟩;simp only[go_sem];have Hh:=hR29.inv.next (aN hc30);have YM:(lr).next.i=(lr).i+1:=rfl;refine cw (.hoist 0 (.hoist 1 (.hoist 2 (.hoist 3 (.hoist 4 (.hoist 5 (.alt 6 [4,3,2,1,0] (.alt 7 [0] (.hoist 8 (.hoist 9 (.alt 10 [] .done .stop))) .stop) .stop))))))) aw (by kernel_rfl) (by kernel_rfl) ?_;simp only[go_sem];refine⟨gD (by have h0:=hy.mn;dsimp only at h0;omega) (by decide),?_⟩;have bM:Res ts en s (fx d (bl br 0 (ts.drop s.i)).1 (bl br 0 (ts.drop s.i)).2) (d.addM ⟨v,t25,w26,ps29,false,[]⟩) (lr).next:=(by rw[hM.val];exact iK hM (by unfold fx;rw[ae (fun q=>uU q.1),ae (by rw[<- an];exact hc21),ae (by rw[<- an];exact hc23)];exact(aO hR25 (aO hR26 (by rw[ae (by rw[<- an];exact hc27)];exact(by unfold pn;exact(aO hR29 (by rw[ah (by rw[<- an];exact hc30),<- bk];exact bt hR29.inv (aN hc30) (bI _ Hh)))))))));have eY:=lz bM hs (oa _ _);have kn:iD m8 ⟨v,t25,w26,ps29,false,[]⟩ (Mc.cs ⟨v,t25,w26,a29,ps29.length,mX,false,none,0,0⟩):=rj hv ht25 hw26 hb29 ha29 (aK l8 hc29) hd29 (au _) (aq _) (cv _ _) (dy _ _);exact oG (y' :=⟨d.addM ⟨v,t25,w26,ps29,false,[]⟩,ia,ic,uf,um+1,ui,ms++Mc.cs ⟨v,t25,w26,a29,ps29.length,mX,false,none,0,0⟩,is⟩) (s' :=(lr).next) (by simp only[mH,Cd.addM,bY,cC,fm]<;>rfl) ⟨(aa l1 (aa l2 (aa l3 (aa l4 (aa l5 (aa l6 (aa l7 l8))))))),⟨rfl,rfl,rfl,rfl,rfl,rfl,by dsimp only;omega,by dsimp only;omega,by dsimp only;omega⟩,(hy.up (aa l1 (aa l2 (aa l3 (aa l4 (aa l5 (aa l6 (aa l7 l8))))))) (aq _)).addM kn rfl (pg eY bM.mono),bM⟩
      ·have qv:=fun m' =>da (en:=en) hT hc30 m'
       refine ab ((qv m7).mono ?_);clear qv;rintro r H' m8 jP ⟨l8,rfl,rfl⟩;simp only[go_sem];have AZ:=wW (en:=en) hT (hR29.inv);refine ab ((AZ m8).mono ?_);clear AZ;rintro r H' m9 mT ⟨l9,bs32,a32,BC,xs32,s32,rfl,ha32,hb32,hc32,hd32,rfl,hR32⟩;simp only[go_sem];have YL:=hR32.mono;refine cw (.hoist 0 (.hoist 1 (.hoist 2 (.hoist 3 (.hoist 4 (.hoist 5 (.alt 6 [4,3,2,1,0] (.alt 7 [0] (.hoist 8 (.hoist 9 (.alt 10 [] .done .stop))) .stop) .stop))))))) aw (by kernel_rfl) (by kernel_rfl) ?_;simp only[go_sem];refine⟨gD (by have h0:=hy.mn;dsimp only at h0;omega) (by decide),?_⟩;have bM:Res ts en s (fx d (bl br 0 (ts.drop s.i)).1 (bl br 0 (ts.drop s.i)).2) (d.addM ⟨v,t25,w26,ps29,true,bs32⟩) s32:=(by rw[hM.val];exact iK hM (by unfold fx;rw[ae (fun q=>uU q.1),ae (by rw[<- an];exact hc21),ae (by rw[<- an];exact hc23)];exact(aO hR25 (aO hR26 (by rw[ae (by rw[<- an];exact hc27)];exact(by unfold pn;exact(aO hR29 (by rw[ae (by rw[<- an];exact hc30)];exact(aO hR32 (bI _ hR32.inv))))))))));have eY:=lz bM hs (oa _ _);have kn:iD m9 ⟨v,t25,w26,ps29,true,bs32⟩ (Mc.cs ⟨v,t25,w26,a29,ps29.length,mX,true,a32,bs32.length,BC⟩):=rj hv ht25 hw26 hb29 ha29 (aK (aa l8 l9) hc29) hd29 hb32.2 ha32 hc32 hd32;exact oG (y' :=⟨d.addM ⟨v,t25,w26,ps29,true,bs32⟩,ia,ic,uf,um+1,ui,ms++Mc.cs ⟨v,t25,w26,a29,ps29.length,mX,true,a32,bs32.length,BC⟩,is⟩) (s' :=s32) (by simp only[mH,Cd.addM,bY,cC,fm]<;>rfl) ⟨(aa l1 (aa l2 (aa l3 (aa l4 (aa l5 (aa l6 (aa l7 (aa l8 l9)))))))),⟨rfl,rfl,rfl,rfl,rfl,rfl,by dsimp only;omega,by dsimp only;omega,by dsimp only;omega⟩,(hy.up (aa l1 (aa l2 (aa l3 (aa l4 (aa l5 (aa l6 (aa l7 (aa l8 l9)))))))) (aq _)).addM kn rfl (pg eY bM.mono),bM⟩
end
section
variable {P:Program} {cfg:Cfg} {C:Ctx} {n:Nat} {st:LS} {V:Vl} {D:Nat->Nat} {w:World}
theorem SatW.reCells {bx:List Bx} {vc:List Vc} {nid:Nat} {m:Mem} (hW:SatW C bx vc nid m V D w) {k:Nat} {b:Bx} {cU:List SV} (hb:gl bx k=some b) (hd:cU.map (a7 V)=b.cs.map (a7 V)) (ho:eL nid vc cU):SatW C (jV bx k cU) vc nid m V D w:=by
 have dS:=(sj hb).2;refine⟨⟨fun x hx=> ?_,hW.heap.vc,?_,hW.heap.uniq⟩,hW.wf,hW.frm,?_,hW.baseB,hW.baseV,⟨fun x hx=> ?_,hW.ids.2⟩,hW.le0,hW.m0,hW.mle⟩
 ·rcases zr hx with hx |⟨b0,h1,h2,rfl⟩
  ·exact hW.heap.bx x hx
  ·have e:b0=b:=by rw[h2] at hb;exact Option.some.inj hb
   subst e;obtain⟨⟨o,q1,q2⟩,q3⟩:=hW.heap.bx b0 h1;refine⟨⟨o,q1,?_⟩,q3⟩;show lL b0.ty (cU.map (a7 V)) o;rw[hd];exact q2
 ·rw[CA (zt bx)];exact hW.heap.apart
 ·rw[CA (zt bx)];exact hW.own
 ·rcases zr hx with hx |⟨b0,h1,h2,rfl⟩
  ·exact hW.ids.1 x hx
  ·exact⟨(hW.ids.1 b0 h1).1,ho⟩
theorem LZ {nid:Nat} {vc:List Vc} {x:SV} (hx:kK nid vc x):∀{l:List SV} {i:Nat},eL nid vc l->eL nid vc (l.set i x)
 |[],_,h=>h
 |s::r,0,h=>⟨hx,h.2⟩
 |s::r,i+1,h=>⟨h.1,LZ hx (i:=i) h.2⟩
theorem IU {V:Vl} {k u:Nat} (hv:(V.γ k u).val= .slice none 0 0):∀{cs:List SV} {i:Nat},cs[i]? =some (.v (.slice none 0 0))->(cs.set i (.vec k u)).map (a7 V)=cs.map (a7 V)
 |c::r,0,h=>by
  have e:c= .v (.slice none 0 0):=by simpa using h
  subst e;show(V.γ k u).val::_=_::_;rw[hv];rfl
 |c::r,i+1,h=>by
  simp only[List.set_cons_succ,bh];rw[IU hv (cs:=r) (i:=i) (by simpa using h)]
theorem Fw {x:Code} {Q:Exit->LS->Prop} (k i:Nat) (b:Bx) (e:TypeId) (sz:Nat) (h0:0<sz) (hb:gl st.bx k=some b) (hc:b.cs[i]? =some (.v (.slice none 0 0)))
  (h:js (.mk (k:=(P,n,x,Q)) ⟨st.env,st.rho,jV st.bx k (b.cs.set i (.vec st.nid 0)),⟨st.nid,0,e,sz,0,[]⟩::st.vc,st.nid+1,st.m⟩)):js (.mk (k:=(P,n,x,Q)) st):=by
 rintro C a w ⟨fD,V,D,hS⟩;obtain⟨V',ha,hγ,hW⟩:=hS.w.addVc (w' :=w) (hd:=⟨none,0,0⟩) (e:=e) (sz:=sz) (n:=0) (xs:=[]) rfl rfl rfl (aq _) (fun _ _=>rfl) (World.ownsRow_nil w 0 e sz) (fun g hg=>by cases hg) h0 (fun u hu=>by cases hu);have hv:(V'.γ st.nid 0).val= .slice none 0 0:=by rw[hγ];rfl
 have dS:=(sj hb).2;have Ea:=hW.reCells hb (IU hv hc) (LZ (x:= .vec st.nid 0) (show st.nid<st.nid+1/\bD (⟨st.nid,0,e,sz,0,[]⟩::st.vc) st.nid 0 from⟨Nat.lt_succ_self _,by simp [bD]⟩) (hW.ids.1 b dS).2);exact h C a w ⟨fD,V',D,hS.to ha (Nat.le_succ _) (fun k u hk hv=>rU rfl k u hk hv) Ea⟩
theorem CT {a rest:Code} {Q:Exit->LS->Prop} {X:Type} (S:X->LS) (J:X->Prop) (hn:∀x,J x->st.nid<=(S x).nid) (hm:∀x,J x->ak st.m (S x).m) (av:∀x,oN (S x))
  (h:WP P n a (jf (fun aj=>∃x,Match aj (S x)/\J x) Q) st) (hr:∀x,J x->WP P n rest Q (S x)):WP P n (.seq a rest) Q st:=by
 rintro C a1 w ⟨fD,V,D,hS⟩;refine wp_seq (wp_mono (h C a1 w ⟨fD,V,D,hS⟩) ?_);rintro e a2 w2 ⟨bC,bz,hq⟩;cases e with
 |normal=>
  obtain⟨x,hM,hx⟩:=hq;obtain⟨_,V2,D2,hS2⟩:=bz;refine hr x hx C a2 w2 ⟨hM.2.1,V2,D2,hS2.weaken hM (av x) (fun b hb=>dM (hS.w.baseB b hb).2 (hn x hx)) (fun b hb=>dM (hS.w.baseV b hb).2.1 (hn x hx)) ?_⟩;rcases hm x hx with e |h
  ·rw[<- e];exact hS.w.m0
  ·exact Mem.le_trans hS.w.m0 h
 |exit id=>exact⟨bC,bz,hq⟩
 |goto l=>exact⟨bC,bz,hq⟩
 |ret=>exact⟨bC,bz,hq⟩
 |panic ch=>exact⟨bC,bz,hq⟩
 |outgrown=>exact⟨bC,bz,hq⟩
end
end Go.Proofs.YtimddhkipjedcaaGreatDoor.E

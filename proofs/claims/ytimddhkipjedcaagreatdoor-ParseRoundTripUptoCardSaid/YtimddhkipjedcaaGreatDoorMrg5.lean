/- Several texts in one. -/
import Derived.Lib.IndexAny
import Derived.Test.YtimddhkipjedcaaGreatDoorMrg4
set_option linter.unusedSimpArgs false
set_option linter.unusedVariables false
set_option maxHeartbeats 4000000
set_option maxRecDepth 20000
namespace Go.Proofs.YtimddhkipjedcaaGreatDoor.E
open Go
/-! What lies in memory is of bounded size. -/
mutual
def DC:St->Prop
 | .mk _ nm ty tg ex body alt=>nm.length<=aq/\ov ty/\pd tg/\pd ex/\rY body/\rY alt
def rY:List St->Prop
 |[]=>True
 |e::r=>DC e/\rY r
end
mutual
theorem ach {m:Mem}:∀(e:St) (cs:List Value),eX m e cs->DC e
 | .mk k nm ty tg ex body alt,cs,h=>by
  obtain⟨x,_,_,_,_,h5,h6,_,_,_,_,uy,xs,ys,_,_,h14,h15⟩:=rB h;simp only[DC];exact⟨uy.nm,uy.ty,Cf _ _ h5,Cf _ _ h6,BX _ _ h14,BX _ _ h15⟩
theorem BX {m:Mem}:∀(l:List St) (xs:List Value),bS m l xs->rY l
 |[],_,_=>by simp only[rY]
 |e::r,xs,h=>by
  simp only[bS] at h;simp only[rY];exact⟨ach e _ h.1,BX r _ h.2⟩
end
def wY (d:Cd):Prop:=CdOk d/\rY d.init/\∀e∈d.methods,MdOk e/\rY e.body
theorem Kc {α:Type} {R:α->List Value->Prop} {sz:Nat}:∀{l:List α} {xs:List Value},nz R sz l xs->∀e∈l,∃cs,R e cs
 |[],_,_,e,he=>by cases he
 |x::r,xs,h,e,he=>by
  rcases List.mem_cons.1 he with rfl |he
  ·exact⟨_,h.1⟩
  ·exact Kc h.2 e he
theorem aci {m:Mem} {d:Cd} {cs:List Value} (h:jL m d cs):wY d:=by
 obtain⟨x,_,_,au,_,_,xs,ys,_,s3,_,s4⟩:=h;refine⟨au,BX _ _ s4,fun e he=> ?_⟩;obtain⟨cs,x,_,_,h1,_,zs,_,h2⟩:=Kc s3 e he;exact⟨h1,BX _ _ h2⟩
theorem Rf {m:Mem} {l:List Cd} {a:Option Addr} {n c:Nat} (h:oT m l a n c):∀d∈l,wY d:=fun d hd=>by
 obtain⟨_,_,_,xs,_,s⟩:=h;obtain⟨cs,h⟩:=Kc s d hd;exact aci h
structure SsOk (p:Tk->Prop):Prop where
 b:SgOk p
 lc:p (sg [123])
 rc:p (sg [125])
 semi:p (sg [59])
 eq:p (sg [61])
 kif:p (kw [105,102])
 kelse:p (kw [101,108,115,101])
 kwhile:p (kw [119,104,105,108,101])
 ktry:p (kw [116,114,121])
 kcatch:p (kw [99,97,116,99,104])
 ksync:p (kw [115,121,110,99])
 kret:p (kw [114,101,116,117,114,110])
 kthrow:p (kw [116,104,114,111,119])
 kstat:p (kw [115,116,97,116,105,99])
 kclass:p (kw [99,108,97,115,115])
 kiface:p (kw [105,110,116,101,114,102,97,99,101])
 kext:p (kw [101,120,116,101,110,100,115])
 kimpl:p (kw [105,109,112,108,101,109,101,110,116,115])
 mods:∀x∈bK,p (kw x.2)
structure TkP (p:Tk->Prop):Prop where
 s:SsOk p
 nm:∀s,(du s=true\/dh s=true)->s.length<=aq->p (aM s)
 int:∀n:Int,0<=n->n<=2147483647->p ⟨3,[],n,0⟩
 long:∀n:Int,0<=n->aF n->p ⟨4,[],n,0⟩
 str:∀s,nT s=true->p ⟨5,s,0,0⟩
 op:∀s∈opsL,p (sg s)
 neg:p (sg [45])
 not:p (sg [33])
theorem aeD:TkP ox where
 s:=by
  refine⟨Rp,wC (by decide),wC (by decide),wC (by decide),wC (by decide),oU (by decide),oU (by decide),oU (by decide),oU (by decide),oU (by decide),oU (by decide),oU (by decide),oU (by decide),oU (by decide),oU (by decide),oU (by decide),oU (by decide),oU (by decide),fun x hx=>oU ?_⟩;have:bK.all fun x=>decide (x.2.length<=2000000):=by decide
  simpa using List.all_eq_true.1 this x hx
 nm:=fun s _ h=>Gf h
 int:=fun n h1 h2=>⟨aD _,by unfold aF;simp only;omega⟩
 long:=fun n _ h=>⟨aD _,h⟩
 str:=fun s h=>by
  simp only[nT,aG,bu] at h;exact⟨by simp only;omega,(by unfold aF;decide:aF 0)⟩
 op:=fun s h=>by
  have:opsL.all fun x=>decide (x.length<=2000000):=by decide
  exact wC (by simpa using List.all_eq_true.1 this s h)
 neg:=wC (by decide)
 not:=wC (by decide)
theorem Ax {p:Tk->Prop} (hp:TkP p) {t:Ty} (hw:ov t) (h:dD t.dim t.base t.name=true):eF p (b5 t.dim t.base t.name):=by
 refine Ce hp.s.b _ _ fun h1 h2 h3=>hp.nm _ (.inr ?_) hw.2.2
 simp only[dD,aG,bu,Bool.or_eq_true] at h;rcases h.2 with g |g
 ·have hv:=h.1.1;exfalso;simp [pA,h1,h2,h3,g] at hv
 ·exact g
mutual
theorem u7 {p:Tk->Prop} (hp:TkP p):∀(e:Ex),pd e->bD e=true->eF p (aC e)
 | .mk k n s c ty args,h,hv=>by
  simp only[pd] at h;obtain⟨⟨h1,h2,h3,h4,h5,h6⟩,h7⟩:=h;simp only[bD,aG] at hv;obtain⟨hn,gB⟩:=hv;simp only[aC];have Hm:=hn;simp only[mN,aG,bu] at hn;obtain⟨⟨⟨⟨⟨_,_⟩,_⟩,hi⟩,hc⟩,ht⟩:=hn;refine Qr hp.s.b (SU hp args h7 gB) (fun hk=> ?_) (fun hk=> ?_) (fun hk=> ?_) (fun hk=> ?_) (fun hk=> ?_) (fun hk=> ?_) (fun hk g1 g2 g3=> ?_)
  ·subst hk;have hi:og 1 n s=true:=hi;simp only[og,if_true,aG,bu] at hi;exact hp.int n hi.1.1 hi.1.2
  ·subst hk;have hi:og 2 n s=true:=hi;have hi:(decide (0<=n)&&decide (s=[]))=true:=hi;simp only[aG,bu] at hi;exact hp.long n hi.1 h2
  ·subst hk;have hi:(decide (n=0)&&nT s)=true:=hi;simp only[aG,bu] at hi;exact hp.str s hi.2
  ·rw[ah hk] at hi;simp only[aG] at hi;exact hp.nm s (.inl hi.1) h3
  ·rw[ah hk] at hc;exact hp.nm c (.inr hc) h4
  ·rcases hk with rfl |rfl
   ·have hi:(decide (n=0)&&(decide (s=[45])||decide (s=[33])))=true:=hi;simp only[aG,Bool.or_eq_true,bu] at hi;rcases hi.2 with rfl |rfl
    ·exact hp.neg
    ·exact hp.not
   ·have hi:(decide (n=0)&&opsL.contains s)=true:=hi;simp only[aG,bu,List.contains_iff_mem] at hi;exact hp.op s hi.2
  ·rw[ah hk] at ht;simp only[aG] at ht;have:=Ax hp (t:=ty) h5 ht.1;have h0:=this (ja ty.base ty.name) (b6 ..);unfold ja at h0;rwa [af g1,af g2,af g3] at h0
theorem SU {p:Tk->Prop} (hp:TkP p):∀(l:List Ex),pY l->gl l=true->∀x∈aS l,eF p x.2
 |[],_,_=>fun x hx=>by simp only[aS] at hx;cases hx
 |e::r,h,hv=>by
  simp only[pY] at h;simp only[gl,aG] at hv;intro x hx;simp only[aS] at hx;rcases List.mem_cons.1 hx with rfl |hx
  ·exact u7 hp e h.1 hv.1
  ·exact SU hp r h.2 hv.2 x hx
end
theorem PD:∀{l:List Ex},pY l->∀e∈l,pd e
 |[],_,e,he=>by cases he
 |x::r,h,e,he=>by
  simp only[pY] at h;rcases List.mem_cons.1 he with rfl |he
  ·exact h.1
  ·exact PD h.2 e he
theorem ZX {e:Ex} (h:pd e):pY e.args:=by
 cases e with
 |mk k n s c ty args=>simp only[pd] at h;exact h.2
theorem G0 {p:Tk->Prop} (hp:SsOk p) {t:List Tk} (h:eF p t):eF p (bl t):=vX hp.lc (bQ h (dM hp.rc))
theorem afS {p:Tk->Prop} (hp:TkP p) {l:List Ex} (h:pY l) (hv:gl l=true):eF p (bh (l.map aC)):=
 zS hp.s.b fun t ht=>by
  obtain⟨e,he,rfl⟩:=List.mem_map.1 ht;exact u7 hp e (PD h e he) (xG hv e he)
theorem Kt {p:Tk->Prop} (hp:TkP p) {e:Ex} (h:pd e) (hv:bD e=true):eF p (bh [aC e]):=
 zS hp.s.b fun t ht=>by rw[List.mem_singleton.1 ht];exact u7 hp e h hv
mutual
theorem agh {p:Tk->Prop} (hp:TkP p):∀(s:St),DC s->fv s=true->eF p (cT s)
 | .mk k nm ty tg ex body alt,h,hv=>by
  simp only[DC] at h;obtain⟨w1,w2,w3,w4,w5,w6⟩:=h;simp only[fv,aG] at hv;have aU:=hv.1;clear hv;have one:=fun{t:Tk} (h:p t)=>dM h
  have hB:∀{q:Bool},(decide (body.length<=32)&&b9 false body&&q)=true->eF p (bl (be body)):=fun iO=>by
   simp only[aG] at iO;exact G0 hp.s (CC hp false body w5 iO.1.2)
  have hA:∀{q:Bool},(q&&(decide (alt.length<=32)&&b9 false alt))=true->eF p (bl (be alt)):=fun iO=>by
   simp only[aG] at iO;exact G0 hp.s (CC hp false alt w6 iO.2.2)
  rcases BB aU with rfl |rfl |rfl |rfl |rfl |rfl |rfl |rfl |rfl |rfl |rfl
  ·have aA:(du nm&&dD ty.dim ty.base ty.name&&bD ex)=true:=aU;simp only[aG] at aA;exact bQ (bQ (bQ (bQ (Ax hp w2 aA.1.2) (one (hp.nm nm (.inl aA.1.1) w1))) (one hp.s.eq)) (u7 hp ex w4 aA.2)) (one hp.s.semi)
  ·have aA:(nj tg&&bD ex)=true:=aU;simp only[aG] at aA;exact bQ (bQ (bQ (u7 hp tg w3 (zz aA.1)) (one hp.s.eq)) (u7 hp ex w4 aA.2)) (one hp.s.semi)
  ·have aA:nC ex=true:=aU;exact bQ (u7 hp ex w4 (zK aA)) (one hp.s.semi)
  ·have aA:((decide (body.length<=32)&&b9 false body&&(decide (alt.length<=32)&&b9 false alt))&&bD ex)=true:=aU;rw[aG] at aA;refine bQ (bQ (bQ (one hp.s.kif) (Kt hp w4 aA.2)) (hB aA.1)) ?_;split
   ·exact bQ (one hp.s.kelse) (hA aA.1)
   ·exact th
  ·have aA:((decide (body.length<=32)&&b9 false body&&(decide (alt.length<=32)&&b9 false alt))&&bD ex)=true:=aU;rw[aG] at aA;exact bQ (bQ (one hp.s.kwhile) (Kt hp w4 aA.2)) (hB aA.1)
  ·have aA:(jn ex||bD ex)=true:=aU;refine bQ (bQ (one hp.s.kret) ?_) (one hp.s.semi);split
   ·rename_i h0;rw[Bool.or_eq_true] at aA;rcases aA with g |g
    ·exact absurd (JV g) h0
    ·exact u7 hp ex w4 g
   ·exact th
  ·have aA:bD ex=true:=aU;exact bQ (bQ (one hp.s.kthrow) (u7 hp ex w4 aA)) (one hp.s.semi)
  ·have aA:((decide (body.length<=32)&&b9 false body&&(decide (alt.length<=32)&&b9 false alt))&&du nm&&dD ty.dim ty.base ty.name)=true:=aU;rw[aG,aG] at aA;exact bQ (bQ (bQ (bQ (bQ (bQ (bQ (one hp.s.ktry) (hB aA.1.1)) (one hp.s.kcatch)) (one hp.s.b.lp)) (Ax hp w2 aA.2)) (one (hp.nm nm (.inl aA.1.2) w1))) (one hp.s.b.rp)) (hA aA.1.1)
  ·have aA:((decide (body.length<=32)&&b9 false body&&(decide (alt.length<=32)&&b9 false alt))&&bD ex)=true:=aU;rw[aG] at aA;exact bQ (bQ (one hp.s.ksync) (Kt hp w4 aA.2)) (hB aA.1)
  ·have aA:(decide (body.length<=32)&&b9 false body&&(decide (alt.length<=32)&&b9 false alt))=true:=aU;exact hB aA
  ·have aA:np ex=true:=aU;exact bQ (bQ (one hp.s.b.ksuper) (afS hp (ZX w4) (EE aA))) (one hp.s.semi)
theorem CC {p:Tk->Prop} (hp:TkP p):∀(sup:Bool) (l:List St),rY l->b9 sup l=true->eF p (be l)
 |_,[],_,_=>by simp only[be];exact th
 |sup,e::r,h,hv=>by
  simp only[rY] at h;simp only[b9,aG] at hv;simp only[be];exact bQ (agh hp e h.1 hv.1.2) (CC hp false r h.2 hv.2)
end
theorem Gi {p:Tk->Prop} (hp:SsOk p) (fl:Int):eF p (cR fl):=fun t ht=>by
 simp only[cR,List.mem_map,List.mem_filter] at ht;obtain⟨x,⟨hx,_⟩,rfl⟩:=ht;exact hp.mods x hx
theorem Uj {p:Tk->Prop} (hp:TkP p) {w:List UInt8} (hw:p (kw w)):∀{l:List (List UInt8)},(∀s∈l,dh s=true/\s.length<=aq)->eF p (gM w l)
 |[],_=>th
 |s::r,h=>by
  refine vX hw (vX (hp.nm s (.inr (h s (b6 ..)).1) (h s (b6 ..)).2) fun t ht=> ?_);obtain⟨l,hl,ht⟩:=List.mem_flatten.1 ht;obtain⟨x,hx,rfl⟩:=List.mem_map.1 hl;have:=h x (bR _ hx);rcases List.mem_cons.1 ht with rfl |ht
  ·exact hp.s.b.comma
  ·rw[List.mem_singleton.1 ht];exact hp.nm x (.inr this.1) this.2
theorem aet {p:Tk->Prop} (hp:TkP p) {t:Ty} (h:nl t=true):eF p (b5 t.dim t.base t.name):=by
 simp only[nl,aG,bu] at h;exact Ce hp.s.b _ _ fun _ _ h3=>absurd h.2.1 h3
theorem aaZ {p:Tk->Prop} (hp:TkP p) {d:Md} (hw:MdOk d) (hs:rY d.body) (hv:gm d=true):eF p (eQ d):=by
 simp only[gm,aG] at hv;obtain⟨⟨⟨h1,h2⟩,h3⟩,h4⟩:=hv;have hP:∀q∈d.params,ib q=true:=fun q hq=>by
  rw[Bool.not_eq_true',List.any_eq_false] at h3;simpa using h3 q hq
 simp only[eE,aG] at h4;refine bQ (bQ (bQ (Gi hp.s _) ?_) (zS hp.s.b fun t ht=> ?_)) ?_
 ·split
  ·exact dM hp.s.b.knew
  ·rename_i h0;rw[ny,af h0] at h1;simp only[aG,Bool.or_eq_true] at h1;refine bQ ?_ (dM (hp.nm _ (.inl h1.1) hw.name));rcases h1.2 with g |g
   ·exact aet hp g
   ·exact Ax hp hw.res g
 ·obtain⟨q,hq,rfl⟩:=List.mem_map.1 ht;have:=hP q hq;simp only[ib,aG] at this;exact bQ (Ax hp (hw.ps q hq).ty this.1) (dM (hp.nm _ (.inl this.2) (hw.ps q hq).name))
 ·split
  ·exact G0 hp.s (CC hp _ _ hs h4.2)
  ·exact dM hp.s.semi
theorem aed {p:Tk->Prop} (hp:TkP p) {d:Cd} (hw:wY d) (hv:iA d=true):eF p (jy d):=by
 obtain⟨au,hi,hm⟩:=hw;simp only[iA,aG] at hv;obtain⟨_,⟨⟨⟨⟨⟨hn,xr⟩,_⟩,hF⟩,hM⟩,hI⟩⟩:=hv;simp only[mG,aG] at hn;have UR:∀s∈d.ifs,dh s=true/\s.length<=aq:=fun s hs=>by
  rw[Bool.not_eq_true',List.any_eq_false] at xr;exact⟨by simpa using xr s hs,au.ifs s hs⟩
 have vO:∀f∈d.fields,jU f=true:=fun f hf=>by
  rw[Bool.not_eq_true',List.any_eq_false] at hF;simpa using hF f hf
 have Hy:∀f∈d.methods,gm f=true:=fun f hf=>by
  rw[Bool.not_eq_true',List.any_eq_false] at hM;simpa using hM f hf
 simp only[eE,aG] at hI;refine bQ (bQ (bQ (bQ (bQ ?_ (dM hp.s.lc)) fun t ht=> ?_) ?_) fun t ht=> ?_) (dM hp.s.rc)
 ·unfold pS;split
  ·exact bQ (bQ (bQ (Gi hp.s _) (dM hp.s.kiface)) (dM (hp.nm _ (.inr hn.1.1) au.name))) (Uj hp hp.s.kext UR)
  ·exact bQ (bQ (bQ (bQ (bQ (Gi hp.s _) (dM hp.s.kclass)) (dM (hp.nm _ (.inr hn.1.1) au.name))) (dM hp.s.kext)) (dM (hp.nm _ (.inr hn.1.2) au.super))) (Uj hp hp.s.kimpl UR)
 ·obtain⟨l,hl,ht⟩:=List.mem_flatten.1 ht;obtain⟨f,hf,rfl⟩:=List.mem_map.1 hl;have hv:=vO f hf;simp only[jU,aG] at hv;exact(bQ (bQ (bQ (Gi hp.s _) (Ax hp (au.fs f hf).ty hv.1.1.1)) (dM (hp.nm _ (.inl hv.1.1.2) (au.fs f hf).name))) (dM hp.s.semi)) t ht
 ·split
  ·exact bQ (dM hp.s.kstat) (G0 hp.s (CC hp _ _ hi hI.2))
  ·exact th
 ·obtain⟨l,hl,ht⟩:=List.mem_flatten.1 ht;obtain⟨f,hf,rfl⟩:=List.mem_map.1 hl;exact aaZ hp (hm f hf).1 (hm f hf).2 (Hy f hf) t ht
theorem aeS {p:Tk->Prop} (hp:TkP p) {l:List Cd} (hw:∀d∈l,wY d) (hv:∀d∈l,iA d=true):eF p (mI l):=fun t ht=>by
 obtain⟨x,hx,ht⟩:=List.mem_flatten.1 ht;obtain⟨d,hd,rfl⟩:=List.mem_map.1 hx;exact aed hp (hw d hd) (hv d hd) t ht
theorem Fq:∀{l:List Cd} {seen:List (List UInt8)},(ff seen l).2=0->∀d∈l,iA d=true/\tH d=false/\nL d=false
 |[],_,_,d,hd=>by cases hd
 |x::r,seen,h,d,hd=>by
  rw[ff] at h;split at h
  ·rename_i h1;split at h
   ·cases h
   ·rename_i h2;split at h
    ·cases h
    ·rename_i h3;rcases List.mem_cons.1 hd with rfl |hd
     ·rw[Bool.not_eq_true,Bool.or_eq_false_iff] at h3;exact⟨h1,by simpa using h2,h3.2⟩
     ·exact Fq h d hd
  ·cases h
/-! How many tokens. -/
theorem Q1 {K:Nat}:∀{l:List (List Tk)} {f:Bool},(∀t∈l,t.length<=K)->(bH f l).length<=(K+1) * l.length
 |[],_,_=>by simp [bH]
 |t::r,f,h=>by
  have h1:=h t (b6 ..);have h2:=Q1 (l:=r) (f:=false) fun x hx=>h x (bR _ hx)
  simp only[bH,aI,aL,Nat.mul_add,Nat.mul_one];cases f
  ·simp only[Bool.false_eq_true,if_false,aL];omega
  ·simp only[if_true];omega
theorem aa7 {l:List Ex} (hv:gl l=true):(bh (l.map aC)).length<=28 * eg l+2:=by
 have h1:=Jm (aS l);rw[Cx] at h1;have h2:=IU l hv;omega
theorem uX (t:List Tk):(bl t).length=t.length+2:=by simp [bl]
theorem Ik (e:Ex):dd e=eg e.args+1:=by cases e;simp [dd,Ex.args]
mutual
theorem Ue:∀(s:St),fv s=true->(cT s).length<=30 * fS s
 | .mk k nm ty tg ex body alt,hv=>by
  simp only[fv,aG] at hv;have aU:=hv.1;clear hv;have hB:∀{q:Bool},(decide (body.length<=32)&&b9 false body&&q)=true->(bl (be body)).length<=30 * cY body+2:=fun iO=>by
   simp only[aG] at iO;have:=uY false body iO.1.2;rw[uX];omega
  have hA:∀{q:Bool},(q&&(decide (alt.length<=32)&&b9 false alt))=true->(bl (be alt)).length<=30 * cY alt+2:=fun iO=>by
   simp only[aG] at iO;have:=uY false alt iO.2.2;rw[uX];omega
  have Vz:=Ik ex;have uh:=Ik tg;have hX:bD ex=true->(aC ex).length+3<=28 * dd ex:=xQ ex;have hR:bD ex=true->(bh [aC ex]).length+1<=28 * dd ex:=fun h=>by have:=xQ ex h;rw[RR];omega
  simp only[fS];rcases BB aU with rfl |rfl |rfl |rfl |rfl |rfl |rfl |rfl |rfl |rfl |rfl
  ·have aA:(du nm&&dD ty.dim ty.base ty.name&&bD ex)=true:=aU;simp only[aG] at aA;have h1:=z8 ty.dim ty.base ty.name (uI aA.1.2);have h2:=hX aA.2;show((b5 ty.dim ty.base ty.name++[aM nm]++[sg [61]]++aC ex)++[sg [59]]).length<=_;simp only[aI,aL,bg];omega
  ·have aA:(nj tg&&bD ex)=true:=aU;simp only[aG] at aA;have h1:=xQ tg (zz aA.1);have h2:=hX aA.2;show((aC tg++[sg [61]]++aC ex)++[sg [59]]).length<=_;simp only[aI,aL,bg];omega
  ·have aA:nC ex=true:=aU;have h2:=hX (zK aA);show((aC ex)++[sg [59]]).length<=_;simp only[aI,aL,bg];omega
  ·have aA:((decide (body.length<=32)&&b9 false body&&(decide (alt.length<=32)&&b9 false alt))&&bD ex)=true:=aU;rw[aG] at aA;have h1:=hR aA.2;have h2:=hB aA.1;have h3:=hA aA.1;have h4:(if 0<alt.length then[kw [101,108,115,101]]++bl (be alt) else[]).length<=30 * cY alt+3:=by
    split
    ·simp only[aI,aL,bg];omega
    ·simp
   show([kw [105,102]]++bh [aC ex]++bl (be body)++(if 0<alt.length then[kw [101,108,115,101]]++bl (be alt) else[])).length<=_;rw[aI];simp only[aI,aL,bg] at h4 ⊢;omega
  ·have aA:((decide (body.length<=32)&&b9 false body&&(decide (alt.length<=32)&&b9 false alt))&&bD ex)=true:=aU;rw[aG] at aA;have h1:=hR aA.2;have h2:=hB aA.1;show([kw [119,104,105,108,101]]++bh [aC ex]++bl (be body)).length<=_;simp only[aI,aL,bg];omega
  ·have aA:(jn ex||bD ex)=true:=aU;have h4:(if ex.k≠0 then aC ex else[]).length<=28 * dd ex:=by
    split
    ·rename_i h0;rw[Bool.or_eq_true] at aA;rcases aA with g |g
     ·exact absurd (JV g) h0
     ·have:=hX g;omega
    ·simp
   show(([kw [114,101,116,117,114,110]]++(if ex.k≠0 then aC ex else[]))++[sg [59]]).length<=_;simp only[aI,aL,bg] at h4 ⊢;omega
  ·have aA:bD ex=true:=aU;have h2:=hX aA;show(([kw [116,104,114,111,119]]++aC ex)++[sg [59]]).length<=_;simp only[aI,aL,bg];omega
  ·have aA:((decide (body.length<=32)&&b9 false body&&(decide (alt.length<=32)&&b9 false alt))&&du nm&&dD ty.dim ty.base ty.name)=true:=aU;rw[aG,aG] at aA;have h1:=z8 ty.dim ty.base ty.name (uI aA.2);have h2:=hB aA.1.1;have h3:=hA aA.1.1;show([kw [116,114,121]]++bl (be body)++[kw [99,97,116,99,104]]++[sg [40]]++b5 ty.dim ty.base ty.name++[aM nm]++[sg [41]]++bl (be alt)).length<=_;simp only[aI,aL,bg];omega
  ·have aA:((decide (body.length<=32)&&b9 false body&&(decide (alt.length<=32)&&b9 false alt))&&bD ex)=true:=aU;rw[aG] at aA;have h1:=hR aA.2;have h2:=hB aA.1;show([kw [115,121,110,99]]++bh [aC ex]++bl (be body)).length<=_;simp only[aI,aL,bg];omega
  ·have aA:(decide (body.length<=32)&&b9 false body&&(decide (alt.length<=32)&&b9 false alt))=true:=aU;have h2:=hB aA;show(bl (be body)).length<=_;omega
  ·have aA:np ex=true:=aU;have h2:=aa7 (EE aA);show(([kw [115,117,112,101,114]]++bh (ex.args.map aC))++[sg [59]]).length<=_;simp only[aI,aL,bg];omega
theorem uY:∀(sup:Bool) (l:List St),b9 sup l=true->(be l).length<=30 * cY l
 |_,[],_=>by simp [be,cY]
 |sup,e::r,hv=>by
  simp only[b9,aG] at hv;have h1:=Ue e hv.1.2;have h2:=uY false r hv.2;simp only[be,cY,aI];omega
end
theorem Rz {d:Md} (h1:ny d=true):d.res.dim<=8:=by
 simp only[ny] at h1;split at h1
 ·simp only[aG,nl,bu] at h1;omega
 ·simp only[aG,Bool.or_eq_true,nl,bu] at h1;rcases h1.2 with g |g
  ·omega
  ·exact uI g
theorem Uf {d:Md} (hv:gm d=true):(eQ d).length<=60 * kD d:=by
 simp only[gm,aG] at hv;obtain⟨⟨⟨h1,h2⟩,h3⟩,h4⟩:=hv;simp only[eE,aG] at h4;have hb:=uY _ _ h4.2;have hm:=xP d.fl;have ht:=z8 d.res.dim d.res.base d.res.name (Rz h1);have hp:(bH true (d.params.map cS)).length<=(18+1) * (d.params.map cS).length:=Q1 fun t ht=>by
  obtain⟨q,hq,rfl⟩:=List.mem_map.1 ht;rw[Bool.not_eq_true',List.any_eq_false] at h3;have fQ:ib q=true:=by simpa using h3 q hq
  simp only[ib,aG] at fQ;have:=z8 q.ty.dim q.ty.base q.ty.name (uI fQ.1);simp only[cS,aI,aL,bg];omega
 rw[List.length_map] at hp;have e1:(if d.name=eK then[kw [110,101,119]] else b5 d.res.dim d.res.base d.res.name++[aM d.name]).length<=18:=by
  split
  ·simp
  ·simp only[aI,aL,bg];omega
 have e2:(if d.hb=true then bl (be d.body) else[sg [59]]).length<=30 * cY d.body+2:=by
  split
  ·rw[uX];omega
  ·simp
 simp only[eQ,bh,kD];rw[aI,aI,aI];simp only[aI,aL,bg] at e1 e2 ⊢;omega
theorem FU {α:Type} {f:α->List Tk} {g:α->Nat} {K:Nat}:∀{l:List α},(∀x∈l,(f x).length<=K * g x)->((l.map f).flatten).length<=K * (l.map g).sum
 |[],_=>by simp
 |x::r,h=>by
  have h1:=h x (b6 ..);have h2:=FU (l:=r) (K:=K) (g:=g) fun y hy=>h y (bR _ hy)
  simp only[bJ,List.flatten_cons,aI,List.sum_cons,Nat.mul_add];omega
theorem Ug {d:Cd} (hv:iA d=true):(jy d).length<=60 * ea d:=by
 simp only[iA,aG] at hv;obtain⟨_,⟨⟨⟨⟨⟨hn,xr⟩,_⟩,hF⟩,hM⟩,hI⟩⟩:=hv;simp only[eE,aG] at hI;have hb:=uY _ _ hI.2;have hm:=xP d.fl;have aH:=xP (bits .andNot .i64 d.fl 1024);have Hy:((d.methods.map eQ).flatten).length<=60 * (d.methods.map kD).sum:=FU fun f hf=>by
  rw[Bool.not_eq_true',List.any_eq_false] at hM;exact Uf (by simpa using hM f hf)
 have vO:((d.fields.map pL).flatten).length<=26 * (d.fields.map fun _=>1).sum:=FU fun f hf=>by
  rw[Bool.not_eq_true',List.any_eq_false] at hF;have hv:jU f=true:=by simpa using hF f hf
  simp only[jU,aG] at hv;have h1:=z8 f.ty.dim f.ty.base f.ty.name (uI hv.1.1.1);have h2:=xP f.fl;simp only[pL,aI,aL,bg];omega
 have hs:∀(l:List Fc),(l.map fun _=>1).sum=l.length:=fun l=>by
  induction l with
  |nil=>rfl
  |cons a r ih=>simp only[bJ,List.sum_cons,aL,ih];omega
 rw[hs] at vO;have hH:(pS d).length<=11+d.ifs.length * 2:=by
  unfold pS;split
  ·simp only[aI,aL,bg,Co];omega
  ·simp only[aI,aL,bg,Co];omega
 have e2:(if 0<d.init.length then[kw [115,116,97,116,105,99]]++bl (be d.init) else[]).length<=30 * cY d.init+3:=by
  split
  ·rw[aI,uX];simp only[aL,bg];omega
  ·simp
 simp only[jy,F7,ea];rw[aI,aI,aI,aI];simp only[aI,aL,bg] at e2 ⊢;omega
theorem ag7 {l:List Cd} (hv:∀d∈l,iA d=true):(mI l).length<=60 * (l.map ea).sum:=FU fun d hd=>Ug (hv d hd)
theorem RH {l:List Cd} {seen:List (List UInt8)} (hw:∀d∈l,wY d) (hs:(l.map ea).sum<=1048576) (h0:(ff seen l).2=0):(mI l).length<=cap/\eF ox (mI l):=by
 have hv:=fun d hd=>(Fq h0 d hd).1
 have:=ag7 hv;exact⟨by simp only[cap];omega,aeS aeD hw hv⟩
abbrev PR (α:Type):=Except (List Tk) (α×List Tk)
def an {α β:Type}:PR α->(α->List Tk->PR β)->PR β
 | .ok x,k=>k x.1 x.2
 | .error e,_=> .error e
def az (s:List UInt8):List Tk->Bool
 |[]=>false
 |t::_=>(decide (t.k=2)||decide (t.k=6))&&decide (t.s=s)
def j7:List Tk->List UInt8
 |[]=>[]
 |t::_=>t.s
def gR:List Tk->Int
 |[]=>0
 |t::_=>t.k
def sW:List Tk->Int
 |[]=>0
 |t::_=>t.n
def gp (l:List Tk):Bool:=decide (gR l=1)&&dh (j7 l)
def kj (l:List Tk):Bool:=decide (gR l=1)&& !dh (j7 l)&& !(j7 l).contains 47
def aV {α:Type} (s:List UInt8) (l:List Tk) (k:List Tk->PR α):PR α:=if az s l=true then k l.tail else .error l
def fz (l:List Tk):PR (List UInt8):=if gp l=true then .ok (j7 l,l.tail) else .error l
def da (l:List Tk):PR (List UInt8):=if kj l=true then .ok (j7 l,l.tail) else .error l
def jq (l:List Tk):PR Ty:=
 if az iM l=true then .ok (⟨0,73,[]⟩,l.tail)
 else if az iI l=true then .ok (⟨0,74,[]⟩,l.tail)
 else an (fz l) fun s r=> .ok (⟨0,76,s⟩,r)
def Ty.up (t:Ty):Ty:=⟨t.dim+1,t.base,t.name⟩
def jK:Nat->Ty->List Tk->PR Ty
 |0,t,l=> .ok (t,l)
 |f+1,t,l=>if az [91] l=true then aV [93] l.tail fun r=>jK f t.up r else .ok (t,l)
def eY (l:List Tk):PR Ty:=an (jq l) fun t r=>jK r.length t r
def qJ (n:Nat):List (List UInt8):=
 if n=0 then[[124,124]] else if n=1 then[[38,38]] else if n=2 then[[124]] else if n=3 then[[94]] else if n=4 then[[38]]
 else if n=5 then[[61,61],[33,61]] else if n=6 then[[60],[60,61],[62],[62,61]] else if n=7 then[[60,60],[62,62],[62,62,62]]
 else if n=8 then[[43],[45]] else[[42],[47],[37]]
def iJ (n:Nat) (l:List Tk):Bool:=decide (gR l=6)&&(qJ n).contains (j7 l)
def iK:Nat->Ty->List Tk->PR Ty
 |0,t,l=> .ok (t,l)
 |f+1,t,l=>if az [93] l=true then aV [91] l.tail fun r=>iK f t.up r else .ok (t,l)
mutual
def cC:Nat->Nat->List Tk->PR Ex
 |0,_,l=> .error l
 |f+1,n,l=>if n=10 then gT f l else an (cC f (n+1) l) fun e r=>fT f n e r
def fT:Nat->Nat->Ex->List Tk->PR Ex
 |0,_,_,l=> .error l
 |f+1,n,e,l=>
  if iJ n l=true then an (cC f (n+1) l.tail) fun x r=>fT f n (.mk 16 0 (j7 l) [] ai [e,x]) r
  else if n=6/\az [105,115] l=true then an (eY l.tail) fun t r=>fT f n (.mk 18 0 [] [] t [e]) r
  else if n=6/\az [97,115] l=true then an (eY l.tail) fun t r=>fT f n (.mk 17 0 [] [] t [e]) r
  else .ok (e,l)
def gT:Nat->List Tk->PR Ex
 |0,l=> .error l
 |f+1,l=>
  if az [45] l=true then an (gT f l.tail) fun x r=> .ok (.mk 15 0 [45] [] ai [x],r)
  else if az [33] l=true then an (gT f l.tail) fun x r=> .ok (.mk 15 0 [33] [] ai [x],r)
  else an (iu f l) fun e r=>fZ f e r
def fZ:Nat->Ex->List Tk->PR Ex
 |0,_,l=> .error l
 |f+1,e,l=>
  if az [46] l=true then an (da l.tail) fun s r=>
   if az [40] r=true then an (gK f r) fun es r2=>fZ f (.mk 10 0 s [] ai (e::es)) r2
   else fZ f (.mk 7 0 s [] ai [e]) r
  else if az [91] l=true then an (cC f 0 l.tail) fun i r=>aV [93] r fun r2=>fZ f (.mk 9 0 [] [] ai [e,i]) r2
  else .ok (e,l)
def gK:Nat->List Tk->PR (List Ex)
 |0,l=> .error l
 |f+1,l=>aV [40] l fun r=>if az [41] r=true then .ok ([],r.tail) else an (cC f 0 r) fun e r2=>ki f [e] r2
def ki:Nat->List Ex->List Tk->PR (List Ex)
 |0,_,l=> .error l
 |f+1,acc,l=>if az [44] l=true then an (cC f 0 l.tail) fun e r=>ki f (acc++[e]) r else aV [41] l fun r=> .ok (acc,r)
def fk:Nat->List Tk->PR Ex
 |0,l=> .error l
 |f+1,l=>aV [40] l fun r=>an (cC f 0 r) fun e r2=>aV [41] r2 fun r3=> .ok (e,r3)
def iu:Nat->List Tk->PR Ex
 |0,l=> .error l
 |f+1,l=>
  if gR l=3 then .ok (.mk 1 (sW l) [] [] ai [],l.tail)
  else if gR l=4 then .ok (.mk 2 (sW l) [] [] ai [],l.tail)
  else if gR l=5 then .ok (.mk 3 0 (j7 l) [] ai [],l.tail)
  else if kj l=true then an (da l) fun s r=> .ok (.mk 6 0 s [] ai [],r)
  else if gp l=true then an (fz l) fun c r=>aV [46] r fun r2=>an (da r2) fun s r3=>
   if az [40] r3=true then an (gK f r3) fun es r4=> .ok (.mk 11 0 s c ai es,r4) else .ok (.mk 8 0 s c ai [],r3)
  else if az [40] l=true then fk f l
  else jt f l
def jt:Nat->List Tk->PR Ex
 |0,l=> .error l
 |f+1,l=>
  if az [110,117,108,108] l=true then .ok (.mk 4 0 [] [] ai [],l.tail)
  else if az [116,104,105,115] l=true then .ok (.mk 5 0 [] [] ai [],l.tail)
  else if az [115,117,112,101,114] l=true then aV [46] l.tail fun r=>an (da r) fun s r2=>an (gK f r2) fun es r3=> .ok (.mk 12 0 s [] ai es,r3)
  else if az [110,101,119] l=true then an (jq l.tail) fun t r=>
   if t.base=76/\az [40] r=true then an (gK f r) fun es r2=> .ok (.mk 13 0 [] t.name ai es,r2)
   else aV [91] r fun r2=>an (iK r2.length t r2) fun t2 r3=>an (cC f 0 r3) fun e r4=>aV [93] r4 fun r5=> .ok (.mk 14 0 [] [] t2 [e],r5)
  else if az [108,101,110] l=true then an (fk f l.tail) fun e r=> .ok (.mk 19 0 [] [] ai [e],r)
  else if az iM l=true then an (fk f l.tail) fun e r=> .ok (.mk 20 0 [] [] ai [e],r)
  else if az iI l=true then an (fk f l.tail) fun e r=> .ok (.mk 21 0 [] [] ai [e],r)
  else .error l
end
def bG {α:Type} (g:Nat->α) (K:α):Prop:=∃F,∀f,F<=f->g f=K
theorem bb {α:Type} (K:α):bG (fun _=>K) K:=⟨0,fun _ _=>rfl⟩
theorem b8 {α:Type} {g h:Nat->α} {K:α} (e:∀f,g (f+1)=h f) (H:bG h K):bG g K:=by
 obtain⟨F,hF⟩:=H;refine⟨F+1,fun f hf=> ?_⟩;cases f with
 |zero=>omega
 |succ f=>rw[e];exact hF f (by omega)
theorem dE {α β:Type} {g:Nat->PR α} {k:Nat->α->List Tk->PR β} {a:α} {r:List Tk} {K:PR β} (hg:bG g (.ok (a,r))) (hk:bG (fun f=>k f a r) K):bG (fun f=>an (g f) (k f)) K:=by
 obtain⟨F,hF⟩:=hg;obtain⟨G,hG⟩:=hk;refine⟨max F G,fun f hf=> ?_⟩;simp only[hF f (by omega),an];exact hG f (by omega)
theorem Ke {α:Type} {g:Nat->α} {K K' :α} (h:bG g K) (h' :bG g K'):K=K' :=by
 obtain⟨F,hF⟩:=h;obtain⟨G,hG⟩:=h';rw[<- hF (max F G) (by omega),hG (max F G) (by omega)]
structure Fol (n:Nat) (r:List Tk):Prop where
 dot:az [46] r=false
 lb:az [91] r=false
 lp:az [40] r=false
 op:∀m,n<=m->m<=9->iJ m r=false
 is:n<=6->az [105,115] r=false/\az [97,115] r=false
theorem Fol.up {n m:Nat} {r:List Tk} (h:Fol n r) (hm:n<=m):Fol m r:=⟨h.dot,h.lb,h.lp,fun q h1 h2=>h.op q (by omega) h2,fun h1=>h.is (by omega)⟩
def GY (n:Nat) (t:Tk):Bool:= !az [46] [t]&& !az [91] [t]&& !az [40] [t]&&((List.range 10).all fun m=>decide (m<n)|| !iJ m [t])&&(decide (6<n)||(!az [105,115] [t]&& !az [97,115] [t]))
theorem nr {n:Nat} {t:Tk} (h:GY n t=true) (r:List Tk):Fol n (t::r):=by
 simp only[GY,aG,Bool.or_eq_true,Bool.not_eq_true',bu,List.all_eq_true,List.mem_range] at h;obtain⟨⟨⟨⟨h1,h2⟩,h3⟩,h4⟩,h5⟩:=h;refine⟨h1,h2,h3,fun m hm h9=> ?_,fun hn=> ?_⟩
 ·rcases h4 m (by omega) with g |g
  ·omega
  ·exact g
 ·rcases h5 with g |g
  ·omega
  ·exact g
theorem ado (n:Nat):Fol n []:=⟨rfl,rfl,rfl,fun m _ _=>by simp [iJ,gR],fun _=>⟨rfl,rfl⟩⟩
theorem acP:∀s∈opsL,∃m,m<=9/\s∈qJ m/\GY (m+1) (sg s)=true:=by
 have:opsL.all fun s=>(List.range 10).any fun m=>(qJ m).contains s&&GY (m+1) (sg s):=by decide
 intro s hs;have h:=List.all_eq_true.1 this s hs;obtain⟨m,hm,h⟩:=List.any_eq_true.1 h;simp only[aG,List.contains_iff_mem] at h;exact⟨m,by have:=List.mem_range.1 hm;omega,h.1,h.2⟩
theorem Jh {e:Ex} {r:List Tk} (h1:az [46] r=false) (h2:az [91] r=false):bG (fun f=>fZ f e r) (.ok (e,r)):=
 b8 (h:=fun _=> .ok (e,r)) (fun f=>by rw[fZ,h1,h2];rfl) (bb _)
theorem Fh {n:Nat} {e:Ex} {r:List Tk} (hn:n<=9) (h:Fol n r):bG (fun f=>fT f n e r) (.ok (e,r)):=
 b8 (h:=fun _=> .ok (e,r)) (fun f=>by
  rw[fT,h.op n (av _) hn];by_cases h6:n=6
  ·subst h6;rw[(h.is (av _)).1,(h.is (av _)).2];rfl
  ·simp [h6]) (bb _)
theorem ad4 {n:Nat} {e:Ex} {l r:List Tk} (hn:n<=9) (h:bG (fun f=>cC f (n+1) l) (.ok (e,r))) (hf:Fol n r):bG (fun f=>cC f n l) (.ok (e,r)):=
 b8 (h:=fun f=>an (cC f (n+1) l) fun e r=>fT f n e r) (fun f=>by rw[cC,af (by omega)]) (dE h (Fh hn hf))
theorem zP {k:Nat}:∀{n:Nat} {e:Ex} {l r:List Tk},n+k<=10->bG (fun f=>cC f (n+k) l) (.ok (e,r))->Fol n r->bG (fun f=>cC f n l) (.ok (e,r)):=by
 induction k with
 |zero=>intro n e l r _ h _;exact h
 |succ k ih=>
  intro n e l r hn h hf;exact ih (by omega) (ad4 (by omega) h (hf.up (by omega))) hf
theorem Iu {e:Ex} {l r:List Tk} (h:bG (fun f=>gT f l) (.ok (e,r))):bG (fun f=>cC f 10 l) (.ok (e,r)):=
 b8 (h:=fun f=>gT f l) (fun f=>by rw[cC,ah rfl]) h
/-! Types. -/
theorem SB:∀(k:Nat) (f:Nat) (t:Ty) (r:List Tk),k<=f->az [91] r=false->jK f t ((List.replicate k [sg [91],sg [93]]).flatten++r)= .ok (⟨t.dim+k,t.base,t.name⟩,r)
 |0,f,t,r,_,h=>by
  cases f with
  |zero=>simp [jK]
  |succ f=>simp [jK,h]
 |k+1,0,_,_,hk,_=>by omega
 |k+1,f+1,t,r,hk,h=>by
  have ih:=SB k f t.up r (by omega) h;simp only[List.replicate_succ,List.flatten_cons,dW,List.nil_append];rw[jK];simp only[az,sg,List.tail_cons,aV];simp only[sg] at ih;rw[ah (by decide),ah (by decide),ih];simp only[Ty.up];congr 2
  simp only[Ty.mk.injEq,and_true];omega
theorem zD {t:Ty} (h:dD t.dim t.base t.name=true):0<=t.dim/\t.dim<=8/\((t.base=73/\t.name=[])\/(t.base=74/\t.name=[])\/(t.base=76/\dh t.name=true)):=by
 simp only[dD,aG,bu,Bool.or_eq_true] at h;obtain⟨⟨h1,h2⟩,h3⟩:=h;unfold pA at h1;split at h1
 ·cases h1
 ·rename_i hd;refine⟨by omega,by omega,?_⟩;split at h1
  ·rename_i hb;simp only[bu] at h1;rcases hb with hb |hb
   ·exact .inl ⟨hb,h1⟩
   ·exact .inr (.inl ⟨hb,h1⟩)
  ·split at h1
   ·rename_i hb;rcases h3 with g |g
    ·exact absurd hb g
    ·exact .inr (.inr ⟨hb,g⟩)
   ·cases h1
theorem SM {t:Ty} (h:dD t.dim t.base t.name=true) (r:List Tk):jq (ja t.base t.name::r)= .ok (⟨0,t.base,t.name⟩,r):=by
 obtain⟨_,_,h3⟩:=zD h;rcases h3 with ⟨h1,h2⟩ |⟨h1,h2⟩ |⟨h1,h2⟩
 ·rw[h1,h2];rfl
 ·rw[h1,h2];rfl
 ·rw[h1];have e:ja 76 t.name=aM t.name:=rfl;rw[e];simp [jq,az,aM,fz,gp,gR,j7,h2,an]
theorem xZ {t:Ty} (h:dD t.dim t.base t.name=true) (r:List Tk) (hr:az [91] r=false):eY (b5 t.dim t.base t.name++r)= .ok (t,r):=by
 have hv:=zD h;have e:b5 t.dim t.base t.name++r=ja t.base t.name::(ij t.dim++r):=rfl;rw[e,eY,SM h];simp only[an];rw[ij,SB _ _ _ _ _ hr]
 ·have hd:(0:Int)+(t.dim.toNat:Int)=t.dim:=by omega
  rw[hd]
 ·rw[aI];have:=rF t.dim;simp only[ij] at this;omega
noncomputable def jY {α:Type} (g:Nat->PR α):PR α:=by
 classical
 exact if h:∃K,bG g K then h.choose else .error []
theorem QD {α:Type} {g:Nat->PR α} (h:∃K,bG g K):bG g (jY g):=by
 unfold jY;rw[dif_pos h];exact h.choose_spec
theorem jF {α:Type} {g:Nat->PR α} {K:PR α} (h:bG g K):jY g=K:=Ke (QD ⟨K,h⟩) h
structure Good {α:Type} (lt:Bool) (l:List Tk) (K:PR α):Prop where
 ok:∀x r,K= .ok (x,r)->r<:+l/\(lt=true->r.length<l.length)
 er:∀r,K= .error r->r<:+l
def Tot {α:Type} (lt:Bool) (g:Nat->PR α) (l:List Tk):Prop:=∃K,bG g K/\Good lt l K
theorem Tot.lim {α:Type} {lt:Bool} {g:Nat->PR α} {l:List Tk} (h:Tot lt g l):bG g (jY g):=by
 obtain⟨K,h1,_⟩:=h;exact QD ⟨K,h1⟩
theorem Tot.good {α:Type} {lt:Bool} {g:Nat->PR α} {l:List Tk} (h:Tot lt g l):Good lt l (jY g):=by
 obtain⟨K,h1,h2⟩:=h;rw[jF h1];exact h2
theorem gS {a b:List Tk} (h:a<:+b):a.length<=b.length:=h.length_le
theorem cW (l:List Tk):l.tail<:+l:=List.tail_suffix l
theorem eB {l:List Tk} (h:l≠[]):l.tail.length<l.length:=by
 cases l with
 |nil=>exact absurd rfl h
 |cons a r=>simp
theorem cd {s:List UInt8} {l:List Tk} (h:az s l=true):l≠[]:=fun e=>by rw[e] at h;cases h
theorem uZ {l:List Tk} {k:Int} (h:gR l=k) (hk:k≠0):l≠[]:=fun e=>by rw[e] at h;exact hk h.symm
theorem iY {α:Type} {l r:List Tk} (x:α) {lt:Bool} (h1:r<:+l) (h2:lt=true->r.length<l.length):Tot lt (fun _=> .ok (x,r)) l:=
 ⟨_,bb _,fun y q e=>by cases e;exact⟨h1,h2⟩,fun q e=>by cases e⟩
theorem Cy {α:Type} {l r:List Tk} {lt:Bool} (h1:r<:+l):Tot (α:=α) lt (fun _=> .error r) l:=
 ⟨_,bb _,fun y q e=>by(cases e),fun q e=>by cases e;exact h1⟩
theorem kB {α:Type} {lt:Bool} {g h:Nat->PR α} {l:List Tk} (e:∀f,g (f+1)=h f) (H:Tot lt h l):Tot lt g l:=by
 obtain⟨K,h1,h2⟩:=H;exact⟨K,b8 e h1,h2⟩
theorem Sc {α β:Type} {g:Nat->PR α} {k:Nat->α->List Tk->PR β} {r:List Tk} (hg:bG g (.error r)):bG (fun f=>an (g f) (k f)) (.error r):=by
 obtain⟨F,hF⟩:=hg;exact⟨F,fun f hf=>by simp only[hF f hf,an]⟩
theorem cM {α β:Type} {a b:Bool} {g:Nat->PR α} {k:Nat->α->List Tk->PR β} {l:List Tk} (hg:Tot a g l)
  (hk:∀x r,r<:+l->(a=true->r.length<l.length)->Tot b (fun f=>k f x r) r):Tot (a||b) (fun f=>an (g f) (k f)) l:=by
 obtain⟨K,h1,h2⟩:=hg;cases K with
 |error r=>exact⟨.error r,Sc h1,fun x q e=>by(cases e),fun q e=>by cases e;exact h2.er _ rfl⟩
 |ok p=>
  obtain⟨x,r⟩:=p;obtain⟨s1,s2⟩:=h2.ok x r rfl;obtain⟨K2,h3,h4⟩:=hk x r s1 s2;refine⟨K2,dE h1 h3,fun y q e=> ?_,fun q e=>(h4.er q e).trans s1⟩;obtain⟨t1,t2⟩:=h4.ok y q e;refine⟨t1.trans s1,fun ME=> ?_⟩;have u1:=gS s1;have u2:=gS t1;cases a with
  |true=>have:=s2 rfl;omega
  |false=>
   cases b with
   |true=>have:=t2 rfl;omega
   |false=>cases ME
theorem mB {α:Type} {g:Nat->PR α} {l:List Tk} {a:Bool} (b:Bool) (h:Tot a g l) (ME:b=true->a=true):Tot b g l:=by
 obtain⟨K,h1,h2⟩:=h;exact⟨K,h1,fun x r e=>⟨(h2.ok x r e).1,fun hb=>(h2.ok x r e).2 (ME hb)⟩,h2.er⟩
theorem rK {α:Type} {g:Nat->PR α} {l r:List Tk} (h1:r<:+l) {a:Bool} (h:Tot a g r):Tot a g l:=by
 obtain⟨K,q1,q2⟩:=h;refine⟨K,q1,fun x s e=> ?_,fun s e=>(q2.er s e).trans h1⟩;obtain⟨t1,t2⟩:=q2.ok x s e;exact⟨t1.trans h1,fun ha=>eP (t2 ha) (gS h1)⟩
theorem kC {α:Type} {g:Nat->PR α} {l r:List Tk} (h1:r<:+l) (h2:r.length<l.length) {a:Bool} (h:Tot a g r):Tot true g l:=by
 obtain⟨K,q1,q2⟩:=h;refine⟨K,q1,fun x s e=> ?_,fun s e=>(q2.er s e).trans h1⟩;obtain⟨t1,t2⟩:=q2.ok x s e;exact⟨t1.trans h1,fun _=>Nat.lt_of_le_of_lt (gS t1) h2⟩
theorem dt {α:Type} {p:Prop} [Decidable p] {g h:Nat->PR α} {l:List Tk} {a:Bool} (h1:p->Tot a g l) (h2:¬p->Tot a h l):Tot a (fun f=>if p then g f else h f) l:=by
 by_cases hp:p
 ·simp only[ah hp];exact h1 hp
 ·simp only[af hp];exact h2 hp
theorem iX {α:Type} {s:List UInt8} {l:List Tk} {k:Nat->List Tk->PR α} {a:Bool} (h:az s l=true->l.tail.length<l.length->Tot a (fun f=>k f l.tail) l.tail):Tot true (fun f=>aV s l (k f)) l:=by
 unfold aV;refine dt (fun hs=> ?_) fun _=>Cy (List.suffix_refl _)
 have:=eB (cd hs);exact kC (cW l) this (h hs this)
theorem xS (l:List Tk):Tot true (fun _=>fz l) l:=by
 unfold fz;refine dt (fun h=> ?_) fun _=>Cy (List.suffix_refl _)
 simp only[gp,aG,bu] at h;exact iY _ (cW l) fun _=>eB (uZ h.1 (by decide))
theorem tu (l:List Tk):Tot true (fun _=>da l) l:=by
 unfold da;refine dt (fun h=> ?_) fun _=>Cy (List.suffix_refl _)
 simp only[kj,aG,bu] at h;exact iY _ (cW l) fun _=>eB (uZ h.1.1 (by decide))
theorem PF (l:List Tk):Tot true (fun _=>jq l) l:=by
 unfold jq;refine dt (fun h=>iY _ (cW l) fun _=>eB (cd h)) fun _=> ?_
 refine dt (fun h=>iY _ (cW l) fun _=>eB (cd h)) fun _=> ?_
 exact cM (b:=false) (xS l) fun x r h1 h2=>iY _ (List.suffix_refl _) fun h=>by cases h
theorem Pn:∀(f:Nat) (t:Ty) (l:List Tk),Good false l (jK f t l)
 |0,t,l=>⟨fun x r e=>by cases e;exact⟨List.suffix_refl _,fun h=>by cases h⟩,fun r e=>by cases e⟩
 |f+1,t,l=>by
  rw[jK];by_cases h:az [91] l=true
  ·rw[ah h];unfold aV;by_cases h2:az [93] l.tail=true
   ·rw[ah h2];have ih:=Pn f t.up l.tail.tail;have s:l.tail.tail<:+l:=(cW _).trans (cW l);exact⟨fun x r e=>⟨(ih.ok x r e).1.trans s,fun h=>by cases h⟩,fun r e=>(ih.er r e).trans s⟩
   ·rw[af h2];exact⟨fun x r e=>by(cases e),fun r e=>by cases e;exact cW l⟩
  ·rw[af h];exact⟨fun x r e=>by cases e;exact⟨List.suffix_refl _,fun h=>by cases h⟩,fun r e=>by cases e⟩
theorem Qs:∀(f:Nat) (t:Ty) (l:List Tk),Good false l (iK f t l)
 |0,t,l=>⟨fun x r e=>by cases e;exact⟨List.suffix_refl _,fun h=>by cases h⟩,fun r e=>by cases e⟩
 |f+1,t,l=>by
  rw[iK];by_cases h:az [93] l=true
  ·rw[ah h];unfold aV;by_cases h2:az [91] l.tail=true
   ·rw[ah h2];have ih:=Qs f t.up l.tail.tail;have s:l.tail.tail<:+l:=(cW _).trans (cW l);exact⟨fun x r e=>⟨(ih.ok x r e).1.trans s,fun h=>by cases h⟩,fun r e=>(ih.er r e).trans s⟩
   ·rw[af h2];exact⟨fun x r e=>by(cases e),fun r e=>by cases e;exact cW l⟩
  ·rw[af h];exact⟨fun x r e=>by cases e;exact⟨List.suffix_refl _,fun h=>by cases h⟩,fun r e=>by cases e⟩
theorem Ot {α:Type} {K:PR α} {l:List Tk} {a:Bool} (h:Good a l K):Tot a (fun _=>K) l:=⟨K,bb _,h⟩
theorem xR (l:List Tk):Tot true (fun _=>eY l) l:=by
 unfold eY;exact cM (b:=false) (PF l) fun t r _ _=>Ot (Pn _ _ _)
structure EX (l:List Tk):Prop where
 expr:∀n,n<=10->Tot true (fun f=>cC f n l) l
 loop:∀n e,n<=9->Tot false (fun f=>fT f n e l) l
 unary:Tot true (fun f=>gT f l) l
 post:∀e,Tot false (fun f=>fZ f e l) l
 args:Tot true (fun f=>gK f l) l
 more:∀acc,Tot true (fun f=>ki f acc l) l
 paren:Tot true (fun f=>fk f l) l
 operand:Tot true (fun f=>iu f l) l
 key:Tot true (fun f=>jt f l) l
theorem Uu {l:List Tk} (ih:∀r:List Tk,r.length<l.length->EX r):EX l:=by
 have rV:Tot true (fun f=>gK f l) l:=by
  refine kB (h:=fun f=>aV [40] l fun r=>if az [41] r=true then .ok ([],r.tail) else an (cC f 0 r) fun e r2=>ki f [e] r2) (fun f=>by rw[gK]) ?_;refine iX (a:=false) fun hs aw=> ?_
  refine dt (fun h=>iY _ (cW _) fun h=>by cases h) fun _=> ?_
  exact mB false (cM (b:=true) ((ih _ aw).expr 0 (by decide)) fun e r h1 h2=>(ih r (by have:=h2 rfl;omega)).more _) fun h=>by cases h
 have TM:Tot true (fun f=>fk f l) l:=by
  refine kB (h:=fun f=>aV [40] l fun r=>an (cC f 0 r) fun e r2=>aV [41] r2 fun r3=> .ok (e,r3)) (fun f=>by rw[fk]) ?_;refine iX (a:=true) fun hs aw=> ?_
  exact cM (b:=true) ((ih _ aw).expr 0 (by decide)) fun e r h1 h2=>iX (a:=false) fun _ _=>iY _ (List.suffix_refl _) fun h=>by cases h
 have ahz:∀acc,Tot true (fun f=>ki f acc l) l:=fun acc=>by
  refine kB (h:=fun f=>if az [44] l=true then an (cC f 0 l.tail) fun e r=>ki f (acc++[e]) r else aV [41] l fun r=> .ok (acc,r)) (fun f=>by rw[ki]) ?_;refine dt (fun h=> ?_) fun _=>iX (a:=false) fun _ _=>iY _ (List.suffix_refl _) fun h=>by cases h
  have aw:=eB (cd h);exact kC (cW l) aw (cM (b:=true) ((ih _ aw).expr 0 (by decide)) fun e r h1 h2=>(ih r (by have:=h2 rfl;omega)).more _)
 have ahx:∀e,Tot false (fun f=>fZ f e l) l:=fun e=>by
  refine kB (h:=fun f=>if az [46] l=true then an (da l.tail) fun s r=>
   if az [40] r=true then an (gK f r) fun es r2=>fZ f (.mk 10 0 s [] ai (e::es)) r2 else fZ f (.mk 7 0 s [] ai [e]) r
   else if az [91] l=true then an (cC f 0 l.tail) fun i r=>aV [93] r fun r2=>fZ f (.mk 9 0 [] [] ai [e,i]) r2
   else .ok (e,l)) (fun f=>by rw[fZ]) ?_
  refine dt (fun h=> ?_) fun _=>dt (fun h=> ?_) fun _=>iY _ (List.suffix_refl _) fun h=>by cases h
  ·have aw:=eB (cd h);refine rK (cW l) (mB false (cM (b:=false) (tu l.tail) fun s r h1 h2=> ?_) fun h=>by cases h);have hr:=gS h1;refine dt (fun hp=> ?_) fun _=>(ih r (by omega)).post _
   exact mB false (cM (b:=false) (ih r (by omega)).args fun es r2 h3 h4=>(ih r2 (by have:=gS h3;omega)).post _) fun h=>by cases h
  ·have aw:=eB (cd h);refine rK (cW l) (mB false (cM (b:=true) ((ih _ aw).expr 0 (by decide)) fun i r h1 h2=> ?_) fun h=>by cases h);have hr:=gS h1;exact iX (a:=false) fun _ ct=>(ih _ (by omega)).post _
 have ahB:∀n e,n<=9->Tot false (fun f=>fT f n e l) l:=fun n e hn=>by
  refine kB (h:=fun f=>if iJ n l=true then an (cC f (n+1) l.tail) fun x r=>fT f n (.mk 16 0 (j7 l) [] ai [e,x]) r
   else if n=6/\az [105,115] l=true then an (eY l.tail) fun t r=>fT f n (.mk 18 0 [] [] t [e]) r
   else if n=6/\az [97,115] l=true then an (eY l.tail) fun t r=>fT f n (.mk 17 0 [] [] t [e]) r
   else .ok (e,l)) (fun f=>by rw[fT]) ?_
  refine dt (fun h=> ?_) fun _=>dt (fun h=> ?_) fun _=>dt (fun h=> ?_) fun _=>iY _ (List.suffix_refl _) fun h=>by cases h
  ·simp only[iJ,aG,bu] at h;have aw:=eB (uZ h.1 (by decide));exact rK (cW l) (mB false (cM (b:=false) ((ih _ aw).expr (n+1) (by omega)) fun x r h1 h2=>(ih r (by have:=gS h1;omega)).loop n _ hn) fun h=>by cases h)
  ·have aw:=eB (cd h.2);exact rK (cW l) (mB false (cM (b:=false) (xR l.tail) fun x r h1 h2=>(ih r (by have:=gS h1;omega)).loop n _ hn) fun h=>by cases h)
  ·have aw:=eB (cd h.2);exact rK (cW l) (mB false (cM (b:=false) (xR l.tail) fun x r h1 h2=>(ih r (by have:=gS h1;omega)).loop n _ hn) fun h=>by cases h)
 have sd:Tot true (fun f=>jt f l) l:=by
  refine kB (h:=fun f=>
   if az [110,117,108,108] l=true then .ok (.mk 4 0 [] [] ai [],l.tail)
   else if az [116,104,105,115] l=true then .ok (.mk 5 0 [] [] ai [],l.tail)
   else if az [115,117,112,101,114] l=true then aV [46] l.tail fun r=>an (da r) fun s r2=>an (gK f r2) fun es r3=> .ok (.mk 12 0 s [] ai es,r3)
   else if az [110,101,119] l=true then an (jq l.tail) fun t r=>
    if t.base=76/\az [40] r=true then an (gK f r) fun es r2=> .ok (.mk 13 0 [] t.name ai es,r2)
    else aV [91] r fun r2=>an (iK r2.length t r2) fun t2 r3=>an (cC f 0 r3) fun e r4=>aV [93] r4 fun r5=> .ok (.mk 14 0 [] [] t2 [e],r5)
   else if az [108,101,110] l=true then an (fk f l.tail) fun e r=> .ok (.mk 19 0 [] [] ai [e],r)
   else if az iM l=true then an (fk f l.tail) fun e r=> .ok (.mk 20 0 [] [] ai [e],r)
   else if az iI l=true then an (fk f l.tail) fun e r=> .ok (.mk 21 0 [] [] ai [e],r)
   else .error l) (fun f=>by rw[jt]) ?_
  have fin:∀{x:Ex} {r:List Tk},Tot false (fun _=>Except.ok (x,r)) r:=fun{x r}=>iY _ (List.suffix_refl _) fun h=>by cases h
  refine dt (fun h=>iY _ (cW l) fun _=>eB (cd h)) fun _=>dt (fun h=>iY _ (cW l) fun _=>eB (cd h)) fun _=>
   dt (fun h=> ?_) fun _=>dt (fun h=> ?_) fun _=>dt (fun h=> ?_) fun _=>dt (fun h=> ?_) fun _=>dt (fun h=> ?_) fun _=>Cy (List.suffix_refl _)
  ·have aw:=eB (cd h);refine kC (cW l) aw (iX (a:=true) fun _ ct=>cM (b:=true) (tu _) fun s r2 h1 h2=> ?_);have:=gS h1;exact cM (b:=false) (ih r2 (by omega)).args fun es r3 _ _=>fin
  ·have aw:=eB (cd h);refine kC (cW l) aw (cM (b:=true) (PF _) fun t r h1 h2=> ?_);have hr:=gS h1;refine dt (fun _=>cM (b:=false) (ih r (by omega)).args fun es r2 _ _=>fin) fun _=> ?_
   refine iX (a:=true) fun _ ct=>cM (a:=false) (b:=true) (Ot (Qs _ _ _)) fun t2 r3 h3 _=> ?_
   have:=gS h3;exact cM (b:=true) ((ih r3 (by omega)).expr 0 (by decide)) fun e r4 _ _=>iX (a:=false) fun _ _=>fin
  ·have aw:=eB (cd h);exact kC (cW l) aw (cM (b:=false) (ih _ aw).paren fun e r _ _=>fin)
  ·have aw:=eB (cd h);exact kC (cW l) aw (cM (b:=false) (ih _ aw).paren fun e r _ _=>fin)
  ·have aw:=eB (cd h);exact kC (cW l) aw (cM (b:=false) (ih _ aw).paren fun e r _ _=>fin)
 have QM:Tot true (fun f=>iu f l) l:=by
  refine kB (h:=fun f=>
   if gR l=3 then .ok (.mk 1 (sW l) [] [] ai [],l.tail)
   else if gR l=4 then .ok (.mk 2 (sW l) [] [] ai [],l.tail)
   else if gR l=5 then .ok (.mk 3 0 (j7 l) [] ai [],l.tail)
   else if kj l=true then an (da l) fun s r=> .ok (.mk 6 0 s [] ai [],r)
   else if gp l=true then an (fz l) fun c r=>aV [46] r fun r2=>an (da r2) fun s r3=>
    if az [40] r3=true then an (gK f r3) fun es r4=> .ok (.mk 11 0 s c ai es,r4) else .ok (.mk 8 0 s c ai [],r3)
   else if az [40] l=true then fk f l
   else jt f l) (fun f=>by rw[iu]) ?_
  have fin:∀{x:Ex} {r:List Tk},Tot false (fun _=>Except.ok (x,r)) r:=fun{x r}=>iY _ (List.suffix_refl _) fun h=>by cases h
  refine dt (fun h=>iY _ (cW l) fun _=>eB (uZ h (by decide))) fun _=>dt (fun h=>iY _ (cW l) fun _=>eB (uZ h (by decide))) fun _=>
   dt (fun h=>iY _ (cW l) fun _=>eB (uZ h (by decide))) fun _=>dt (fun h=>cM (b:=false) (tu l) fun _ _ _ _=>fin) fun _=>
   dt (fun h=> ?_) fun _=>dt (fun _=>TM) fun _=>sd
  refine cM (b:=true) (xS l) fun c r h1 h2=>iX (a:=true) fun _ ct=>cM (b:=false) (tu _) fun s r3 h3 h4=> ?_
  have q1:=gS h1;have q3:=gS h3;exact dt (fun _=>mB false (cM (b:=false) (ih r3 (by have:=h2 rfl;omega)).args fun es r4 _ _=>fin) fun h=>by cases h) fun _=>fin
 have TJ:Tot true (fun f=>gT f l) l:=by
  refine kB (h:=fun f=>
   if az [45] l=true then an (gT f l.tail) fun x r=> .ok (.mk 15 0 [45] [] ai [x],r)
   else if az [33] l=true then an (gT f l.tail) fun x r=> .ok (.mk 15 0 [33] [] ai [x],r)
   else an (iu f l) fun e r=>fZ f e r) (fun f=>by rw[gT]) ?_
  have fin:∀{x:Ex} {r:List Tk},Tot false (fun _=>Except.ok (x,r)) r:=fun{x r}=>iY _ (List.suffix_refl _) fun h=>by cases h
  refine dt (fun h=> ?_) fun _=>dt (fun h=> ?_) fun _=>cM (b:=false) QM fun e r h1 h2=>(ih r (h2 rfl)).post e
  ·exact kC (cW l) (eB (cd h)) (cM (b:=false) (ih _ (eB (cd h))).unary fun x r _ _=>fin)
  ·exact kC (cW l) (eB (cd h)) (cM (b:=false) (ih _ (eB (cd h))).unary fun x r _ _=>fin)
 have ahH:∀k n,n+k=10->Tot true (fun f=>cC f n l) l:=fun k=>by
  induction k with
  |zero=>
   intro n hn;exact kB (h:=fun f=>gT f l) (fun f=>by rw[cC,ah (by omega)]) TJ
  |succ k ihk=>
   intro n hn;refine kB (h:=fun f=>an (cC f (n+1) l) fun e r=>fT f n e r) (fun f=>by rw[cC,af (by omega)]) ?_;exact cM (b:=false) (ihk (n+1) (by omega)) fun e r h1 h2=>(ih r (h2 rfl)).loop n e (by omega)
 exact⟨fun n hn=>ahH (10 - n) n (by omega),ahB,TJ,ahx,rV,ahz,TM,QM,sd⟩
theorem TQ:∀(N:Nat) (l:List Tk),l.length<=N->EX l
 |0,l,h=>Uu fun r hr=>by omega
 |N+1,l,h=>Uu fun r hr=>TQ N r (by omega)
theorem qx (l:List Tk):EX l:=TQ _ l (av _)
/-! The answers as functions, and their equations. -/
noncomputable def dQ (n:Nat) (l:List Tk):PR Ex:=jY fun f=>cC f n l
noncomputable def yn (n:Nat) (e:Ex) (l:List Tk):PR Ex:=jY fun f=>fT f n e l
noncomputable def Am (l:List Tk):PR Ex:=jY fun f=>gT f l
noncomputable def tC (e:Ex) (l:List Tk):PR Ex:=jY fun f=>fZ f e l
noncomputable def oY (l:List Tk):PR (List Ex):=jY fun f=>gK f l
noncomputable def C1 (acc:List Ex) (l:List Tk):PR (List Ex):=jY fun f=>ki f acc l
noncomputable def oL (l:List Tk):PR Ex:=jY fun f=>fk f l
noncomputable def xM (l:List Tk):PR Ex:=jY fun f=>iu f l
noncomputable def AT (l:List Tk):PR Ex:=jY fun f=>jt f l
theorem cJ {α β:Type} {g:Nat->PR α} {k:Nat->α->List Tk->PR β} {K:PR α} {k2:α->List Tk->PR β} (hg:bG g K) (hk:∀x r,bG (fun f=>k f x r) (k2 x r)):bG (fun f=>an (g f) (k f)) (an K k2):=by
 cases K with
 |error r=>exact Sc hg
 |ok p=>obtain⟨x,r⟩:=p;exact dE hg (hk x r)
theorem oE {α:Type} {s:List UInt8} {l:List Tk} {k:Nat->List Tk->PR α} {k2:List Tk->PR α} (hk:bG (fun f=>k f l.tail) (k2 l.tail)):bG (fun f=>aV s l (k f)) (aV s l k2):=by
 unfold aV;by_cases h:az s l=true
 ·simp only[ah h];exact hk
 ·simp only[af h];exact bb _
theorem dI {α:Type} {p:Prop} [Decidable p] {g h:Nat->α} {G H:α} (h1:bG g G) (h2:bG h H):bG (fun f=>if p then g f else h f) (if p then G else H):=by
 by_cases hp:p
 ·simp only[ah hp];exact h1
 ·simp only[af hp];exact h2
theorem rT {n:Nat} (hn:n<=10) (l:List Tk):bG (fun f=>cC f n l) (dQ n l):=((qx l).expr n hn).lim
theorem Gl {n:Nat} (hn:n<=9) (e:Ex) (l:List Tk):bG (fun f=>fT f n e l) (yn n e l):=((qx l).loop n e hn).lim
theorem Kb (l:List Tk):bG (fun f=>gT f l) (Am l):=(qx l).unary.lim
theorem Gk (e:Ex) (l:List Tk):bG (fun f=>fZ f e l) (tC e l):=((qx l).post e).lim
theorem C3 (l:List Tk):bG (fun f=>gK f l) (oY l):=(qx l).args.lim
theorem Uc (acc:List Ex) (l:List Tk):bG (fun f=>ki f acc l) (C1 acc l):=((qx l).more acc).lim
theorem ye (l:List Tk):bG (fun f=>fk f l) (oL l):=(qx l).paren.lim
theorem aa2 (l:List Tk):bG (fun f=>iu f l) (xM l):=(qx l).operand.lim
theorem akz (l:List Tk):bG (fun f=>jt f l) (AT l):=(qx l).key.lim
theorem abB {n:Nat} (hn:n<=9) (l:List Tk):dQ n l=an (dQ (n+1) l) fun e r=>yn n e r:=
 jF (b8 (h:=fun f=>an (cC f (n+1) l) fun e r=>fT f n e r) (fun f=>by rw[cC,af (by omega)]) (cJ (rT (by omega) l) fun e r=>Gl hn e r))
theorem Zy (l:List Tk):dQ 10 l=Am l:=jF (b8 (h:=fun f=>gT f l) (fun f=>by rw[cC,ah rfl]) (Kb l))
theorem zX {n:Nat} (hn:n<=9) (e:Ex) (l:List Tk):yn n e l=(if iJ n l=true then an (dQ (n+1) l.tail) fun x r=>yn n (.mk 16 0 (j7 l) [] ai [e,x]) r
  else if n=6/\az [105,115] l=true then an (eY l.tail) fun t r=>yn n (.mk 18 0 [] [] t [e]) r
  else if n=6/\az [97,115] l=true then an (eY l.tail) fun t r=>yn n (.mk 17 0 [] [] t [e]) r
  else .ok (e,l)):=
 jF (b8 (fun f=>by rw[fT]) (dI (cJ (rT (by omega) _) fun x r=>Gl hn _ r) (dI (cJ (bb _) fun t r=>Gl hn _ r) (dI (cJ (bb _) fun t r=>Gl hn _ r) (bb _)))))
theorem IA (l:List Tk):Am l=(if az [45] l=true then an (Am l.tail) fun x r=> .ok (.mk 15 0 [45] [] ai [x],r)
  else if az [33] l=true then an (Am l.tail) fun x r=> .ok (.mk 15 0 [33] [] ai [x],r)
  else an (xM l) fun e r=>tC e r):=
 jF (b8 (fun f=>by rw[gT]) (dI (cJ (Kb _) fun x r=>bb _) (dI (cJ (Kb _) fun x r=>bb _) (cJ (aa2 l) fun e r=>Gk e r))))
theorem B6 (e:Ex) (l:List Tk):tC e l=(if az [46] l=true then an (da l.tail) fun s r=>
   if az [40] r=true then an (oY r) fun es r2=>tC (.mk 10 0 s [] ai (e::es)) r2
   else tC (.mk 7 0 s [] ai [e]) r
  else if az [91] l=true then an (dQ 0 l.tail) fun i r=>aV [93] r fun r2=>tC (.mk 9 0 [] [] ai [e,i]) r2
  else .ok (e,l)):=
 jF (b8 (fun f=>by rw[fZ]) (dI (cJ (bb _) fun s r=>dI (cJ (C3 r) fun es r2=>Gk _ r2) (Gk _ r)) (dI (cJ (rT (n:=0) (by decide) _) fun i r=>oE (Gk _ _)) (bb _))))
theorem Q9 (l:List Tk):oY l=aV [40] l fun r=>if az [41] r=true then .ok ([],r.tail) else an (dQ 0 r) fun e r2=>C1 [e] r2:=
 jF (b8 (fun f=>by rw[gK]) (oE (dI (bb _) (cJ (rT (n:=0) (by decide) _) fun e r=>Uc _ r))))
theorem Qt (acc:List Ex) (l:List Tk):C1 acc l=(if az [44] l=true then an (dQ 0 l.tail) fun e r=>C1 (acc++[e]) r else aV [41] l fun r=> .ok (acc,r)):=
 jF (b8 (fun f=>by rw[ki]) (dI (cJ (rT (n:=0) (by decide) _) fun e r=>Uc _ r) (bb _)))
theorem Zf (l:List Tk):oL l=aV [40] l fun r=>an (dQ 0 r) fun e r2=>aV [41] r2 fun r3=> .ok (e,r3):=
 jF (b8 (fun f=>by rw[fk]) (by
  refine oE ?_
  exact cJ (rT (n:=0) (by decide) _) fun e r=>bb _))
theorem Nu (l:List Tk):xM l=
  (if gR l=3 then .ok (.mk 1 (sW l) [] [] ai [],l.tail)
  else if gR l=4 then .ok (.mk 2 (sW l) [] [] ai [],l.tail)
  else if gR l=5 then .ok (.mk 3 0 (j7 l) [] ai [],l.tail)
  else if kj l=true then an (da l) fun s r=> .ok (.mk 6 0 s [] ai [],r)
  else if gp l=true then an (fz l) fun c r=>aV [46] r fun r2=>an (da r2) fun s r3=>
   if az [40] r3=true then an (oY r3) fun es r4=> .ok (.mk 11 0 s c ai es,r4) else .ok (.mk 8 0 s c ai [],r3)
  else if az [40] l=true then oL l
  else AT l):=
 jF (b8 (fun f=>by rw[iu]) (by
  refine dI (bb _) (dI (bb _) (dI (bb _) (dI (bb _) (dI ?_ (dI (ye l) (akz l))))));refine cJ (bb _) fun c r=>oE ?_
  refine cJ (bb _) fun s r3=> ?_
  exact dI (cJ (C3 r3) fun es r4=>bb _) (bb _)))
theorem wa (l:List Tk):AT l=
  (if az [110,117,108,108] l=true then .ok (.mk 4 0 [] [] ai [],l.tail)
  else if az [116,104,105,115] l=true then .ok (.mk 5 0 [] [] ai [],l.tail)
  else if az [115,117,112,101,114] l=true then aV [46] l.tail fun r=>an (da r) fun s r2=>an (oY r2) fun es r3=> .ok (.mk 12 0 s [] ai es,r3)
  else if az [110,101,119] l=true then an (jq l.tail) fun t r=>
   if t.base=76/\az [40] r=true then an (oY r) fun es r2=> .ok (.mk 13 0 [] t.name ai es,r2)
   else aV [91] r fun r2=>an (iK r2.length t r2) fun t2 r3=>an (dQ 0 r3) fun e r4=>aV [93] r4 fun r5=> .ok (.mk 14 0 [] [] t2 [e],r5)
  else if az [108,101,110] l=true then an (oL l.tail) fun e r=> .ok (.mk 19 0 [] [] ai [e],r)
  else if az iM l=true then an (oL l.tail) fun e r=> .ok (.mk 20 0 [] [] ai [e],r)
  else if az iI l=true then an (oL l.tail) fun e r=> .ok (.mk 21 0 [] [] ai [e],r)
  else .error l):=
 jF (b8 (fun f=>by rw[jt]) (by
  refine dI (bb _) (dI (bb _) (dI ?_ (dI ?_ (dI (cJ (ye _) fun e r=>bb _) (dI (cJ (ye _) fun e r=>bb _) (dI (cJ (ye _) fun e r=>bb _) (bb _)))))))
  ·refine oE ?_;exact cJ (bb _) fun s r2=>cJ (C3 r2) fun es r3=>bb _
  ·refine cJ (bb _) fun t r=> ?_
   refine dI (cJ (C3 r) fun es r2=>bb _) (oE ?_);refine cJ (bb _) fun t2 r3=> ?_
   exact cJ (rT (n:=0) (by decide) r3) fun e r4=>bb _))
theorem O5:∀{s:List UInt8},Lib.indexByte s 47<0->s.contains 47=false
 |[],_=>rfl
 |b::l,h=>by
  unfold Lib.indexByte at h;have cg:=Lib.indexByte_ge l 47;split at h
  ·omega
  ·rename_i hb;split at h
   ·rename_i hl;have hl:Lib.indexByte l 47= -1:=by simpa using hl
    rw[List.contains_cons,O5 (by omega),Bool.or_false];cases hc:(47==b) with
    |false=>rfl
    |true=>exact absurd (beq_iff_eq.2 (beq_iff_eq.1 hc).symm) hb
   ·rename_i hl;have hl:Lib.indexByte l 47≠ -1:=by simpa using hl
    omega
theorem abf {s:List UInt8} (h:du s=true):dh s=false/\s.contains 47=false:=by
 simp only[du,pQ,aG,Bool.or_eq_true,Bool.not_eq_true',bu] at h;obtain⟨⟨⟨h1,h2⟩,h3⟩,h4⟩:=h;refine⟨h3,?_⟩;rcases h1 with (h1 |h1) |h1
 ·subst h1;exact absurd rfl h2
 ·subst h1;exact absurd rfl h2
 ·exact O5 h1.2
theorem pR {s:List UInt8} (h:du s=true) (r:List Tk):kj (aM s::r)=true/\gp (aM s::r)=false/\da (aM s::r)= .ok (s,r):=by
 obtain⟨h1,h2⟩:=abf h;have e:kj (aM s::r)=true:=by
  show(decide ((1:Int)=1)&& !dh s&& !s.contains 47)=true;rw[h1,h2];rfl
 refine⟨e,?_,by rw[da,ah e];rfl⟩;show(decide ((1:Int)=1)&&dh s)=false;rw[h1];rfl
theorem wk {s:List UInt8} (h:dh s=true) (r:List Tk):gp (aM s::r)=true/\kj (aM s::r)=false/\fz (aM s::r)= .ok (s,r):=by
 have e:gp (aM s::r)=true:=by
  show(decide ((1:Int)=1)&&dh s)=true;rw[h];rfl
 refine⟨e,?_,by rw[fz,ah e];rfl⟩;show(decide ((1:Int)=1)&& !dh s&& !s.contains 47)=false;rw[h];rfl
def VO (t:Tk):Bool:=decide (t.k=3)||decide (t.k=4)||decide (t.k=5)||decide (t.k=1)||
 (decide (t.k=2)&&[[110,117,108,108],[116,104,105,115],[115,117,112,101,114],[110,101,119],[108,101,110],iM,iI].contains t.s)||(decide (t.k=6)&&[[40],[45],[33]].contains t.s)
def ql (l:List Tk):Prop:=∃t r,l=t::r/\VO t=true
theorem kU {a b:List Tk} (h:ql a):ql (a++b):=by
 obtain⟨t,r,rfl,h⟩:=h;exact⟨t,r++b,rfl,h⟩
theorem qF {l:List Tk} {w:List UInt8} (h:ql l) (hw:([[110,117,108,108],[116,104,105,115],[115,117,112,101,114],[110,101,119],[108,101,110],iM,iI,[40],[45],[33]]:List (List UInt8)).contains w=false):az w l=false:=by
 obtain⟨t,r,rfl,h⟩:=h;cases hb:az w (t::r) with
 |false=>rfl
 |true=>
  exfalso;simp only[az,aG,Bool.or_eq_true,bu] at hb;obtain⟨hk,rfl⟩:=hb;simp only[VO,Bool.or_eq_true,aG,bu] at h;rcases h with ((((h |h) |h) |h) |h) |h
  ·omega
  ·omega
  ·omega
  ·omega
  ·simp only[List.contains_cons,List.contains_nil,Bool.or_false,Bool.or_eq_false_iff] at hw;have:=h.2;simp only[List.contains_cons,List.contains_nil,Bool.or_false,hw,Bool.or_self] at this;cases this
  ·simp only[List.contains_cons,List.contains_nil,Bool.or_false,Bool.or_eq_false_iff] at hw;have:=h.2;simp only[List.contains_cons,List.contains_nil,Bool.or_false,hw,Bool.or_self] at this;cases this
theorem ada (l:List (List Tk)):ql (bh l):=⟨sg [40],_,rfl,rfl⟩
theorem aeU {b:Bool} {t:List Tk} (h:ql t):ql (gr b t):=by
 cases b
 ·exact h
 ·exact ada _
mutual
theorem FM:∀(e:Ex),bD e=true->ql (aC e)
 | .mk k n s c ty args,hv=>by
  simp only[bD,aG] at hv;obtain⟨hn,gB⟩:=hv;have hx:=Fj args gB;obtain⟨hk,har,_⟩:=zO hn;simp only[aC];simp only[mN,aG,bu] at hn;have hi:=hn.1.1.2;have o0:1<=args.length->ql (dU (aS args) 0):=fun h=>by rw[rM (by omega)];exact aeU (hx _ (List.getElem_mem _))
  rcases kinds hk with h |h |h |h |h |h |h |h |h |h |h |h |h |h |h |h |h |h |h |h |h<;>subst h
  ·exact⟨_,_,rfl,rfl⟩
  ·exact⟨_,_,rfl,rfl⟩
  ·exact⟨_,_,rfl,rfl⟩
  ·exact⟨_,_,rfl,rfl⟩
  ·exact⟨_,_,rfl,rfl⟩
  ·exact⟨_,_,rfl,rfl⟩
  ·exact kU (kU (o0 (by simp [eR] at har;omega)))
  ·exact⟨_,_,rfl,rfl⟩
  ·exact kU (kU (kU (o0 (by simp [eR] at har;omega))))
  ·exact kU (kU (kU (o0 (by simp [eR] at har;omega))))
  ·exact⟨_,_,rfl,rfl⟩
  ·exact⟨_,_,rfl,rfl⟩
  ·exact⟨_,_,rfl,rfl⟩
  ·exact⟨_,_,rfl,rfl⟩
  ·have hi:(decide (n=0)&&(decide (s=[45])||decide (s=[33])))=true:=hi;simp only[aG,Bool.or_eq_true,bu] at hi;rcases hi.2 with rfl |rfl<;>exact⟨_,_,rfl,rfl⟩
  ·exact kU (kU (o0 (by simp [eR] at har;omega)))
  ·exact kU (kU (o0 (by simp [eR] at har;omega)))
  ·exact kU (kU (o0 (by simp [eR] at har;omega)))
  ·exact⟨_,_,rfl,rfl⟩
  ·exact⟨_,_,rfl,rfl⟩
  ·exact⟨_,_,rfl,rfl⟩
theorem Fj:∀(l:List Ex),gl l=true->∀x∈l,ql (aC x)
 |[],_,x,hx=>by cases hx
 |e::r,hv,x,hx=>by
  simp only[gl,aG] at hv;rcases List.mem_cons.1 hx with hx |hx
  ·rw[hx];exact FM e hv.1
  ·exact Fj r hv.2 x hx
end
def zr (e:Ex):Prop:=∀r,Fol 0 r->bG (fun f=>cC f 0 (aC e++r)) (.ok (e,r))
structure RT (e:Ex):Prop where
 o:∀r K,az [40] r=false->bG (fun f=>fZ f e r) K->bG (fun f=>gT f (gr (iL e.k) (aC e)++r)) K
 z:zr e
theorem nR {l r:List Tk} {e:Ex} {K:PR Ex} (h1:az [45] l=false) (h2:az [33] l=false) (ho:bG (fun f=>iu f l) (.ok (e,r))) (hp:bG (fun f=>fZ f e r) K):bG (fun f=>gT f l) K:=
 b8 (h:=fun f=>an (iu f l) fun e r=>fZ f e r) (fun f=>by rw[gT,h1,h2];rfl) (dE ho hp)
theorem mD {e:Ex} (hk:iL e.k=false) (h:∀r K,az [40] r=false->bG (fun f=>fZ f e r) K->bG (fun f=>gT f (aC e++r)) K):RT e:=by
 refine⟨fun r K h1 h2=> ?_,fun r hf=> ?_⟩
 ·rw[hk];exact h r K h1 h2
 ·exact zP (k:=10) (n:=0) (by omega) (Iu (h r _ hf.lp (Jh hf.dot hf.lb))) hf
theorem vZ {e:Ex} (h:zr e) (r:List Tk):bG (fun f=>fk f (bh [aC e]++r)) (.ok (e,r)):=by
 have e1:bh [aC e]++r=sg [40]::(aC e++(sg [41]::r)):=by simp [bh,bH]
 rw[e1];refine b8 (h:=fun f=>an (cC f 0 (aC e++(sg [41]::r))) fun e r2=>aV [41] r2 fun r3=> .ok (e,r3)) (fun f=>by rw[fk];rfl) ?_;exact dE (h _ (nr (by decide) _)) (bb _)
theorem Gc {e:Ex} (hk:iL e.k=true) (h:zr e):RT e:=by
 refine⟨fun r K h1 h2=> ?_,h⟩;rw[hk];have e1:gr true (aC e)++r=sg [40]::(aC e++(sg [41]::r)):=by simp [gr,bh,bH]
 refine nR (e:=e) (r:=r) (by rw[e1];rfl) (by rw[e1];rfl) ?_ h2;exact b8 (h:=fun f=>fk f (gr true (aC e)++r)) (fun f=>by rw[e1,iu];rfl) (vZ h r)
theorem Gg {e:Ex} (h:RT e) {n:Nat} (hn:n<=10) {r:List Tk} (hf:Fol n r):bG (fun f=>cC f n (gr (iL e.k) (aC e)++r)) (.ok (e,r)):=by
 have h1:=Iu (h.o r _ hf.lp (Jh hf.dot hf.lb));have:n+(10 - n)=10:=by omega
 exact zP (k:=10 - n) (n:=n) (by omega) (by rw[this];exact h1) hf
theorem R5:∀(l acc:List Ex) (r:List Tk),(∀e∈l,zr e)->bG (fun f=>ki f acc (bH false (l.map aC)++(sg [41]::r))) (.ok (acc++l,r))
 |[],acc,r,_=>b8 (h:=fun _=> .ok (acc++[],r)) (fun f=>by rw[ki];simp [bH,az,sg,aV]) (bb _)
 |e::l,acc,r,h=>by
  have ih:=R5 l (acc++[e]) r fun x hx=>h x (bR _ hx)
  have e1:bH false ((e::l).map aC)++(sg [41]::r)=sg [44]::(aC e++(bH false (l.map aC)++(sg [41]::r))):=by simp [bH]
  rw[e1];refine b8 (h:=fun f=>an (cC f 0 (aC e++(bH false (l.map aC)++(sg [41]::r)))) fun e r=>ki f (acc++[e]) r) (fun f=>by rw[ki];rfl) (dE (h e (b6 ..) _ ?_) ?_)
  ·cases l with
   |nil=>exact nr (by decide) _
   |cons x l=>exact nr (by decide) _
  ·simpa using ih
theorem Ct {l:List Ex} (h:∀e∈l,zr e) (hv:gl l=true) (r:List Tk):bG (fun f=>gK f (bh (l.map aC)++r)) (.ok (l,r)):=by
 cases l with
 |nil=>exact b8 (h:=fun _=> .ok ([],r)) (fun f=>by rw[gK];rfl) (bb _)
 |cons e l=>
  have hh:ql (aC e++(bH false (l.map aC)++(sg [41]::r))):=kU (Fj _ hv e (b6 ..));have e1:bh ((e::l).map aC)++r=sg [40]::(aC e++(bH false (l.map aC)++(sg [41]::r))):=by simp [bh,bH]
  rw[e1];refine b8 (h:=fun f=>an (cC f 0 (aC e++(bH false (l.map aC)++(sg [41]::r)))) fun e r=>ki f [e] r) (fun f=> ?_) (dE (h e (b6 ..) _ ?_) ?_)
  ·rw[gK];show(if az [41] (aC e++(bH false (l.map aC)++(sg [41]::r)))=true then _ else _)=_;rw[qF hh (by decide)];rfl
  ·cases l with
   |nil=>exact nr (by decide) _
   |cons x l=>exact nr (by decide) _
  ·exact R5 l [e] r fun x hx=>h x (bR _ hx)
theorem wh {w:List UInt8} {l:List Tk} {K:PR Ex} (hw:w≠[40]) (h:bG (fun f=>jt f (kw w::l)) K):bG (fun f=>iu f (kw w::l)) K:=
 b8 (h:=fun f=>jt f (kw w::l)) (fun f=>by
  rw[iu]
  simp [gR,kw,kj,gp,az,hw]) h
theorem Te:∀(k f:Nat) (t:Ty) (r:List Tk),k<=f->az [93] r=false->iK f t ((List.replicate k [sg [93],sg [91]]).flatten++r)= .ok (⟨t.dim+k,t.base,t.name⟩,r)
 |0,f,t,r,_,h=>by
  cases f with
  |zero=>simp [iK]
  |succ f=>simp [iK,h]
 |k+1,0,_,_,hk,_=>by omega
 |k+1,f+1,t,r,hk,h=>by
  have ih:=Te k f t.up r (by omega) h;simp only[List.replicate_succ,List.flatten_cons,dW,List.nil_append];rw[iK];simp only[az,sg,List.tail_cons,aV];simp only[sg] at ih;rw[ah (by decide),ah (by decide),ih];simp only[Ty.up];congr 2
  simp only[Ty.mk.injEq,and_true];omega
theorem Po:∀(k:Nat) (r:List Tk),(List.replicate k [sg [91],sg [93]]).flatten++(sg [91]::r)=sg [91]::((List.replicate k [sg [93],sg [91]]).flatten++r)
 |0,r=>rfl
 |k+1,r=>by simp only[List.replicate_succ,List.flatten_cons,dW,List.nil_append,Po k r]
theorem lU {ty:Ty} (h:(decide (ty.dim=0)&&decide (ty.base=0)&&decide (ty.name=[]))=true):ty=ai:=by
 simp only[aG,bu] at h;cases ty;simp only at h;obtain⟨⟨rfl,rfl⟩,rfl⟩:=h;rfl
theorem vW {l:List Ex} (h1:(1:Int)<=l.length) (h2:(l.length:Int)<=1):∃x,l=[x]:=by
 match l,h1,h2 with
 |[x],_,_=>exact⟨x,rfl⟩
 |_::_::r,_,h2=>simp at h2;omega
theorem RM {l:List Ex} (h1:(2:Int)<=l.length) (h2:(l.length:Int)<=2):∃x y,l=[x,y]:=by
 match l,h1,h2 with
 |[x,y],_,_=>exact⟨x,y,rfl⟩
 |_::_::_::r,_,h2=>simp at h2;omega
theorem yd {l:List Ex} (h2:(l.length:Int)<=0):l=[]:=List.length_eq_zero_iff.1 (by omega)
theorem Sv:∀(h:Nat) (e:Ex),bU e<=h->bD e=true->RT e
 |0,.mk k n s c ty args,hd,_=>by simp [bU] at hd
 |h+1,.mk k n s c ty args,hd,hv=>by
  simp only[bU] at hd;simp only[bD,aG] at hv;obtain⟨hn,gB⟩:=hv;have ih:∀e∈args,RT e:=fun e he=>Sv h e (by have:=BF he;omega) (xG gB e he)
  have He:∀e∈args,zr e:=fun e he=>(ih e he).z
  have Mx:=Fj args gB;obtain⟨hk,har,_⟩:=zO hn;simp only[mN,aG,bu] at hn;obtain⟨⟨⟨⟨⟨_,h1⟩,h2⟩,hi⟩,hc⟩,ht⟩:=hn;rcases kinds hk with h |h |h |h |h |h |h |h |h |h |h |h |h |h |h |h |h |h |h |h |h<;>subst h
  ·have hi:(decide (0<=n)&&decide (n<=2147483647)&&decide (s=[]))=true:=hi;simp only[aG,bu] at hi;obtain⟨mh,rfl⟩:=hi;have hc:decide (c=[])=true:=hc;simp only[bu] at hc;subst hc;obtain rfl:=lU ht;obtain rfl:=yd h2;refine mD rfl fun r K h1 h2=>nR (r:=r) rfl rfl ?_ h2
   exact b8 (h:=fun _=> .ok (.mk 1 n [] [] ai [],r)) (fun f=>by rw[iu];rfl) (bb _)
  ·have hi:(decide (0<=n)&&decide (s=[]))=true:=hi;simp only[aG,bu] at hi;obtain⟨mh,rfl⟩:=hi;have hc:decide (c=[])=true:=hc;simp only[bu] at hc;subst hc;obtain rfl:=lU ht;obtain rfl:=yd h2;refine mD rfl fun r K h1 h2=>nR (r:=r) rfl rfl ?_ h2
   exact b8 (h:=fun _=> .ok (.mk 2 n [] [] ai [],r)) (fun f=>by rw[iu];rfl) (bb _)
  ·have hi:(decide (n=0)&&nT s)=true:=hi;simp only[aG,bu] at hi;obtain⟨rfl,mh⟩:=hi;have hc:decide (c=[])=true:=hc;simp only[bu] at hc;subst hc;obtain rfl:=lU ht;obtain rfl:=yd h2;refine mD rfl fun r K h1 h2=>nR (r:=r) rfl rfl ?_ h2
   exact b8 (h:=fun _=> .ok (.mk 3 0 s [] ai [],r)) (fun f=>by rw[iu];rfl) (bb _)
  ·have hi:(decide (n=0)&&decide (s=[]))=true:=hi;simp only[aG,bu] at hi;obtain⟨rfl,rfl⟩:=hi;have hc:decide (c=[])=true:=hc;simp only[bu] at hc;subst hc;obtain rfl:=lU ht;obtain rfl:=yd h2;refine mD rfl fun r K h1 h2=>nR (r:=r) rfl rfl ?_ h2
   exact wh (by decide) (b8 (h:=fun _=> .ok (.mk 4 0 [] [] ai [],r)) (fun f=>by rw[jt];rfl) (bb _))
  ·have hi:(decide (n=0)&&decide (s=[]))=true:=hi;simp only[aG,bu] at hi;obtain⟨rfl,rfl⟩:=hi;have hc:decide (c=[])=true:=hc;simp only[bu] at hc;subst hc;obtain rfl:=lU ht;obtain rfl:=yd h2;refine mD rfl fun r K h1 h2=>nR (r:=r) rfl rfl ?_ h2
   exact wh (by decide) (b8 (h:=fun _=> .ok (.mk 5 0 [] [] ai [],r)) (fun f=>by rw[jt];rfl) (bb _))
  ·have hi:(du s&&decide (n=0))=true:=hi;simp only[aG,bu] at hi;obtain⟨mh,rfl⟩:=hi;have hc:decide (c=[])=true:=hc;simp only[bu] at hc;subst hc;obtain rfl:=lU ht;obtain rfl:=yd h2;refine mD rfl fun r K h1 h2=>nR (r:=r) rfl rfl ?_ h2
   have hid:=pR mh r;refine b8 (h:=fun _=> .ok (.mk 6 0 s [] ai [],r)) (fun f=> ?_) (bb _);show iu (f+1) (aM s::r)=_;rw[iu,af (by simp [gR,aM]),af (by simp [gR,aM]),af (by simp [gR,aM]),ah hid.1,hid.2.2];rfl
  ·have hi:(du s&&decide (n=0))=true:=hi;simp only[aG,bu] at hi;obtain⟨mh,rfl⟩:=hi;have hc:decide (c=[])=true:=hc;simp only[bu] at hc;subst hc;obtain rfl:=lU ht;obtain⟨x,rfl⟩:=vW h1 h2;have hx:=ih x (by simp);refine mD rfl fun r K h1 h2=> ?_
   have hid:=pR mh r;have e1:aC (.mk 7 0 s [] ai [x])++r=gr (iL x.k) (aC x)++(sg [46]::aM s::r):=by
    show(dU (aS [x]) 0++[sg [46]]++[aM s])++r=_;rw[rM (by simp)];simp
   rw[e1];refine hx.o _ K rfl (b8 (h:=fun f=>fZ f (.mk 7 0 s [] ai [x]) r) (fun f=> ?_) h2);rw[fZ];show an (da (aM s::r)) _=_;rw[hid.2.2];simp only[an,h1];rfl
  ·have hi:(du s&&decide (n=0))=true:=hi;simp only[aG,bu] at hi;obtain⟨mh,rfl⟩:=hi;have hc:dh c=true:=hc;obtain rfl:=lU ht;obtain rfl:=yd h2;refine mD rfl fun r K h1 h2=>nR (r:=r) rfl rfl ?_ h2
   have hid:=pR mh r;have cu:=wk hc (sg [46]::aM s::r);refine b8 (h:=fun _=> .ok (.mk 8 0 s c ai [],r)) (fun f=> ?_) (bb _);show iu (f+1) (aM c::sg [46]::aM s::r)=_;rw[iu,af (by simp [gR,aM]),af (by simp [gR,aM]),af (by simp [gR,aM]),af (by rw[cu.2.1];decide),ah cu.1,cu.2.2];show an (da (aM s::r)) _=_;rw[hid.2.2];simp only[an,h1];rfl
  ·have hi:(decide (n=0)&&decide (s=[]))=true:=hi;simp only[aG,bu] at hi;obtain⟨rfl,rfl⟩:=hi;have hc:decide (c=[])=true:=hc;simp only[bu] at hc;subst hc;obtain rfl:=lU ht;obtain⟨x,y,rfl⟩:=RM h1 h2;have hx:=ih x (by simp);have hy:=ih y (by simp);refine mD rfl fun r K h1 h2=> ?_
   have e1:aC (.mk 9 0 [] [] ai [x,y])++r=gr (iL x.k) (aC x)++(sg [91]::(aC y++(sg [93]::r))):=by
    show(dU (aS [x,y]) 0++[sg [91]]++fN (aS [x,y]) 1++[sg [93]])++r=_;rw[rM (by simp),Aq (by simp)];simp
   rw[e1];refine hx.o _ K rfl (b8 (h:=fun f=>an (cC f 0 (aC y++(sg [93]::r))) fun i r=>aV [93] r fun r2=>fZ f (.mk 9 0 [] [] ai [x,i]) r2) (fun f=>by rw[fZ];rfl) (dE (hy.z _ (nr (by decide) _)) h2))
  ·have hi:(du s&&decide (n=0))=true:=hi;simp only[aG,bu] at hi;obtain⟨mh,rfl⟩:=hi;have hc:decide (c=[])=true:=hc;simp only[bu] at hc;subst hc;obtain rfl:=lU ht;have h1:(1:Int)<=args.length:=h1;cases args with
   |nil=>exact absurd h1 (by decide)
   |cons x es=>
    have hx:=ih x (by simp);have akE:gl es=true:=by simp only[gl,aG] at gB;exact gB.2
    refine mD rfl fun r K h1 h2=> ?_
    have hid:=pR mh (bh (es.map aC)++r);have e1:aC (.mk 10 0 s [] ai (x::es))++r=gr (iL x.k) (aC x)++(sg [46]::aM s::(bh (es.map aC)++r)):=by
     show(dU (aS (x::es)) 0++[sg [46]]++[aM s]++bh (((aS (x::es)).drop 1).map (·.2)))++r=_;rw[rM (by simp),Ri];simp
    rw[e1];refine hx.o _ K rfl (b8 (h:=fun f=>an (gK f (bh (es.map aC)++r)) fun es r2=>fZ f (.mk 10 0 s [] ai (x::es)) r2) (fun f=> ?_) (dE (Ct (fun e he=>He e (bR _ he)) akE r) h2));rw[fZ];show an (da (aM s::(bh (es.map aC)++r))) _=_;rw[hid.2.2];rfl
  ·have hi:(du s&&decide (n=0))=true:=hi;simp only[aG,bu] at hi;obtain⟨mh,rfl⟩:=hi;have hc:dh c=true:=hc;obtain rfl:=lU ht;refine mD rfl fun r K h1 h2=>nR (r:=r) rfl rfl ?_ h2
   have hid:=pR mh (bh (args.map aC)++r);have cu:=wk hc (sg [46]::aM s::(bh (args.map aC)++r));have e1:aC (.mk 11 0 s c ai args)++r=aM c::sg [46]::aM s::(bh (args.map aC)++r):=by
    show([aM c]++[sg [46]]++[aM s]++bh ((aS args).map (·.2)))++r=_;rw[Cx];simp
   rw[e1];refine b8 (h:=fun f=>an (gK f (bh (args.map aC)++r)) fun es r4=> .ok (.mk 11 0 s c ai es,r4)) (fun f=> ?_) (dE (Ct He gB r) (bb _));rw[iu,af (by simp [gR,aM]),af (by simp [gR,aM]),af (by simp [gR,aM]),af (by rw[cu.2.1];decide),ah cu.1,cu.2.2];show an (da (aM s::(bh (args.map aC)++r))) _=_;rw[hid.2.2];rfl
  ·have hi:(du s&&decide (n=0))=true:=hi;simp only[aG,bu] at hi;obtain⟨mh,rfl⟩:=hi;have hc:decide (c=[])=true:=hc;simp only[bu] at hc;subst hc;obtain rfl:=lU ht;refine mD rfl fun r K h1 h2=>nR (r:=r) rfl rfl ?_ h2
   have hid:=pR mh (bh (args.map aC)++r);have e1:aC (.mk 12 0 s [] ai args)++r=kw [115,117,112,101,114]::sg [46]::aM s::(bh (args.map aC)++r):=by
    show([kw [115,117,112,101,114]]++[sg [46]]++[aM s]++bh ((aS args).map (·.2)))++r=_;rw[Cx];simp
   rw[e1];refine wh (by decide) (b8 (h:=fun f=>an (gK f (bh (args.map aC)++r)) fun es r3=> .ok (.mk 12 0 s [] ai es,r3)) (fun f=> ?_) (dE (Ct He gB r) (bb _)));rw[jt];show an (da (aM s::(bh (args.map aC)++r))) _=_;rw[hid.2.2];rfl
  ·have hi:(decide (n=0)&&decide (s=[]))=true:=hi;simp only[aG,bu] at hi;obtain⟨rfl,rfl⟩:=hi;have hc:dh c=true:=hc;obtain rfl:=lU ht;refine mD rfl fun r K h1 h2=>nR (r:=r) rfl rfl ?_ h2
   have e1:aC (.mk 13 0 [] c ai args)++r=kw [110,101,119]::aM c::(bh (args.map aC)++r):=by
    show([kw [110,101,119]]++[aM c]++bh ((aS args).map (·.2)))++r=_;rw[Cx];simp
   rw[e1];have hb:jq (aM c::(bh (args.map aC)++r))= .ok (⟨0,76,c⟩,bh (args.map aC)++r):=by
    have cu:=wk hc (bh (args.map aC)++r);simp only[jq,cu.2.2,an];rfl
   refine wh (by decide) (b8 (h:=fun f=>an (gK f (bh (args.map aC)++r)) fun es r2=> .ok (.mk 13 0 [] c ai es,r2)) (fun f=> ?_) (dE (Ct He gB r) (bb _)));rw[jt];show an (jq (aM c::(bh (args.map aC)++r))) _=_;rw[hb];rfl
  ·have hi:(decide (n=0)&&decide (s=[]))=true:=hi;simp only[aG,bu] at hi;obtain⟨rfl,rfl⟩:=hi;have hc:decide (c=[])=true:=hc;simp only[bu] at hc;subst hc;have ht:(dD ty.dim ty.base ty.name&&(decide ((14:Int)≠14)||decide (ty.dim<8)))=true:=ht;rw[aG] at ht;obtain⟨x,rfl⟩:=vW h1 h2;have hx:=ih x (by simp);refine mD rfl fun r K h1 h2=>nR (r:=r) rfl rfl ?_ h2
   have Hq:=zD ht.1;have hdx:=Mx x (by simp);have e1:aC (.mk 14 0 [] [] ty [x])++r=kw [110,101,119]::ja ty.base ty.name::(sg [91]::((List.replicate ty.dim.toNat [sg [93],sg [91]]).flatten++(aC x++(sg [93]::r)))):=by
    show([kw [110,101,119]]++b5 ty.dim ty.base ty.name++[sg [91]]++fN (aS [x]) 0++[sg [93]])++r=_;rw[Aq (by simp),<- Po];simp [b5,ij]
   rw[e1];have hb:=SM ht.1 (sg [91]::((List.replicate ty.dim.toNat [sg [93],sg [91]]).flatten++(aC x++(sg [93]::r))));refine wh (by decide) (b8 (h:=fun f=>an (cC f 0 (aC x++(sg [93]::r))) fun e r4=>aV [93] r4 fun r5=> .ok (.mk 14 0 [] [] ty [e],r5)) (fun f=> ?_) (dE (hx.z _ (nr (by decide) _)) (bb _)));rw[jt];show an (jq (ja ty.base ty.name::(sg [91]::((List.replicate ty.dim.toNat [sg [93],sg [91]]).flatten++(aC x++(sg [93]::r)))))) _=_;rw[hb];have VF:=Te ty.dim.toNat ((List.replicate ty.dim.toNat [sg [93],sg [91]]).flatten++(aC x++(sg [93]::r))).length ⟨0,ty.base,ty.name⟩ (aC x++(sg [93]::r)) (by rw[aI,List.length_flatten];simp;omega) (qF (kU hdx) (by decide));have bM:(⟨0+(ty.dim.toNat:Int),ty.base,ty.name⟩:Ty)=ty:=by
    cases ty;simp only at Hq ⊢;simp only[Ty.mk.injEq,and_true];omega
   rw[bM] at VF;show(if ty.base=76/\az [40] (sg [91]::((List.replicate ty.dim.toNat [sg [93],sg [91]]).flatten++(aC x++(sg [93]::r))))=true then _ else _)=_;rw[af (by simp [az,sg])];show an (iK ((List.replicate ty.dim.toNat [sg [93],sg [91]]).flatten++(aC x++(sg [93]::r))).length ⟨0,ty.base,ty.name⟩ ((List.replicate ty.dim.toNat [sg [93],sg [91]]).flatten++(aC x++(sg [93]::r)))) _=_;rw[VF];rfl
  ·have hi:(decide (n=0)&&(decide (s=[45])||decide (s=[33])))=true:=hi;simp only[aG,Bool.or_eq_true,bu] at hi;obtain⟨rfl,mh⟩:=hi;have hc:decide (c=[])=true:=hc;simp only[bu] at hc;subst hc;obtain rfl:=lU ht;obtain⟨x,rfl⟩:=vW h1 h2;have hx:=ih x (by simp);refine Gc rfl fun r hf=> ?_
   have e1:aC (.mk 15 0 s [] ai [x])++r=sg s::(gr (iL x.k) (aC x)++r):=by
    show([sg s]++dU (aS [x]) 0)++r=_;rw[rM (by simp)];simp
   rw[e1];refine zP (k:=10) (n:=0) (by omega) (Iu ?_) hf;have hu:=hx.o r _ hf.lp (Jh hf.dot hf.lb);rcases mh with rfl |rfl
   ·exact b8 (h:=fun f=>an (gT f (gr (iL x.k) (aC x)++r)) fun x r=> .ok (.mk 15 0 [45] [] ai [x],r)) (fun f=>by rw[gT];rfl) (dE hu (bb _))
   ·exact b8 (h:=fun f=>an (gT f (gr (iL x.k) (aC x)++r)) fun x r=> .ok (.mk 15 0 [33] [] ai [x],r)) (fun f=>by rw[gT];rfl) (dE hu (bb _))
  ·have hi:(decide (n=0)&&opsL.contains s)=true:=hi;simp only[aG,bu,List.contains_iff_mem] at hi;obtain⟨rfl,mh⟩:=hi;have hc:decide (c=[])=true:=hc;simp only[bu] at hc;subst hc;obtain rfl:=lU ht;obtain⟨x,y,rfl⟩:=RM h1 h2;have hx:=ih x (by simp);have hy:=ih y (by simp);refine Gc rfl fun r hf=> ?_
   obtain⟨m,hm,hs,hfo⟩:=acP s mh;have e1:aC (.mk 16 0 s [] ai [x,y])++r=gr (iL x.k) (aC x)++(sg s::(gr (iL y.k) (aC y)++r)):=by
    show(dU (aS [x,y]) 0++[sg s]++dU (aS [x,y]) 1)++r=_;rw[rM (by simp),rM (by simp)];simp
   rw[e1];refine zP (k:=m) (n:=0) (by omega) ?_ hf;rw[Nat.zero_add];refine b8 (h:=fun f=>an (cC f (m+1) (gr (iL x.k) (aC x)++(sg s::(gr (iL y.k) (aC y)++r)))) fun e r=>fT f m e r) (fun f=>by rw[cC,af (by omega)]) (dE (Gg hx (by omega) (nr hfo _)) ?_);refine b8 (h:=fun f=>an (cC f (m+1) (gr (iL y.k) (aC y)++r)) fun z r=>fT f m (.mk 16 0 s [] ai [x,z]) r) (fun f=> ?_) (dE (Gg hy (by omega) (hf.up (by omega))) (Fh (by omega) (hf.up (by omega))));rw[fT,ah]
   ·rfl
   ·simp [iJ,gR,j7,sg,hs]
  ·have hi:(decide (n=0)&&decide (s=[]))=true:=hi;simp only[aG,bu] at hi;obtain⟨rfl,rfl⟩:=hi;have hc:decide (c=[])=true:=hc;simp only[bu] at hc;subst hc;have ht:(dD ty.dim ty.base ty.name&&(decide ((17:Int)≠14)||decide (ty.dim<8)))=true:=ht;rw[aG] at ht;obtain⟨x,rfl⟩:=vW h1 h2;have hx:=ih x (by simp);refine Gc rfl fun r hf=> ?_
   have e1:aC (.mk 17 0 [] [] ty [x])++r=gr (iL x.k) (aC x)++(kw [97,115]::(b5 ty.dim ty.base ty.name++r)):=by
    show(dU (aS [x]) 0++[kw [97,115]]++b5 ty.dim ty.base ty.name)++r=_;rw[rM (by simp)];simp
   rw[e1];refine zP (k:=6) (n:=0) (by omega) ?_ hf;rw[Nat.zero_add];refine b8 (h:=fun f=>an (cC f 7 (gr (iL x.k) (aC x)++(kw [97,115]::(b5 ty.dim ty.base ty.name++r)))) fun e r=>fT f 6 e r) (fun f=>by rw[cC,af (by omega)]) (dE (Gg hx (by omega) (nr (by decide) _)) ?_);refine b8 (h:=fun f=>fT f 6 (.mk 17 0 [] [] ty [x]) r) (fun f=> ?_) (Fh (by omega) (hf.up (by omega)));rw[fT];show an (eY (b5 ty.dim ty.base ty.name++r)) _=_;rw[xZ ht.1 r hf.lb];rfl
  ·have hi:(decide (n=0)&&decide (s=[]))=true:=hi;simp only[aG,bu] at hi;obtain⟨rfl,rfl⟩:=hi;have hc:decide (c=[])=true:=hc;simp only[bu] at hc;subst hc;have ht:(dD ty.dim ty.base ty.name&&(decide ((18:Int)≠14)||decide (ty.dim<8)))=true:=ht;rw[aG] at ht;obtain⟨x,rfl⟩:=vW h1 h2;have hx:=ih x (by simp);refine Gc rfl fun r hf=> ?_
   have e1:aC (.mk 18 0 [] [] ty [x])++r=gr (iL x.k) (aC x)++(kw [105,115]::(b5 ty.dim ty.base ty.name++r)):=by
    show(dU (aS [x]) 0++[kw [105,115]]++b5 ty.dim ty.base ty.name)++r=_;rw[rM (by simp)];simp
   rw[e1];refine zP (k:=6) (n:=0) (by omega) ?_ hf;rw[Nat.zero_add];refine b8 (h:=fun f=>an (cC f 7 (gr (iL x.k) (aC x)++(kw [105,115]::(b5 ty.dim ty.base ty.name++r)))) fun e r=>fT f 6 e r) (fun f=>by rw[cC,af (by omega)]) (dE (Gg hx (by omega) (nr (by decide) _)) ?_);refine b8 (h:=fun f=>fT f 6 (.mk 18 0 [] [] ty [x]) r) (fun f=> ?_) (Fh (by omega) (hf.up (by omega)));rw[fT];show an (eY (b5 ty.dim ty.base ty.name++r)) _=_;rw[xZ ht.1 r hf.lb];rfl
  ·have hi:(decide (n=0)&&decide (s=[]))=true:=hi;simp only[aG,bu] at hi;obtain⟨rfl,rfl⟩:=hi;have hc:decide (c=[])=true:=hc;simp only[bu] at hc;subst hc;obtain rfl:=lU ht;obtain⟨x,rfl⟩:=vW h1 h2;have hx:=ih x (by simp);refine mD rfl fun r K h1 h2=>nR (r:=r) rfl rfl ?_ h2
   have e1:aC (.mk 19 0 [] [] ai [x])++r=kw [108,101,110]::(bh [aC x]++r):=by
    show([kw [108,101,110]]++bh [fN (aS [x]) 0])++r=_;rw[Aq (by simp)];simp
   rw[e1];exact wh (by decide) (b8 (h:=fun f=>an (fk f (bh [aC x]++r)) fun e r=> .ok (.mk 19 0 [] [] ai [e],r)) (fun f=>by rw[jt];rfl) (dE (vZ hx.z r) (bb _)))
  ·have hi:(decide (n=0)&&decide (s=[]))=true:=hi;simp only[aG,bu] at hi;obtain⟨rfl,rfl⟩:=hi;have hc:decide (c=[])=true:=hc;simp only[bu] at hc;subst hc;obtain rfl:=lU ht;obtain⟨x,rfl⟩:=vW h1 h2;have hx:=ih x (by simp);refine mD rfl fun r K h1 h2=>nR (r:=r) rfl rfl ?_ h2
   have e1:aC (.mk 20 0 [] [] ai [x])++r=kw iM::(bh [aC x]++r):=by
    show([kw iM]++bh [fN (aS [x]) 0])++r=_;rw[Aq (by simp)];simp
   rw[e1];exact wh (by decide) (b8 (h:=fun f=>an (fk f (bh [aC x]++r)) fun e r=> .ok (.mk 20 0 [] [] ai [e],r)) (fun f=>by rw[jt];rfl) (dE (vZ hx.z r) (bb _)))
  ·have hi:(decide (n=0)&&decide (s=[]))=true:=hi;simp only[aG,bu] at hi;obtain⟨rfl,rfl⟩:=hi;have hc:decide (c=[])=true:=hc;simp only[bu] at hc;subst hc;obtain rfl:=lU ht;obtain⟨x,rfl⟩:=vW h1 h2;have hx:=ih x (by simp);refine mD rfl fun r K h1 h2=>nR (r:=r) rfl rfl ?_ h2
   have e1:aC (.mk 21 0 [] [] ai [x])++r=kw iI::(bh [aC x]++r):=by
    show([kw iI]++bh [fN (aS [x]) 0])++r=_;rw[Aq (by simp)];simp
   rw[e1];exact wh (by decide) (b8 (h:=fun f=>an (fk f (bh [aC x]++r)) fun e r=> .ok (.mk 21 0 [] [] ai [e],r)) (fun f=>by rw[jt];rfl) (dE (vZ hx.z r) (bb _)))
/-! Equal is the same. -/
theorem Ty.of_eq {x y:Ty} (h:Ty.eq x y=true):x=y:=by
 cases x;cases y;simp only[Ty.eq,aG,bu] at h;obtain⟨rfl,rfl,rfl⟩:=h;rfl
mutual
theorem J7:∀(a b:Ex),iG a b=true->a=b
 | .mk k n s c ty args,.mk k' n' s' c' dT jb,h=>by
  simp only[iG,aG,bu] at h;have h1:=R0 args jb (by grind);have h2:ty=dT:=Ty.of_eq (by grind);subst h1 h2;congr 1<;>grind
theorem R0:∀(a b:List Ex),lI a b=true->a=b
 |[],[],_=>rfl
 |[],_::_,h=>by simp only[lI] at h;cases h
 |_::_,[],h=>by simp only[lI] at h;cases h
 |x::r,y::t,h=>by
  simp only[lI,aG] at h;rw[J7 x y h.1,R0 r t h.2]
end
mutual
theorem S9:∀(a b:St),dq a b=true->a=b
 | .mk k nm ty tg ex body alt,.mk k' fP dT yM zm pX yI,h=>by
  simp only[dq,aG,bu] at h;have h1:=JL body pX (by grind);have h2:=JL alt yI (by grind);have h3:=J7 tg yM (by grind);have h4:=J7 ex zm (by grind);have h5:ty=dT:=Ty.of_eq (by grind);subst h1 h2 h3 h4 h5;congr 1<;>grind
theorem JL:∀(a b:List St),gv a b=true->a=b
 |[],[],_=>rfl
 |[],_::_,h=>by simp only[gv] at h;cases h
 |_::_,[],h=>by simp only[gv] at h;cases h
 |x::r,y::t,h=>by
  simp only[gv,aG] at h;rw[S9 x y h.1,JL r t h.2]
end
def sN:List UInt8:=[105,102]
def pV:List UInt8:=[101,108,115,101]
def uU:List UInt8:=[119,104,105,108,101]
def tM:List UInt8:=[114,101,116,117,114,110]
def uV:List UInt8:=[116,104,114,111,119]
def vg:List UInt8:=[116,114,121]
def nu:List UInt8:=[99,97,116,99,104]
def u9:List UInt8:=[115,121,110,99]
def rL:List UInt8:=[115,117,112,101,114]
def lE (l:List Tk):Bool:=if(az iM l||az iI l)=true then !az [40] l.tail else gp l&& !az [46] l.tail
mutual
def dN:Nat->List Tk->PR (List St)
 |0,l=> .error l
 |f+1,l=>aV [123] l fun r=>ka f [] r
def ka:Nat->List St->List Tk->PR (List St)
 |0,_,l=> .error l
 |f+1,acc,l=>if az [125] l=true then .ok (acc,l.tail) else an (gq f l) fun s r=>ka f (acc++[s]) r
def gq:Nat->List Tk->PR St
 |0,l=> .error l
 |f+1,l=>
  if az sN l=true then an (fk f l.tail) fun e r=>an (dN f r) fun b r2=>
   if az pV r2=true then an (dN f r2.tail) fun a r3=> .ok (.mk 4 [] ai zE e b a,r3) else .ok (.mk 4 [] ai zE e b [],r2)
  else if az uU l=true then an (fk f l.tail) fun e r=>an (dN f r) fun b r2=> .ok (.mk 5 [] ai zE e b [],r2)
  else if az tM l=true then
   if az [59] l.tail=true then .ok (.mk 6 [] ai zE zE [] [],l.tail.tail) else an (cC f 0 l.tail) fun e r=>aV [59] r fun r2=> .ok (.mk 6 [] ai zE e [] [],r2)
  else if az uV l=true then an (cC f 0 l.tail) fun e r=>aV [59] r fun r2=> .ok (.mk 7 [] ai zE e [] [],r2)
  else if az vg l=true then an (dN f l.tail) fun b r=>aV nu r fun r2=>aV [40] r2 fun r3=>an (eY r3) fun t r4=>an (da r4) fun s r5=>aV [41] r5 fun r6=>an (dN f r6) fun a r7=> .ok (.mk 8 s t zE zE b a,r7)
  else if az u9 l=true then an (fk f l.tail) fun e r=>an (dN f r) fun b r2=> .ok (.mk 9 [] ai zE e b [],r2)
  else if az [123] l=true then an (dN f l) fun b r=> .ok (.mk 10 [] ai zE zE b [],r)
  else if az rL l=true/\az [40] l.tail=true then an (gK f l.tail) fun es r=>aV [59] r fun r2=> .ok (.mk 11 [] ai zE (.mk 0 0 [] [] ai es) [] [],r2)
  else if lE l=true then an (eY l) fun t r=>an (da r) fun s r2=>aV [61] r2 fun r3=>an (cC f 0 r3) fun e r4=>aV [59] r4 fun r5=> .ok (.mk 1 s t zE e [] [],r5)
  else an (cC f 0 l) fun e r=>
   if az [61] r=true then an (cC f 0 r.tail) fun x r2=>aV [59] r2 fun r3=> .ok (.mk 2 [] ai e x [] [],r3)
   else aV [59] r fun r2=> .ok (.mk 3 [] ai zE e [] [],r2)
end
def RS (s:St):Prop:=∀r,az pV r=false->bG (fun f=>gq f (cT s++r)) (.ok (s,r))
def Bn (l:List Tk):Prop:=∀r,az [125] (l++r)=false/\az pV (l++r)=false
theorem yb {w:List UInt8} {l:List Tk} (h1:w≠[125]) (h2:w≠pV):Bn (kw w::l):=fun r=>by simp [az,kw,h1,h2]
theorem S4 {e:Ex} (h:bD e=true) (l:List Tk):Bn (aC e++l):=fun r=>by
 have hh:ql (aC e++l++r):=kU (kU (FM e h));exact⟨qF hh (by decide),qF hh (by decide)⟩
theorem aeH {t:Ty} (h:dD t.dim t.base t.name=true) (l:List Tk):Bn (b5 t.dim t.base t.name++l):=fun r=>by
 obtain⟨_,_,h3⟩:=zD h;have e:∀w,az w (b5 t.dim t.base t.name++l++r)=az w [ja t.base t.name]:=fun w=>rfl
 rw[e,e];rcases h3 with ⟨h1,_⟩ |⟨h1,_⟩ |⟨h1,_⟩
 ·rw[h1];exact⟨rfl,rfl⟩
 ·rw[h1];exact⟨rfl,rfl⟩
 ·rw[h1];have:ja 76 t.name=aM t.name:=rfl;rw[this];exact⟨rfl,rfl⟩
theorem J5 {s:St} (hv:fv s=true):Bn (cT s):=by
 cases s with
 |mk k nm ty tg ex body alt=>
  simp only[fv,aG] at hv;have aU:=hv.1;rcases BB aU with rfl |rfl |rfl |rfl |rfl |rfl |rfl |rfl |rfl |rfl |rfl
  ·have aA:(du nm&&dD ty.dim ty.base ty.name&&bD ex)=true:=aU;simp only[aG] at aA;have e:cT (.mk 1 nm ty tg ex body alt)=b5 ty.dim ty.base ty.name++(aM nm::sg [61]::(aC ex++[sg [59]])):=by
    show(b5 ty.dim ty.base ty.name++[aM nm]++[sg [61]]++aC ex)++[sg [59]]=_;simp
   rw[e];exact aeH aA.1.2 _
  ·have aA:(nj tg&&bD ex)=true:=aU;simp only[aG] at aA;have e:cT (.mk 2 nm ty tg ex body alt)=aC tg++(sg [61]::(aC ex++[sg [59]])):=by
    show(aC tg++[sg [61]]++aC ex)++[sg [59]]=_;simp
   rw[e];exact S4 (zz aA.1) _
  ·have aA:nC ex=true:=aU;exact S4 (zK aA) [sg [59]]
  ·exact yb (by decide) (by decide)
  ·exact yb (by decide) (by decide)
  ·exact yb (by decide) (by decide)
  ·exact yb (by decide) (by decide)
  ·exact yb (by decide) (by decide)
  ·exact yb (by decide) (by decide)
  ·exact fun r=>⟨rfl,rfl⟩
  ·exact yb (by decide) (by decide)
theorem PO:∀(l acc:List St) (r:List Tk),(∀s∈l,RS s/\Bn (cT s))->bG (fun f=>ka f acc (be l++(sg [125]::r))) (.ok (acc++l,r))
 |[],acc,r,_=>b8 (h:=fun _=> .ok (acc++[],r)) (fun f=>by rw[ka];simp [be,az,sg]) (bb _)
 |s::l,acc,r,h=>by
  have ih:=PO l (acc++[s]) r fun x hx=>h x (bR _ hx)
  have hs:=h s (b6 ..);have e1:be (s::l)++(sg [125]::r)=cT s++(be l++(sg [125]::r)):=by simp [be]
  rw[e1];refine b8 (h:=fun f=>an (gq f (cT s++(be l++(sg [125]::r)))) fun s r=>ka f (acc++[s]) r) (fun f=>by rw[ka,(hs.2 _).1];rfl) (dE (hs.1 _ ?_) ?_)
  ·cases l with
   |nil=>rfl
   |cons x l=>
    have:=((h x (by simp)).2 (be l++(sg [125]::r))).2;simpa [be] using this
  ·simpa using ih
theorem Jy {l:List St} (h:∀s∈l,RS s/\Bn (cT s)) (r:List Tk):bG (fun f=>dN f (bl (be l)++r)) (.ok (l,r)):=by
 have e1:bl (be l)++r=sg [123]::(be l++(sg [125]::r)):=by simp [bl]
 rw[e1];exact b8 (h:=fun f=>ka f [] (be l++(sg [125]::r))) (fun f=>by rw[dN];rfl) (by simpa using PO l [] r h)
theorem af5 {e:Ex} (h:jn e=true):e=zE:=by
 cases e with
 |mk k n s c ty args=>
  simp only[jn,jm,aG,bu] at h;obtain⟨⟨⟨⟨⟨h0,rfl⟩,rfl⟩,rfl⟩,rfl⟩,h1⟩:=h;rw[Ty.of_eq h1,List.length_eq_zero_iff.1 h0];rfl
theorem aao {e:Ex} (h:np e=true):e= .mk 0 0 [] [] ai e.args:=by
 cases e with
 |mk k n s c ty args=>
  simp only[np,jm,aG,bu] at h;obtain⟨⟨⟨⟨⟨⟨⟨_,rfl⟩,rfl⟩,rfl⟩,rfl⟩,h1⟩,_⟩,_⟩:=h;rw[Ty.of_eq h1];rfl
theorem rR {e:Ex} (h:bD e=true):zr e:=(Sv _ e (av _) h).z
def sZ (l:List Tk):Prop:=∀r,lE (l++r)=false/\¬(az rL (l++r)=true/\az [40] (l++r).tail=true)
theorem oM {a b:List Tk} (h:sZ a):sZ (a++b):=fun r=>by
 rw[List.append_assoc];exact h (b++r)
theorem rN {t:Tk} (l:List Tk) (h1:az iM [t]=false) (h2:az iI [t]=false) (h3:gp [t]=false) (h4:az rL [t]=false):sZ (t::l):=fun r=>by
 have e:∀w,az w (t::l++r)=az w [t]:=fun w=>rfl
 have e2:gp (t::l++r)=gp [t]:=rfl;refine⟨?_,?_⟩
 ·rw[lE,e,e,e2,h1,h2,h3];rfl
 ·rw[e,h4];simp
theorem ac3 (l:List (List Tk)):sZ (bh l):=rN (t:=sg [40]) _ rfl rfl rfl rfl
theorem ae1 {b:Bool} {t:List Tk} (h:sZ t):sZ (gr b t):=by
 cases b
 ·exact h
 ·exact ac3 _
theorem ag5 {s:List UInt8} (h:du s=true) (l:List Tk):sZ (aM s::l):=rN _ rfl rfl (pR h []).2.1 rfl
theorem Tf {s:List UInt8} (l:List Tk):sZ (aM s::sg [46]::l):=fun r=>by
 have h1:az iM (aM s::sg [46]::l++r)=false:=rfl;have h2:az iI (aM s::sg [46]::l++r)=false:=rfl;have h3:az [46] (aM s::sg [46]::l++r).tail=true:=rfl;have h4:az rL (aM s::sg [46]::l++r)=false:=rfl;refine⟨?_,?_⟩
 ·rw[lE,h1,h2,h3];simp
 ·rw[h4];simp
mutual
theorem Sw:∀(e:Ex),bD e=true->sZ (aC e)
 | .mk k n s c ty args,hv=>by
  simp only[bD,aG] at hv;obtain⟨hn,gB⟩:=hv;have hx:=QT args gB;obtain⟨hk,har,_⟩:=zO hn;simp only[aC];simp only[mN,aG,bu] at hn;have hi:=hn.1.1.2;have o0:1<=args.length->sZ (dU (aS args) 0):=fun h=>by rw[rM (by omega)];exact ae1 (hx _ (List.getElem_mem _))
  rcases kinds hk with h |h |h |h |h |h |h |h |h |h |h |h |h |h |h |h |h |h |h |h |h<;>subst h
  ·exact rN _ rfl rfl rfl rfl
  ·exact rN _ rfl rfl rfl rfl
  ·exact rN _ rfl rfl rfl rfl
  ·exact rN _ rfl rfl rfl rfl
  ·exact rN _ rfl rfl rfl rfl
  ·have hi:(du s&&decide (n=0))=true:=hi;simp only[aG,bu] at hi;exact ag5 hi.1 []
  ·exact oM (oM (o0 (by simp [eR] at har;omega)))
  ·exact Tf _
  ·exact oM (oM (oM (o0 (by simp [eR] at har;omega))))
  ·exact oM (oM (oM (o0 (by simp [eR] at har;omega))))
  ·exact Tf _
  ·exact fun r=>⟨rfl,fun h=>by have h2:false=true:=h.2;cases h2⟩
  ·exact rN _ rfl rfl rfl rfl
  ·exact rN _ rfl rfl rfl rfl
  ·have hi:(decide (n=0)&&(decide (s=[45])||decide (s=[33])))=true:=hi;simp only[aG,Bool.or_eq_true,bu] at hi;rcases hi.2 with rfl |rfl<;>exact rN _ rfl rfl rfl rfl
  ·exact oM (oM (o0 (by simp [eR] at har;omega)))
  ·exact oM (oM (o0 (by simp [eR] at har;omega)))
  ·exact oM (oM (o0 (by simp [eR] at har;omega)))
  ·exact rN _ rfl rfl rfl rfl
  ·exact fun r=>⟨rfl,by intro h;cases h.1⟩
  ·exact fun r=>⟨rfl,by intro h;cases h.1⟩
theorem QT:∀(l:List Ex),gl l=true->∀x∈l,sZ (aC x)
 |[],_,x,hx=>by cases hx
 |e::r,hv,x,hx=>by
  simp only[gl,aG] at hv;rcases List.mem_cons.1 hx with hx |hx
  ·rw[hx];exact Sw e hv.1
  ·exact QT r hv.2 x hx
end
theorem Rn {e:Ex} (h:bD e=true) (r:List Tk) (f:Nat):gq (f+1) (aC e++r)=an (cC f 0 (aC e++r)) fun e r=>
  if az [61] r=true then an (cC f 0 r.tail) fun x r2=>aV [59] r2 fun r3=> .ok (.mk 2 [] ai e x [] [],r3) else aV [59] r fun r2=> .ok (.mk 3 [] ai zE e [] [],r2):=by
 have hh:ql (aC e++r):=kU (FM e h);have hn:=Sw e h r;rw[gq,qF (w:=sN) hh (by decide),qF (w:=uU) hh (by decide),qF (w:=tM) hh (by decide),qF (w:=uV) hh (by decide),qF (w:=vg) hh (by decide),qF (w:=u9) hh (by decide),qF (w:=[123]) hh (by decide),af hn.2,hn.1];rfl
theorem oN {α:Type} {g h:Nat->α} {K:α} (e:∀f,g f=h f) (H:bG h K):bG g K:=by
 have:g=h:=funext e;rw[this];exact H
theorem J4:∀(h:Nat) (s:St),eT s<=h->fv s=true->RS s
 |0,.mk k nm ty tg ex body alt,hd,_=>by simp [eT] at hd
 |h+1,.mk k nm ty tg ex body alt,hd,hv=>by
  simp only[eT] at hd;have di:=hv;simp only[fv,aG] at hv;obtain⟨aU,hq⟩:=hv;have hq:=S9 _ _ hq;have Bj:∀{q:Bool},(decide (body.length<=32)&&b9 false body&&q)=true->∀r,bG (fun f=>dN f (bl (be body)++r)) (.ok (body,r)):=fun iO r=>by
   simp only[aG] at iO;exact Jy (fun s hs=>⟨J4 h s (by have:=my hs;omega) (rv iO.1.2 s hs),J5 (rv iO.1.2 s hs)⟩) r
  have MJ:∀{q:Bool},(q&&(decide (alt.length<=32)&&b9 false alt))=true->∀r,bG (fun f=>dN f (bl (be alt)++r)) (.ok (alt,r)):=fun iO r=>by
   simp only[aG] at iO;exact Jy (fun s hs=>⟨J4 h s (by have:=my hs;omega) (rv iO.2.2 s hs),J5 (rv iO.2.2 s hs)⟩) r
  intro r hr;rcases BB aU with rfl |rfl |rfl |rfl |rfl |rfl |rfl |rfl |rfl |rfl |rfl
  ·have aA:(du nm&&dD ty.dim ty.base ty.name&&bD ex)=true:=aU;simp only[aG] at aA;have hq:St.mk 1 nm ty tg ex body alt= .mk 1 nm ty zE ex [] []:=hq;simp only[St.mk.injEq,true_and] at hq;obtain⟨rfl,rfl,rfl⟩:=hq;have e1:cT (.mk 1 nm ty zE ex [] [])++r=b5 ty.dim ty.base ty.name++(aM nm::sg [61]::(aC ex++(sg [59]::r))):=by
    show((b5 ty.dim ty.base ty.name++[aM nm]++[sg [61]]++aC ex)++[sg [59]])++r=_;simp
   have hid:=pR aA.1.1 (sg [61]::(aC ex++(sg [59]::r)));have bM:=xZ aA.1.2 (aM nm::sg [61]::(aC ex++(sg [59]::r))) rfl;obtain⟨Hq,_,hb3⟩:=zD aA.1.2;rw[e1];have uk:∀w,az w (b5 ty.dim ty.base ty.name++(aM nm::sg [61]::(aC ex++(sg [59]::r))))=az w [ja ty.base ty.name]:=fun w=>rfl
   have h2:∀w,w=[40]\/w=[46]->az w (b5 ty.dim ty.base ty.name++(aM nm::sg [61]::(aC ex++(sg [59]::r)))).tail=false:=fun w hw=>by
    show az w (ij ty.dim++(aM nm::sg [61]::(aC ex++(sg [59]::r))))=false;unfold ij;cases ty.dim.toNat with
    |zero=>rcases hw with rfl |rfl<;>rfl
    |succ n=>rcases hw with rfl |rfl<;>rfl
   refine b8 (h:=fun f=>an (cC f 0 (aC ex++(sg [59]::r))) fun e r4=>aV [59] r4 fun r5=> .ok (.mk 1 nm ty zE e [] [],r5)) (fun f=> ?_) (dE (rR aA.2 _ (nr (by decide) _)) (bb _));have akT:lE (b5 ty.dim ty.base ty.name++(aM nm::sg [61]::(aC ex++(sg [59]::r))))=true:=by
    rw[lE,uk,uk,h2 _ (.inl rfl),h2 _ (.inr rfl)];rcases hb3 with ⟨g1,_⟩ |⟨g1,_⟩ |⟨g1,g2⟩
    ·rw[g1];rfl
    ·rw[g1];rfl
    ·have hc:gp (b5 ty.dim ty.base ty.name++(aM nm::sg [61]::(aC ex++(sg [59]::r))))=true:=by
      show(decide ((ja ty.base ty.name).k=1)&&dh (ja ty.base ty.name).s)=true;rw[g1];show(decide ((1:Int)=1)&&dh ty.name)=true;rw[g2];rfl
     rw[hc];split<;>rfl
   have nd:∀w,w≠iM->w≠iI->az w [ja ty.base ty.name]=false:=fun w w1 w2=>by
    rcases hb3 with ⟨g1,_⟩ |⟨g1,_⟩ |⟨g1,_⟩
    ·rw[g1];simp [ja,az,kw,Ne.symm w1]
    ·rw[g1];simp [ja,az,kw,Ne.symm w2]
    ·rw[g1];simp [ja,az,aM]
   rw[gq,uk,uk,uk,uk,uk,uk,uk,uk,nd sN (by decide) (by decide),nd uU (by decide) (by decide),nd tM (by decide) (by decide),nd uV (by decide) (by decide),nd vg (by decide) (by decide),nd u9 (by decide) (by decide),nd [123] (by decide) (by decide),nd rL (by decide) (by decide),akT,bM];show an (da (aM nm::sg [61]::(aC ex++(sg [59]::r)))) _=_;rw[hid.2.2];rfl
  ·have aA:(nj tg&&bD ex)=true:=aU;simp only[aG] at aA;have hq:St.mk 2 nm ty tg ex body alt= .mk 2 [] ai tg ex [] []:=hq;simp only[St.mk.injEq,true_and] at hq;obtain⟨rfl,rfl,rfl,rfl⟩:=hq;have e1:cT (.mk 2 [] ai tg ex [] [])++r=aC tg++(sg [61]::(aC ex++(sg [59]::r))):=by
    show((aC tg++[sg [61]]++aC ex)++[sg [59]])++r=_;simp
   rw[e1];have hs:=Rn (zz aA.1) (sg [61]::(aC ex++(sg [59]::r)));refine b8 (h:=fun f=>an (cC f 0 (aC tg++(sg [61]::(aC ex++(sg [59]::r))))) fun e r=>if az [61] r=true then an (cC f 0 r.tail) fun x r2=>aV [59] r2 fun r3=> .ok (.mk 2 [] ai e x [] [],r3) else aV [59] r fun r2=> .ok (.mk 3 [] ai zE e [] [],r2)) hs (dE (rR (zz aA.1) _ (nr (by decide) _)) ?_);exact dE (g:=fun f=>cC f 0 (aC ex++(sg [59]::r))) (rR aA.2 _ (nr (by decide) _)) (bb _)
  ·have aA:nC ex=true:=aU;have hq:St.mk 3 nm ty tg ex body alt= .mk 3 [] ai zE ex [] []:=hq;simp only[St.mk.injEq,true_and] at hq;obtain⟨rfl,rfl,rfl,rfl,rfl⟩:=hq;have e1:cT (.mk 3 [] ai zE ex [] [])++r=aC ex++(sg [59]::r):=by
    show(aC ex++[sg [59]])++r=_;simp
   rw[e1];exact b8 (Rn (zK aA) (sg [59]::r)) (dE (rR (zK aA) _ (nr (by decide) _)) (bb _))
  ·have aA:((decide (body.length<=32)&&b9 false body&&(decide (alt.length<=32)&&b9 false alt))&&bD ex)=true:=aU;rw[aG] at aA;have hq:St.mk 4 nm ty tg ex body alt= .mk 4 [] ai zE ex body alt:=hq;simp only[St.mk.injEq,true_and] at hq;obtain⟨rfl,rfl,rfl,-⟩:=hq;have hB:=Bj aA.1;have hA:=MJ aA.1;have hx:=rR aA.2;clear Bj MJ aU di aA;cases alt with
   |nil=>
    have e1:cT (.mk 4 [] ai zE ex body [])++r=kw sN::(bh [aC ex]++(bl (be body)++r)):=by
     show([kw sN]++bh [aC ex]++bl (be body)++[])++r=_;simp
    rw[e1];refine b8 (h:=fun f=>an (fk f (bh [aC ex]++(bl (be body)++r))) fun e r=>an (dN f r) fun b r2=>if az pV r2=true then an (dN f r2.tail) fun a r3=> .ok (.mk 4 [] ai zE e b a,r3) else .ok (.mk 4 [] ai zE e b [],r2)) (fun f=>by rw[gq];rfl) (dE (vZ hx _) (dE (hB r) ?_));rw[hr];exact bb _
   |cons x l=>
    have e1:cT (.mk 4 [] ai zE ex body (x::l))++r=kw sN::(bh [aC ex]++(bl (be body)++(kw pV::(bl (be (x::l))++r)))):=by
     show([kw sN]++bh [aC ex]++bl (be body)++([kw pV]++bl (be (x::l))))++r=_;simp
    rw[e1];refine b8 (h:=fun f=>an (fk f (bh [aC ex]++(bl (be body)++(kw pV::(bl (be (x::l))++r))))) fun e r=>an (dN f r) fun b r2=>if az pV r2=true then an (dN f r2.tail) fun a r3=> .ok (.mk 4 [] ai zE e b a,r3) else .ok (.mk 4 [] ai zE e b [],r2)) (fun f=>by rw[gq];rfl) (dE (vZ hx _) (dE (hB _) ?_));exact dE (hA r) (bb _)
  ·have aA:((decide (body.length<=32)&&b9 false body&&(decide (alt.length<=32)&&b9 false alt))&&bD ex)=true:=aU;rw[aG] at aA;have hq:St.mk 5 nm ty tg ex body alt= .mk 5 [] ai zE ex body []:=hq;simp only[St.mk.injEq,true_and] at hq;obtain⟨rfl,rfl,rfl,rfl⟩:=hq;have e1:cT (.mk 5 [] ai zE ex body [])++r=kw uU::(bh [aC ex]++(bl (be body)++r)):=by
    show([kw uU]++bh [aC ex]++bl (be body))++r=_;simp
   rw[e1];exact b8 (h:=fun f=>an (fk f (bh [aC ex]++(bl (be body)++r))) fun e r=>an (dN f r) fun b r2=> .ok (.mk 5 [] ai zE e b [],r2)) (fun f=>by rw[gq];rfl) (dE (vZ (rR aA.2) _) (dE (Bj aA.1 r) (bb _)))
  ·have aA:(jn ex||bD ex)=true:=aU;have hq:St.mk 6 nm ty tg ex body alt= .mk 6 [] ai zE ex [] []:=hq;simp only[St.mk.injEq,true_and] at hq;obtain⟨rfl,rfl,rfl,rfl,rfl⟩:=hq;rw[Bool.or_eq_true] at aA;rcases aA with aA |aA
   ·obtain rfl:=af5 aA;have e1:cT (.mk 6 [] ai zE zE [] [])++r=kw tM::sg [59]::r:=rfl;rw[e1];exact b8 (h:=fun f=> .ok (.mk 6 [] ai zE zE [] [],r)) (fun f=>by rw[gq];rfl) (bb _)
   ·have e1:cT (.mk 6 [] ai zE ex [] [])++r=kw tM::(aC ex++(sg [59]::r)):=by
     show(([kw tM]++(if ex.k≠0 then aC ex else[]))++[sg [59]])++r=_;rw[ah (Rh aA)];simp
    have hh:ql (aC ex++(sg [59]::r)):=kU (FM ex aA);rw[e1];refine b8 (h:=fun f=>an (cC f 0 (aC ex++(sg [59]::r))) fun e r=>aV [59] r fun r2=> .ok (.mk 6 [] ai zE e [] [],r2)) (fun f=> ?_) (dE (rR aA _ (nr (by decide) _)) (bb _));rw[gq];show(if az [59] (aC ex++(sg [59]::r))=true then _ else _)=_;rw[qF (w:=[59]) hh (by decide)];rfl
  ·have aA:bD ex=true:=aU;have hq:St.mk 7 nm ty tg ex body alt= .mk 7 [] ai zE ex [] []:=hq;simp only[St.mk.injEq,true_and] at hq;obtain⟨rfl,rfl,rfl,rfl,rfl⟩:=hq;have e1:cT (.mk 7 [] ai zE ex [] [])++r=kw uV::(aC ex++(sg [59]::r)):=by
    show(([kw uV]++aC ex)++[sg [59]])++r=_;simp
   rw[e1];exact b8 (h:=fun f=>an (cC f 0 (aC ex++(sg [59]::r))) fun e r=>aV [59] r fun r2=> .ok (.mk 7 [] ai zE e [] [],r2)) (fun f=>by rw[gq];rfl) (dE (rR aA _ (nr (by decide) _)) (bb _))
  ·have aA:((decide (body.length<=32)&&b9 false body&&(decide (alt.length<=32)&&b9 false alt))&&du nm&&dD ty.dim ty.base ty.name)=true:=aU;rw[aG,aG] at aA;have hq:St.mk 8 nm ty tg ex body alt= .mk 8 nm ty zE zE body alt:=hq;simp only[St.mk.injEq,true_and] at hq;obtain⟨rfl,rfl,-⟩:=hq;have e1:cT (.mk 8 nm ty zE zE body alt)++r=kw vg::(bl (be body)++(kw nu::sg [40]::(b5 ty.dim ty.base ty.name++(aM nm::sg [41]::(bl (be alt)++r))))):=by
    show([kw vg]++bl (be body)++[kw nu]++[sg [40]]++b5 ty.dim ty.base ty.name++[aM nm]++[sg [41]]++bl (be alt))++r=_;simp
   have hid:=pR aA.1.2 (sg [41]::(bl (be alt)++r));have bM:=xZ aA.2 (aM nm::sg [41]::(bl (be alt)++r)) rfl;rw[e1];refine b8 (h:=fun f=>an (dN f (bl (be body)++(kw nu::sg [40]::(b5 ty.dim ty.base ty.name++(aM nm::sg [41]::(bl (be alt)++r)))))) fun b r=>aV nu r fun r2=>aV [40] r2 fun r3=>an (eY r3) fun t r4=>an (da r4) fun s r5=>aV [41] r5 fun r6=>an (dN f r6) fun a r7=> .ok (.mk 8 s t zE zE b a,r7)) (fun f=>by rw[gq];rfl) (dE (Bj aA.1.1 _) ?_);refine oN (h:=fun f=>an (dN f (bl (be alt)++r)) fun a r7=> .ok (.mk 8 nm ty zE zE body a,r7)) (fun f=> ?_) (dE (MJ aA.1.1 r) (bb _));show an (eY (b5 ty.dim ty.base ty.name++(aM nm::sg [41]::(bl (be alt)++r)))) _=_;rw[bM];show an (da (aM nm::sg [41]::(bl (be alt)++r))) _=_;rw[hid.2.2];rfl
  ·have aA:((decide (body.length<=32)&&b9 false body&&(decide (alt.length<=32)&&b9 false alt))&&bD ex)=true:=aU;rw[aG] at aA;have hq:St.mk 9 nm ty tg ex body alt= .mk 9 [] ai zE ex body []:=hq;simp only[St.mk.injEq,true_and] at hq;obtain⟨rfl,rfl,rfl,rfl⟩:=hq;have e1:cT (.mk 9 [] ai zE ex body [])++r=kw u9::(bh [aC ex]++(bl (be body)++r)):=by
    show([kw u9]++bh [aC ex]++bl (be body))++r=_;simp
   rw[e1];exact b8 (h:=fun f=>an (fk f (bh [aC ex]++(bl (be body)++r))) fun e r=>an (dN f r) fun b r2=> .ok (.mk 9 [] ai zE e b [],r2)) (fun f=>by rw[gq];rfl) (dE (vZ (rR aA.2) _) (dE (Bj aA.1 r) (bb _)))
  ·have aA:(decide (body.length<=32)&&b9 false body&&(decide (alt.length<=32)&&b9 false alt))=true:=aU;have hq:St.mk 10 nm ty tg ex body alt= .mk 10 [] ai zE zE body []:=hq;simp only[St.mk.injEq,true_and] at hq;obtain⟨rfl,rfl,rfl,rfl,rfl⟩:=hq;have e1:cT (.mk 10 [] ai zE zE body [])++r=bl (be body)++r:=rfl;rw[e1];exact b8 (h:=fun f=>an (dN f (bl (be body)++r)) fun b r=> .ok (.mk 10 [] ai zE zE b [],r)) (fun f=>by rw[gq];rfl) (dE (Bj aA r) (bb _))
  ·have aA:np ex=true:=aU;have hq:St.mk 11 nm ty tg ex body alt= .mk 11 [] ai zE ex [] []:=hq;simp only[St.mk.injEq,true_and] at hq;obtain⟨rfl,rfl,rfl,rfl,rfl⟩:=hq;have e1:cT (.mk 11 [] ai zE ex [] [])++r=kw rL::(bh (ex.args.map aC)++(sg [59]::r)):=by
    show(([kw rL]++bh (ex.args.map aC))++[sg [59]])++r=_;simp
   have Vw:=EE aA;have hK:(Except.ok (St.mk 11 [] ai zE ex [] [],r):PR St)= .ok (.mk 11 [] ai zE (.mk 0 0 [] [] ai ex.args) [] [],r):=by rw[<- aao aA]
   rw[e1,hK];exact b8 (h:=fun f=>an (gK f (bh (ex.args.map aC)++(sg [59]::r))) fun es r=>aV [59] r fun r2=> .ok (.mk 11 [] ai zE (.mk 0 0 [] [] ai es) [] [],r2)) (fun f=>by rw[gq];rfl) (dE (Ct (fun e he=>rR (xG Vw e he)) Vw _) (bb _))
theorem afR {a b:BitVec 64} (h:a&&& ~~~b=0#64):a.toNat<=b.toNat:=by
 have e:a=a&&& b:=by
  apply BitVec.eq_of_getLsbD_eq
  intro i hi;have h2:=congrArg (fun x=>x.getLsbD i) h;simp only[BitVec.getLsbD_and,BitVec.getLsbD_not,hi,ao,Bool.true_and,BitVec.getLsbD_zero] at h2;rw[BitVec.getLsbD_and];cases ha:a.getLsbD i<;>cases hb:b.getLsbD i<;>simp_all
 rw[e,BitVec.toNat_and];exact Nat.and_le_right
theorem vV {fl:Int} {al:Nat} (hI:aF fl) (ha:al<=4095) (h:fx fl al=true):0<=fl/\fl<=al:=by
 have h2:(BitVec.ofInt 64 fl&&& ~~~BitVec.ofInt 64 (al:Int)).toNat=0:=by
  have aw:=(BitVec.ofInt 64 fl&&& ~~~BitVec.ofInt 64 (al:Int)).isLt;have h3:IntKind.wrap .i64 ((BitVec.ofInt 64 fl&&& ~~~BitVec.ofInt 64 (al:Int)).toNat:Int)=0:=of_decide_eq_true (p:=bits .andNot .i64 fl al=0) h;generalize (BitVec.ofInt 64 fl&&& ~~~BitVec.ofInt 64 (al:Int)).toNat=n at *
  simp [IntKind.wrap,IntKind.bits,IntKind.signed] at h3;omega
 have h4:=afR (BitVec.eq_of_toNat_eq (by rw[h2];rfl));rw[BitVec.toNat_ofInt,BitVec.toNat_ofInt] at h4;obtain⟨i1,i2⟩:=hI;omega
def lB (fl al:Int):Bool:=decide (0<=fl)&&fx fl al
theorem B5 {fl:Int} {al:Nat} (hI:aF fl) (ha:al<=4095):lB fl al=fx fl al:=by
 cases h:fx fl al with
 |false=>rw[lB,h,Bool.and_false]
 |true=>rw[lB,h,eH (vV hI ha h).1];rfl
theorem afG {fl:Int} (hI:aF fl) (h:fx fl 7=true):oH fl=lf fl/\hasB fl 1024=false:=by
 have hr:=vV (al:=7) hI (by decide) h;have gu:∀n:Fin 8,oH (n.val:Int)=lf (n.val:Int)/\hasB (n.val:Int) 1024=false:=by decide+kernel
 have e:fl=(fl.toNat:Int):=by omega
 have:=gu ⟨fl.toNat,by omega⟩;simp only at this;rw[<- e] at this;exact this
/-! Flags. -/
def J9 (fl:Int):Int:=((bK.filter fun p=>hasB fl p.1).map (·.1)).sum
theorem ac5 {fl:Int} (hI:aF fl) (h:fx fl 1087=true):J9 fl=fl:=by
 have hr:=vV (al:=1087) hI (by decide) h;have gu:∀n:Fin 1088,fx (n.val:Int) 1087=true->J9 (n.val:Int)=(n.val:Int):=by decide+kernel
 have e:fl=(fl.toNat:Int):=by omega
 have:=gu ⟨fl.toNat,by omega⟩;simp only at this;rw[<- e] at this;exact this h
theorem acV {fl:Int} {al:Nat} (hI:aF fl) (ha:al=31\/al=7) (h:fx fl al=true):fx fl 1087=true:=by
 have hr:=vV (al:=al) hI (by omega) h;have gu:∀n:Fin 32,fx (n.val:Int) 1087=true:=by decide+kernel
 have e:fl=(fl.toNat:Int):=by omega
 have:=gu ⟨fl.toNat,by omega⟩;simp only at this;rw[<- e] at this;exact this
def bN:List (Int×List UInt8)->Int->List Tk->Int×List Tk
 |[],fl,l=>(fl,l)
 |p::q,fl,l=>if az p.2 l=true then bN q (fl+p.1) l.tail else bN q fl l
theorem FZ (w s:List UInt8) (l:List Tk):az w (kw s::l)=decide (s=w):=rfl
theorem Th {fl:Int} {w:List UInt8} {q:List (Int×List UInt8)} {X:List Tk} (hw:∀p∈q,p.2≠w) (hX:az w X=false):az w ((q.filter fun p=>hasB fl p.1).map (fun p=>kw p.2)++X)=false:=by
 cases hq:(q.filter fun p=>hasB fl p.1) with
 |nil=>exact hX
 |cons p t=>
  have hp:p∈q:=(List.mem_filter.1 (show p∈q.filter fun p=>hasB fl p.1 by rw[hq];exact b6 ..)).1;show az w (kw p.2::_)=false;rw[FZ];simp [hw p hp]
theorem Jk {fl:Int} {X:List Tk}:∀(q:List (Int×List UInt8)) (a:Int),(q.map (·.2)).Nodup->(∀p∈q,az p.2 X=false)->bN q a ((q.filter fun p=>hasB fl p.1).map (fun p=>kw p.2)++X)=(a+((q.filter fun p=>hasB fl p.1).map (·.1)).sum,X)
 |[],a,_,_=>by simp [bN]
 |p::q,a,hd,hX=>by
  have qY:(∀x∈q,x.2≠p.2)/\(q.map (·.2)).Nodup:=by
   simp only[bJ,List.nodup_cons] at hd;exact⟨fun x hx h=>hd.1 (h▸List.mem_map_of_mem hx),hd.2⟩
  have rh:∀p∈q,az p.2 X=false:=fun x hx=>hX x (bR _ hx)
  cases hb:hasB fl p.1 with
  |true=>
   simp only[List.filter_cons,hb,if_true,bJ,dW];rw[bN,FZ];simp only[ao,if_true,List.tail_cons];rw[Jk q _ qY.2 rh];simp only[List.sum_cons];congr 1
   omega
  |false=>
   simp only[List.filter_cons,hb,Bool.false_eq_true,if_false];rw[bN,Th qY.1 (hX p (b6 ..))];simp only[Bool.false_eq_true,if_false];exact Jk q a qY.2 rh
def Gw (X:List Tk):Prop:=∀p∈bK,az p.2 X=false
theorem ac4 {fl:Int} {X:List Tk} (hI:aF fl) (h:fx fl 1087=true) (hX:Gw X):bN bK 0 (cR fl++X)=(fl,X):=by
 have:=Jk (fl:=fl) bK 0 (by decide) hX;rw[Int.zero_add] at this;have e:=ac5 hI h;rw[J9] at e;rw[cR,this,e]
/-! Parameters. -/
def jk:Nat->List Pc->List Tk->PR (List Pc)
 |0,_,l=> .error l
 |f+1,acc,l=>if az [44] l=true then an (eY l.tail) fun t r=>an (da r) fun s r2=>jk f (acc++[⟨t,s⟩]) r2 else aV [41] l fun r=> .ok (acc,r)
def pC (f:Nat) (l:List Tk):PR (List Pc):=
 aV [40] l fun r=>if az [41] r=true then .ok ([],r.tail) else an (eY r) fun t r2=>an (da r2) fun s r3=>jk f [⟨t,s⟩] r3
theorem Qc {p:Pc} (h:ib p=true) {β:Type} (k:Ty->List UInt8->List Tk->PR β) (r:List Tk):(an (eY (cS p++r)) fun t r2=>an (da r2) fun s r3=>k t s r3)=k p.ty p.name r:=by
 simp only[ib,aG] at h;have e:cS p++r=b5 p.ty.dim p.ty.base p.ty.name++(aM p.name::r):=by simp [cS]
 rw[e,xZ h.1 _ rfl];show an (da (aM p.name::r)) _=_;rw[(pR h.2 r).2.2];rfl
theorem P9:∀(l acc:List Pc) (r:List Tk),(∀p∈l,ib p=true)->bG (fun f=>jk f acc (bH false (l.map cS)++(sg [41]::r))) (.ok (acc++l,r))
 |[],acc,r,_=>b8 (h:=fun _=> .ok (acc++[],r)) (fun f=>by rw[jk];simp [bH,az,sg,aV]) (bb _)
 |p::l,acc,r,h=>by
  have ih:=P9 l (acc++[p]) r fun x hx=>h x (bR _ hx)
  have e1:bH false ((p::l).map cS)++(sg [41]::r)=sg [44]::(cS p++(bH false (l.map cS)++(sg [41]::r))):=by simp [bH]
  rw[e1];refine b8 (h:=fun f=>jk f (acc++[p]) (bH false (l.map cS)++(sg [41]::r))) (fun f=> ?_) (by simpa using ih);rw[jk];show(an (eY (cS p++(bH false (l.map cS)++(sg [41]::r)))) fun t r2=>an (da r2) fun s r3=>jk f (acc++[⟨t,s⟩]) r3)=_;exact Qc (h p (b6 ..)) (fun t s r3=>jk f (acc++[(⟨t,s⟩:Pc)]) r3) _
theorem tj {t:Ty} (h:dD t.dim t.base t.name=true) {w:List UInt8} (h1:w≠iM) (h2:w≠iI) (l:List Tk):az w (b5 t.dim t.base t.name++l)=false:=by
 obtain⟨_,_,hb3⟩:=zD h;have e:az w (b5 t.dim t.base t.name++l)=az w [ja t.base t.name]:=rfl;rw[e];rcases hb3 with ⟨g1,_⟩ |⟨g1,_⟩ |⟨g1,_⟩
 ·rw[g1];simp [ja,az,kw,Ne.symm h1]
 ·rw[g1];simp [ja,az,kw,Ne.symm h2]
 ·rw[g1];simp [ja,az,aM]
theorem OO {l:List Pc} (h:∀p∈l,ib p=true) (r:List Tk):bG (fun f=>pC f (bh (l.map cS)++r)) (.ok (l,r)):=by
 cases l with
 |nil=>exact oN (h:=fun _=> .ok ([],r)) (fun f=>rfl) (bb _)
 |cons p l=>
  have e1:bh ((p::l).map cS)++r=sg [40]::(cS p++(bH false (l.map cS)++(sg [41]::r))):=by simp [bh,bH]
  have hp:=h p (b6 ..);have pn:=hp;simp only[ib,aG] at pn;have nd:az [41] (cS p++(bH false (l.map cS)++(sg [41]::r)))=false:=by
   rw[cS,List.append_assoc];exact tj pn.1 (by decide) (by decide) _
  rw[e1];refine oN (h:=fun f=>jk f [p] (bH false (l.map cS)++(sg [41]::r))) (fun f=> ?_) (P9 l [p] r fun x hx=>h x (bR _ hx));show(if az [41] (cS p++(bH false (l.map cS)++(sg [41]::r)))=true then _ else(an (eY (cS p++(bH false (l.map cS)++(sg [41]::r)))) fun t r2=>an (da r2) fun s r3=>jk f [⟨t,s⟩] r3))=_;rw[nd];exact Qc hp (fun t s r3=>jk f [(⟨t,s⟩:Pc)] r3) _
/-! Members. -/
def wP:List UInt8:=[110,101,119]
def eZ:Ty:=⟨0,86,[]⟩
def Cd.addF (d:Cd) (x:Fc):Cd:={d with fields:=d.fields++[x]}
def Cd.addM (d:Cd) (x:Md):Cd:={d with methods:=d.methods++[x]}
def Cd.addI (d:Cd) (x:List St):Cd:={d with init:=d.init++x}
def oR (f:Nat) (d:Cd) (fl:Int) (t:Ty) (s:List UInt8) (l:List Tk):PR Cd:=
 an (pC f l) fun ps r=>if az [59] r=true then .ok (d.addM ⟨fl,t,s,ps,false,[]⟩,r.tail) else an (dN f r) fun b r2=> .ok (d.addM ⟨fl,t,s,ps,true,b⟩,r2)
def lR (f:Nat) (d:Cd) (fl:Int) (l:List Tk):PR Cd:=
 if fl=8/\az [123] l=true then an (dN f l) fun b r=> .ok (d.addI b,r)
 else if az wP l=true then an (pC f l.tail) fun ps r=>an (dN f r) fun b r2=> .ok (d.addM ⟨fl,eZ,eK,ps,true,b⟩,r2)
 else if az qB l=true then an (da l.tail) fun s r=>oR f d fl eZ s r
 else an (eY l) fun t r=>an (da r) fun s r2=>if az [59] r2=true then .ok (d.addF ⟨fl,t,s⟩,r2.tail) else oR f d fl t s r2
def gg:Nat->Cd->List Tk->PR Cd
 |0,_,l=> .error l
 |f+1,d,l=>if az [125] l=true then .ok (d,l.tail) else an (lR f d (bN bK 0 l).1 (bN bK 0 l).2) fun e r=>gg f e r
theorem Qp {t:Ty} (h:dD t.dim t.base t.name=true) (l:List Tk):Gw (b5 t.dim t.base t.name++l):=fun p hp=>by
 refine tj h ?_ ?_ l
 ·have:∀p∈bK,p.2≠iM:=by decide
  exact this p hp
 ·have:∀p∈bK,p.2≠iI:=by decide
  exact this p hp
theorem Qq {w:List UInt8} (h:∀p∈bK,w≠p.2) (l:List Tk):Gw (kw w::l):=fun p hp=>by
 rw[FZ];simp [h p hp]
theorem BK {d e:Cd} {fl:Int} {X r:List Tk} {K:PR Cd} (hI:aF fl) (ho:fx fl 1087=true) (hX:Gw X) (h0:az [125] X=false) (h1:bG (fun f=>lR f d fl X) (.ok (e,r))) (h2:bG (fun f=>gg f e r) K):bG (fun f=>gg f d (cR fl++X)) K:=by
 refine b8 (h:=fun f=>an (lR f d fl X) fun e r=>gg f e r) (fun f=> ?_) (dE h1 h2);rw[gg,ac4 hI ho hX];have:az [125] (cR fl++X)=false:=Th (q:=bK) (by decide) h0;rw[this];rfl
theorem Jz {q:Bool} {l:List St} (h:eE q l=true) (r:List Tk):bG (fun f=>dN f (bl (be l)++r)) (.ok (l,r)):=by
 simp only[eE,aG] at h;exact Jy (fun s hs=>⟨J4 _ s (av _) (rv h.2 s hs),J5 (rv h.2 s hs)⟩) r
theorem abv {d:Cd} {x:Fc} (hI:aF x.fl) (h:jU x=true) {r:List Tk} {K:PR Cd} (hK:bG (fun f=>gg f (d.addF x) r) K):bG (fun f=>gg f d (pL x++r)) K:=by
 simp only[jU,aG] at h;have e1:pL x++r=cR x.fl++(b5 x.ty.dim x.ty.base x.ty.name++(aM x.name::sg [59]::r)):=by simp [pL]
 rw[e1];refine BK hI (acV (al:=31) hI (.inl rfl) h.2) (Qp h.1.1.1 _) (tj h.1.1.1 (by decide) (by decide) _) (oN (h:=fun _=> .ok (d.addF x,r)) (fun f=> ?_) (bb _)) hK;rw[lR,tj (w:=[123]) h.1.1.1 (by decide) (by decide),tj (w:=wP) h.1.1.1 (by decide) (by decide),tj (w:=qB) h.1.1.1 (by decide) (by decide),xZ h.1.1.1 _ rfl];simp only[Bool.false_eq_true,and_false,if_false,an];rw[(pR h.1.1.2 _).2.2];rfl
theorem Pf:∀(l:List Fc) (d:Cd) (r:List Tk) (K:PR Cd),(∀x∈l,aF x.fl/\jU x=true)->bG (fun f=>gg f {d with fields:=d.fields++l} r) K->bG (fun f=>gg f d ((l.map pL).flatten++r)) K
 |[],d,r,K,_,hK=>by simpa using hK
 |x::l,d,r,K,h,hK=>by
  have e1:((x::l).map pL).flatten++r=pL x++((l.map pL).flatten++r):=by simp
  rw[e1];have hx:=h x (b6 ..);refine abv hx.1 hx.2 (Pf l _ r K (fun y hy=>h y (bR _ hy)) ?_);simpa [Cd.addF] using hK
theorem adg {d:Cd} {l:List St} (h:eE false l=true) {r:List Tk} {K:PR Cd} (hK:bG (fun f=>gg f (d.addI l) r) K):bG (fun f=>gg f d ((if 0<l.length then[kw [115,116,97,116,105,99]]++bl (be l) else[])++r)) K:=by
 by_cases h0:0<l.length
 ·rw[ah h0];have e1:[kw [115,116,97,116,105,99]]++bl (be l)++r=cR 8++(bl (be l)++r):=by
   have:cR 8=[kw [115,116,97,116,105,99]]:=by kernel_rfl
   rw[this];simp
  rw[e1];refine BK (fl:=8) (by unfold aF;omega) (by decide+kernel) (fun p hp=> ?_) rfl (oN (h:=fun f=>an (dN f (bl (be l)++r)) fun b r=> .ok (d.addI b,r)) (fun f=>by rw[lR];rfl) (dE (Jz h r) (bb _))) hK;have:∀p∈bK,az p.2 [sg [123]]=false:=by decide
  exact this p hp
 ·rw[af h0];have e:l=[]:=List.length_eq_zero_iff.1 (by omega);subst e;simpa [Cd.addI] using hK
theorem acB {d:Cd} {fl:Int} {t:Ty} {s:List UInt8} {ps:List Pc} {hb q:Bool} {body:List St} (hp:∀p∈ps,ib p=true) (hq:eE q body=true) (h0:hb=true\/body=[]) (r:List Tk):
  bG (fun f=>oR f d fl t s (bh (ps.map cS)++((if hb=true then bl (be body) else[sg [59]])++r))) (.ok (d.addM ⟨fl,t,s,ps,hb,body⟩,r)):=by
 refine dE (OO hp _) ?_;cases hb with
 |true=>exact oN (h:=fun f=>an (dN f (bl (be body)++r)) fun b r2=> .ok (d.addM ⟨fl,t,s,ps,true,b⟩,r2)) (fun f=>rfl) (dE (Jz hq r) (bb _))
 |false=>
  rcases h0 with h0 |h0
  ·cases h0
  ·subst h0;exact oN (h:=fun _=> .ok (d.addM ⟨fl,t,s,ps,false,[]⟩,r)) (fun f=>rfl) (bb _)
theorem Rg {t:Ty} (h:nl t=true):t=eZ:=by
 simp only[nl,aG,bu] at h;cases t;simp only at h;obtain⟨rfl,rfl,rfl⟩:=h;rfl
theorem Zl {d:Cd} {x:Md} (hI:aF x.fl) (h:gm x=true) {r:List Tk} {K:PR Cd} (hK:bG (fun f=>gg f (d.addM x) r) K):bG (fun f=>gg f d (eQ x++r)) K:=by
 obtain⟨fl,res,name,ps,hb,body⟩:=x;simp only[gm,aG,Bool.not_eq_true',List.any_eq_false] at h;obtain⟨⟨⟨hh,hm⟩,qe⟩,iT⟩:=h;have qe:∀p∈ps,ib p=true:=fun p hp=>by have:=qe p hp;simpa using this
 simp only[rZ,aG,Bool.or_eq_true,bu] at hm;obtain⟨⟨⟨hf,_⟩,nf⟩,_⟩:=hm;have nf:hb=true\/body=[]:=nf.elim .inl fun h=> .inr (List.length_eq_zero_iff.1 h)
 simp only[oH,aG] at hf;have ho:fx fl 1087=true:=hf.1.1.2;by_cases hn:name=eK
 ·subst hn;simp only[ny,if_true,aG] at hh;obtain⟨⟨hv,ng⟩,_⟩:=hh;obtain rfl:=Rg hv;subst ng;have e1:eQ ⟨fl,eZ,eK,ps,true,body⟩++r=cR fl++(kw wP::(bh (ps.map cS)++(bl (be body)++r))):=by
   show(cR fl++[kw wP]++bh (ps.map cS)++bl (be body))++r=_;simp
  rw[e1];refine BK hI ho (Qq (by decide) _) rfl (oN (h:=fun f=>an (pC f (bh (ps.map cS)++(bl (be body)++r))) fun ps r=>an (dN f r) fun b r2=> .ok (d.addM ⟨fl,eZ,eK,ps,true,b⟩,r2)) (fun f=> ?_) (dE (OO qe _) (dE (Jz iT r) (bb _)))) hK;rw[lR,af (by intro h;cases h.2)];rfl
 ·simp only[ny,af hn,aG,Bool.or_eq_true] at hh;obtain⟨hid,bM⟩:=hh;have e1:eQ ⟨fl,res,name,ps,hb,body⟩++r=cR fl++(b5 res.dim res.base res.name++(aM name::(bh (ps.map cS)++((if hb=true then bl (be body) else[sg [59]])++r)))):=by
   simp only[eQ,af hn];simp
  rw[e1];have wE:=fun(t:Ty)=>acB (d:=d) (fl:=fl) (t:=t) (s:=name) qe iT nf r
  rcases bM with hv |hv
  ·obtain rfl:=Rg hv;refine BK hI ho (Qq (w:=qB) (by decide) _) rfl (oN (h:=fun f=>oR f d fl eZ name (bh (ps.map cS)++((if hb=true then bl (be body) else[sg [59]])++r))) (fun f=> ?_) (wE eZ)) hK;rw[lR,af (by intro h;cases h.2)];show an (da (aM name::(bh (ps.map cS)++((if hb=true then bl (be body) else[sg [59]])++r)))) _=_;rw[(pR hid _).2.2];rfl
  ·refine BK hI ho (Qp hv _) (tj hv (by decide) (by decide) _) (oN (h:=fun f=>oR f d fl res name (bh (ps.map cS)++((if hb=true then bl (be body) else[sg [59]])++r))) (fun f=> ?_) (wE res)) hK;rw[lR,tj (w:=[123]) hv (by decide) (by decide),tj (w:=wP) hv (by decide) (by decide),tj (w:=qB) hv (by decide) (by decide),xZ hv _ rfl];simp only[Bool.false_eq_true,and_false,if_false,an];rw[(pR hid _).2.2];rfl
theorem N5:∀(l:List Md) (d:Cd) (r:List Tk) (K:PR Cd),(∀x∈l,aF x.fl/\gm x=true)->bG (fun f=>gg f {d with methods:=d.methods++l} r) K->bG (fun f=>gg f d ((l.map eQ).flatten++r)) K
 |[],d,r,K,_,hK=>by simpa using hK
 |x::l,d,r,K,h,hK=>by
  have e1:((x::l).map eQ).flatten++r=eQ x++((l.map eQ).flatten++r):=by simp
  rw[e1];have hx:=h x (b6 ..);refine Zl hx.1 hx.2 (N5 l _ r K (fun y hy=>h y (bR _ hy)) ?_);simpa [Cd.addM] using hK
theorem aa0 {d:Cd} {r:List Tk}:bG (fun f=>gg f d (sg [125]::r)) (.ok (d,r)):=
 b8 (h:=fun _=> .ok (d,r)) (fun f=>by rw[gg];rfl) (bb _)
/-! Classes. -/
def AN:List UInt8:=[112,117,98,108,105,99]
def GZ:List UInt8:=[102,105,110,97,108]
def Dz:List UInt8:=[97,98,115,116,114,97,99,116]
def wR:List UInt8:=[105,110,116,101,114,102,97,99,101]
def gh:List UInt8:=[101,120,116,101,110,100,115]
def kn:List UInt8:=[105,109,112,108,101,109,101,110,116,115]
def jS:List UInt8:=[99,108,97,115,115]
def iN:List (Int×List UInt8):=[(1,AN)]
def j5:List (Int×List UInt8):=[(16,GZ),(1024,Dz)]
def ke:Nat->List (List UInt8)->List Tk->PR (List (List UInt8))
 |0,_,l=> .error l
 |f+1,acc,l=>if az [44] l=true then an (fz l.tail) fun s r=>ke f (acc++[s]) r else .ok (acc,l)
def nI (f:Nat) (w:List UInt8) (l:List Tk):PR (List (List UInt8)):=if az w l=true then an (fz l.tail) fun s r=>ke f [s] r else .ok ([],l)
def pT (f:Nat) (l:List Tk):PR Cd:=
 if az wR (bN iN 0 l).2=true then an (fz (bN iN 0 l).2.tail) fun n r=>an (nI f gh r) fun is r2=>aV [123] r2 fun r3=> .ok (⟨(bN iN 0 l).1+1536,n,kH,is,[],[],[]⟩,r3)
 else aV jS (bN j5 (bN iN 0 l).1 (bN iN 0 l).2).2 fun r=>an (fz r) fun n r2=>aV gh r2 fun r3=>an (fz r3) fun sp r4=>an (nI f kn r4) fun is r5=>aV [123] r5 fun r6=>
  .ok (⟨(bN j5 (bN iN 0 l).1 (bN iN 0 l).2).1,n,sp,is,[],[],[]⟩,r6)
def uA (f:Nat) (l:List Tk):PR Cd:=an (pT f l) fun d r=>gg f d r
def la:Nat->List Cd->List Tk->PR (List Cd)
 |0,_,l=> .error l
 |f+1,acc,l=>if l=[] then .ok (acc,[]) else an (uA f l) fun d r=>la f (acc++[d]) r
theorem Q4:∀(l acc:List (List UInt8)) (r:List Tk),(∀s∈l,dh s=true)->az [44] r=false->bG (fun f=>ke f acc ((l.map fun t=>[sg [44],aM t]).flatten++r)) (.ok (acc++l,r))
 |[],acc,r,_,h=>b8 (h:=fun _=> .ok (acc++[],r)) (fun f=>by rw[ke];simp [h]) (bb _)
 |s::l,acc,r,hs,h=>by
  have ih:=Q4 l (acc++[s]) r (fun x hx=>hs x (bR _ hx)) h;have e1:((s::l).map fun t=>[sg [44],aM t]).flatten++r=sg [44]::aM s::((l.map fun t=>[sg [44],aM t]).flatten++r):=by simp
  rw[e1];refine b8 (h:=fun f=>ke f (acc++[s]) ((l.map fun t=>[sg [44],aM t]).flatten++r)) (fun f=> ?_) (by simpa using ih);rw[ke];show an (fz (aM s::((l.map fun t=>[sg [44],aM t]).flatten++r))) _=_;rw[(wk (hs s (b6 ..)) _).2.2];rfl
theorem Tz {w:List UInt8} (l:List (List UInt8)) (r:List Tk) (hs:∀s∈l,dh s=true) (h:az [44] r=false) (hw:az w r=false):bG (fun f=>nI f w (gM w l++r)) (.ok (l,r)):=by
 cases l with
 |nil=>exact oN (h:=fun _=> .ok ([],r)) (fun f=>by rw[nI];show(if az w r=true then _ else _)=_;rw[hw];rfl) (bb _)
 |cons s l=>
  have e1:gM w (s::l)++r=kw w::aM s::((l.map fun t=>[sg [44],aM t]).flatten++r):=by simp [gM]
  rw[e1];refine oN (h:=fun f=>ke f [s] ((l.map fun t=>[sg [44],aM t]).flatten++r)) (fun f=> ?_) (Q4 l [s] r (fun x hx=>hs x (bR _ hx)) h);rw[nI,FZ];simp only[ao,if_true,List.tail_cons];rw[(wk (hs s (b6 ..)) _).2.2];rfl
theorem ae8 {fl:Int} (hI:aF fl) (h1:fx fl 1537=true) (h2:hasB fl 512=true) (h3:hasB fl 1024=true):fl=1536\/fl=1537:=by
 have hr:=vV (al:=1537) hI (by decide) h1;have gu:∀n:Fin 1538,hasB (n.val:Int) 512=true->hasB (n.val:Int) 1024=true->n.val=1536\/n.val=1537:=by decide+kernel
 have e:fl=(fl.toNat:Int):=by omega
 have:=gu ⟨fl.toNat,by omega⟩;simp only at this;rw[<- e] at this;have:=this h2 h3;omega
theorem afP {fl:Int} (hI:aF fl) (h1:fx fl 1041=true) (h2:(hasB fl 16&&hasB fl 1024)=false):fl=0\/fl=1\/fl=16\/fl=17\/fl=1024\/fl=1025:=by
 have hr:=vV (al:=1041) hI (by decide) h1;have gu:∀n:Fin 1042,fx (n.val:Int) 1041=true->(hasB (n.val:Int) 16&&hasB (n.val:Int) 1024)=false->n.val=0\/n.val=1\/n.val=16\/n.val=17\/n.val=1024\/n.val=1025:=by decide+kernel
 have e:fl=(fl.toNat:Int):=by omega
 have:=gu ⟨fl.toNat,by omega⟩;simp only at this;rw[<- e] at this;have:=this h1 h2;omega
theorem abP {fl:Int} (h:fl=0\/fl=1\/fl=16\/fl=17\/fl=1024\/fl=1025) (X:List Tk):az wR (bN iN 0 (cR fl++kw jS::X)).2=false/\bN j5 (bN iN 0 (cR fl++kw jS::X)).1 (bN iN 0 (cR fl++kw jS::X)).2=(fl,kw jS::X):=by
 have m0:cR 0=[]:=by kernel_rfl
 have m1:cR 1=[kw AN]:=by kernel_rfl
 have m2:cR 16=[kw GZ]:=by kernel_rfl
 have m3:cR 17=[kw AN,kw GZ]:=by kernel_rfl
 have m4:cR 1024=[kw Dz]:=by kernel_rfl
 have m5:cR 1025=[kw AN,kw Dz]:=by kernel_rfl
 rcases h with rfl |rfl |rfl |rfl |rfl |rfl
 ·rw[m0];exact⟨rfl,rfl⟩
 ·rw[m1];exact⟨rfl,rfl⟩
 ·rw[m2];exact⟨rfl,rfl⟩
 ·rw[m3];exact⟨rfl,rfl⟩
 ·rw[m4];exact⟨rfl,rfl⟩
 ·rw[m5];exact⟨rfl,rfl⟩
theorem abe {fl:Int} (h:fl=1536\/fl=1537) (X:List Tk):bN iN 0 (cR (bits .andNot .i64 fl 1024)++kw wR::X)=(fl - 1536,kw wR::X):=by
 have m0:cR (bits .andNot .i64 1536 1024)=[]:=by kernel_rfl
 have m1:cR (bits .andNot .i64 1537 1024)=[kw AN]:=by kernel_rfl
 rcases h with rfl |rfl
 ·rw[m0];rfl
 ·rw[m1];rfl
theorem adl {d:Cd} (hI:aF d.fl) (h:iA d=true) (r:List Tk):bG (fun f=>pT f (pS d++(sg [123]::r))) (.ok (⟨d.fl,d.name,d.super,d.ifs,[],[],[]⟩,r)):=by
 simp only[iA,mG,aG,Bool.not_eq_true',List.any_eq_false] at h;obtain⟨hh,⟨⟨⟨⟨⟨⟨hn,hs⟩,_⟩,xr⟩,_⟩,_⟩,_⟩,_⟩:=h;have xr:∀s∈d.ifs,dh s=true:=fun s hs=>by have:=xr s hs;simpa using this
 by_cases hb:hasB d.fl 512=true
 ·simp only[oX,ah hb,As,aG,bu] at hh;obtain⟨⟨⟨⟨h1,h2⟩,h3⟩,_⟩,_⟩:=hh;have ky:=ae8 hI h1 hb h2;have e1:pS d++(sg [123]::r)=cR (bits .andNot .i64 d.fl 1024)++kw wR::(aM d.name::(gM gh d.ifs++(sg [123]::r))):=by
   rw[pS,ah hb];show(cR (bits .andNot .i64 d.fl 1024)++[kw wR]++[aM d.name]++gM gh d.ifs)++(sg [123]::r)=_;simp
  rw[e1,h3];refine oN (h:=fun f=>an (nI f gh (gM gh d.ifs++(sg [123]::r))) fun is r2=>aV [123] r2 fun r3=> .ok (⟨d.fl,d.name,kH,is,[],[],[]⟩,r3)) (fun f=> ?_) (dE (Tz d.ifs _ xr rfl rfl) (bb _));rw[pT,abe ky];show an (fz (aM d.name::(gM gh d.ifs++(sg [123]::r)))) _=_;rw[(wk hn _).2.2];simp only[an];have:d.fl - 1536+1536=d.fl:=by omega
  rw[this]
 ·simp only[oX,af hb,aG,Bool.not_eq_true'] at hh;have ky:=afP hI hh.1 hh.2;have e1:pS d++(sg [123]::r)=cR d.fl++kw jS::(aM d.name::kw gh::aM d.super::(gM kn d.ifs++(sg [123]::r))):=by
   rw[pS,af hb];show(cR d.fl++[kw jS]++[aM d.name]++[kw gh]++[aM d.super]++gM kn d.ifs)++(sg [123]::r)=_;simp
  have hm:=abP ky (aM d.name::kw gh::aM d.super::(gM kn d.ifs++(sg [123]::r)));rw[e1];refine oN (h:=fun f=>an (nI f kn (gM kn d.ifs++(sg [123]::r))) fun is r2=>aV [123] r2 fun r3=> .ok (⟨d.fl,d.name,d.super,is,[],[],[]⟩,r3)) (fun f=> ?_) (dE (Tz d.ifs _ xr rfl rfl) (bb _));rw[pT,hm.1,hm.2];show an (fz (aM d.name::kw gh::aM d.super::(gM kn d.ifs++(sg [123]::r)))) _=_;rw[(wk hn _).2.2];show an (fz (aM d.super::(gM kn d.ifs++(sg [123]::r)))) _=_;rw[(wk hs _).2.2];rfl
theorem abQ {d:Cd} (hw:wY d) (h:iA d=true) (r:List Tk):bG (fun f=>uA f (jy d++r)) (.ok (d,r)):=by
 have e1:jy d++r=pS d++(sg [123]::((d.fields.map pL).flatten++((if 0<d.init.length then[kw [115,116,97,116,105,99]]++bl (be d.init) else[])++((d.methods.map eQ).flatten++(sg [125]::r))))):=by
  simp [jy,F7]
 rw[e1];refine dE (adl hw.1.fl h _) ?_;simp only[iA,aG,Bool.not_eq_true',List.any_eq_false] at h;obtain⟨_,⟨⟨_,hf⟩,hm⟩,hi⟩:=h;refine Pf d.fields _ _ _ (fun x hx=>⟨(hw.1.fs x hx).fl,by have:=hf x hx;simpa using this⟩) ?_;refine adg hi ?_;refine N5 d.methods _ _ _ (fun x hx=>⟨(hw.2.2 x hx).1.fl,by have:=hm x hx;simpa using this⟩) ?_;simp only[Cd.addI,List.nil_append];exact aa0
theorem abR (d:Cd) (r:List Tk):jy d++r≠[]:=by
 simp [jy,F7]
theorem RL:∀(l acc:List Cd),(∀d∈l,wY d)->(∀d∈l,iA d=true)->bG (fun f=>la f acc (mI l)) (.ok (acc++l,[]))
 |[],acc,_,_=>b8 (h:=fun _=> .ok (acc++[],[])) (fun f=>by rw[la];simp [mI]) (bb _)
 |d::l,acc,hw,hv=>by
  have ih:=RL l (acc++[d]) (fun x hx=>hw x (bR _ hx)) (fun x hx=>hv x (bR _ hx));have e1:mI (d::l)=jy d++mI l:=by simp [mI]
  rw[e1];refine b8 (h:=fun f=>an (uA f (jy d++mI l)) fun d r=>la f (acc++[d]) r) (fun f=>by rw[la,af (abR d _)]) (dE (abQ (hw d (b6 ..)) (hv d (b6 ..)) _) (by simpa using ih))
structure SXs (l:List Tk):Prop where
 block:Tot true (fun f=>dN f l) l
 stmt:Tot true (fun f=>gq f l) l
 stmts:∀acc,Tot true (fun f=>ka f acc l) l
theorem j8 {α:Type} {x:α} {r:List Tk}:Tot false (fun _=>Except.ok (x,r)) r:=iY _ (List.suffix_refl _) fun h=>by cases h
theorem Cz (l:List Tk):Tot true (fun f=>cC f 0 l) l:=(qx l).expr 0 (by decide)
theorem T4 {l:List Tk} (ih:∀r:List Tk,r.length<l.length->SXs r):SXs l:=by
 have TO:Tot true (fun f=>dN f l) l:=by
  refine kB (h:=fun f=>aV [123] l fun r=>ka f [] r) (fun f=>by rw[dN]) ?_;exact iX (a:=true) fun _ aw=>(ih _ aw).stmts _
 have Mm:∀(l2:List Tk) (k:Nat->Ex->List St->List Tk->PR St),l2.length<l.length->(∀e b r,r.length<l.length->Tot false (fun f=>k f e b r) r)->Tot true (fun f=>an (fk f l2) fun e r=>an (dN f r) fun b r2=>k f e b r2) l2:=fun l2 k h1 h2=>
  cM (b:=true) (qx l2).paren fun e r _ h3=>by
   have:=h3 rfl;exact mB true (cM (b:=false) (ih r (by omega)).block fun b r2 h4 _=>h2 e b r2 (by have q:=gS h4;omega)) fun _=>rfl
 have Uo:Tot true (fun f=>gq f l) l:=by
  refine kB (h:=fun f=>
   if az sN l=true then an (fk f l.tail) fun e r=>an (dN f r) fun b r2=>
    if az pV r2=true then an (dN f r2.tail) fun a r3=> .ok (.mk 4 [] ai zE e b a,r3) else .ok (.mk 4 [] ai zE e b [],r2)
   else if az uU l=true then an (fk f l.tail) fun e r=>an (dN f r) fun b r2=> .ok (.mk 5 [] ai zE e b [],r2)
   else if az tM l=true then
    if az [59] l.tail=true then .ok (.mk 6 [] ai zE zE [] [],l.tail.tail) else an (cC f 0 l.tail) fun e r=>aV [59] r fun r2=> .ok (.mk 6 [] ai zE e [] [],r2)
   else if az uV l=true then an (cC f 0 l.tail) fun e r=>aV [59] r fun r2=> .ok (.mk 7 [] ai zE e [] [],r2)
   else if az vg l=true then an (dN f l.tail) fun b r=>aV nu r fun r2=>aV [40] r2 fun r3=>an (eY r3) fun t r4=>an (da r4) fun s r5=>aV [41] r5 fun r6=>an (dN f r6) fun a r7=> .ok (.mk 8 s t zE zE b a,r7)
   else if az u9 l=true then an (fk f l.tail) fun e r=>an (dN f r) fun b r2=> .ok (.mk 9 [] ai zE e b [],r2)
   else if az [123] l=true then an (dN f l) fun b r=> .ok (.mk 10 [] ai zE zE b [],r)
   else if az rL l=true/\az [40] l.tail=true then an (gK f l.tail) fun es r=>aV [59] r fun r2=> .ok (.mk 11 [] ai zE (.mk 0 0 [] [] ai es) [] [],r2)
   else if lE l=true then an (eY l) fun t r=>an (da r) fun s r2=>aV [61] r2 fun r3=>an (cC f 0 r3) fun e r4=>aV [59] r4 fun r5=> .ok (.mk 1 s t zE e [] [],r5)
   else an (cC f 0 l) fun e r=>
    if az [61] r=true then an (cC f 0 r.tail) fun x r2=>aV [59] r2 fun r3=> .ok (.mk 2 [] ai e x [] [],r3)
    else aV [59] r fun r2=> .ok (.mk 3 [] ai zE e [] [],r2)) (fun f=>by rw[gq]) ?_
  refine dt (fun h=> ?_) fun _=>dt (fun h=> ?_) fun _=>dt (fun h=> ?_) fun _=>dt (fun h=> ?_) fun _=>dt (fun h=> ?_) fun _=>dt (fun h=> ?_) fun _=>
   dt (fun h=> ?_) fun _=>dt (fun h=> ?_) fun _=>dt (fun h=> ?_) fun _=> ?_
  ·have aw:=eB (cd h);refine kC (cW l) aw (Mm l.tail _ aw fun e b r hr=> ?_);exact dt (fun h2=>rK (cW r) (mB false (cM (b:=false) (ih _ (by have:=eB (cd h2);omega)).block fun a r3 _ _=>j8) fun h=>by cases h)) fun _=>j8
  ·have aw:=eB (cd h);exact kC (cW l) aw (Mm l.tail _ aw fun e b r hr=>j8)
  ·have aw:=eB (cd h);refine dt (fun h2=>iY _ ((cW _).trans (cW l)) fun _=>by have:=gS (cW l.tail);omega) fun _=> ?_
   exact kC (cW l) aw (cM (b:=true) (Cz _) fun e r _ _=>iX (a:=false) fun _ _=>j8)
  ·have aw:=eB (cd h);exact kC (cW l) aw (cM (b:=true) (Cz _) fun e r _ _=>iX (a:=false) fun _ _=>j8)
  ·have aw:=eB (cd h);refine kC (cW l) aw (cM (b:=true) (ih _ aw).block fun b r h1 _=> ?_);have q1:=gS h1;refine iX (a:=true) fun _ po=>iX (a:=true) fun _ ct=>cM (b:=true) (xR _) fun t r4 h2 _=> ?_
   have q2:=gS h2;refine cM (b:=true) (tu _) fun s r5 h3 _=> ?_
   have q3:=gS h3;refine iX (a:=true) fun _ hl3=> ?_
   exact cM (b:=false) (ih _ (by omega)).block fun a r7 _ _=>j8
  ·have aw:=eB (cd h);exact kC (cW l) aw (Mm l.tail _ aw fun e b r hr=>j8)
  ·exact cM (b:=false) TO fun b r _ _=>j8
  ·have aw:=eB (cd h.1);exact kC (cW l) aw (cM (b:=true) (qx _).args fun es r _ _=>iX (a:=false) fun _ _=>j8)
  ·refine cM (b:=true) (xR l) fun t r _ _=>cM (b:=true) (tu r) fun s r2 _ _=>iX (a:=true) fun _ _=>cM (b:=true) (Cz _) fun e r4 _ _=>iX (a:=false) fun _ _=>j8
  ·refine cM (b:=true) (Cz l) fun e r _ _=>dt (fun h=> ?_) fun _=>iX (a:=false) fun _ _=>j8
   exact kC (cW r) (eB (cd h)) (cM (b:=true) (Cz _) fun x r2 _ _=>iX (a:=false) fun _ _=>j8)
 have afd:∀acc,Tot true (fun f=>ka f acc l) l:=fun acc=>by
  refine kB (h:=fun f=>if az [125] l=true then .ok (acc,l.tail) else an (gq f l) fun s r=>ka f (acc++[s]) r) (fun f=>by rw[ka]) ?_;refine dt (fun h=>iY _ (cW l) fun _=>eB (cd h)) fun _=> ?_
  exact cM (b:=true) Uo fun s r h1 h2=>(ih r (h2 rfl)).stmts _
 exact⟨TO,Uo,afd⟩
theorem SY:∀(N:Nat) (l:List Tk),l.length<=N->SXs l
 |0,l,h=>T4 fun r hr=>by omega
 |N+1,l,h=>T4 fun r hr=>SY N r (by omega)
theorem wc (l:List Tk):SXs l:=SY _ l (av _)
noncomputable def kY (l:List Tk):PR (List St):=jY fun f=>dN f l
noncomputable def Az (l:List Tk):PR St:=jY fun f=>gq f l
noncomputable def CB (acc:List St) (l:List Tk):PR (List St):=jY fun f=>ka f acc l
theorem tA (l:List Tk):bG (fun f=>dN f l) (kY l):=(wc l).block.lim
theorem Ua (l:List Tk):bG (fun f=>gq f l) (Az l):=(wc l).stmt.lim
theorem Tl (acc:List St) (l:List Tk):bG (fun f=>ka f acc l) (CB acc l):=((wc l).stmts acc).lim
theorem le0 (l:List Tk):bG (fun f=>cC f 0 l) (dQ 0 l):=rT (n:=0) (by decide) l
theorem ZI (l:List Tk):kY l=aV [123] l fun r=>CB [] r:=
 jF (b8 (fun f=>by rw[dN]) (oE (Tl _ _)))
theorem Ow (acc:List St) (l:List Tk):CB acc l=(if az [125] l=true then .ok (acc,l.tail) else an (Az l) fun s r=>CB (acc++[s]) r):=
 jF (b8 (fun f=>by rw[ka]) (dI (bb _) (cJ (Ua l) fun s r=>Tl _ _)))
theorem qo (l:List Tk):Az l=
  (if az sN l=true then an (oL l.tail) fun e r=>an (kY r) fun b r2=>
   if az pV r2=true then an (kY r2.tail) fun a r3=> .ok (.mk 4 [] ai zE e b a,r3) else .ok (.mk 4 [] ai zE e b [],r2)
  else if az uU l=true then an (oL l.tail) fun e r=>an (kY r) fun b r2=> .ok (.mk 5 [] ai zE e b [],r2)
  else if az tM l=true then
   if az [59] l.tail=true then .ok (.mk 6 [] ai zE zE [] [],l.tail.tail) else an (dQ 0 l.tail) fun e r=>aV [59] r fun r2=> .ok (.mk 6 [] ai zE e [] [],r2)
  else if az uV l=true then an (dQ 0 l.tail) fun e r=>aV [59] r fun r2=> .ok (.mk 7 [] ai zE e [] [],r2)
  else if az vg l=true then an (kY l.tail) fun b r=>aV nu r fun r2=>aV [40] r2 fun r3=>an (eY r3) fun t r4=>an (da r4) fun s r5=>aV [41] r5 fun r6=>an (kY r6) fun a r7=> .ok (.mk 8 s t zE zE b a,r7)
  else if az u9 l=true then an (oL l.tail) fun e r=>an (kY r) fun b r2=> .ok (.mk 9 [] ai zE e b [],r2)
  else if az [123] l=true then an (kY l) fun b r=> .ok (.mk 10 [] ai zE zE b [],r)
  else if az rL l=true/\az [40] l.tail=true then an (oY l.tail) fun es r=>aV [59] r fun r2=> .ok (.mk 11 [] ai zE (.mk 0 0 [] [] ai es) [] [],r2)
  else if lE l=true then an (eY l) fun t r=>an (da r) fun s r2=>aV [61] r2 fun r3=>an (dQ 0 r3) fun e r4=>aV [59] r4 fun r5=> .ok (.mk 1 s t zE e [] [],r5)
  else an (dQ 0 l) fun e r=>
   if az [61] r=true then an (dQ 0 r.tail) fun x r2=>aV [59] r2 fun r3=> .ok (.mk 2 [] ai e x [] [],r3)
   else aV [59] r fun r2=> .ok (.mk 3 [] ai zE e [] [],r2)):=
 jF (b8 (fun f=>by rw[gq]) (by
  refine dI ?_ (dI ?_ (dI (dI (bb _) ?_) (dI ?_ (dI ?_ (dI ?_ (dI ?_ (dI ?_ (dI ?_ ?_))))))))
  ·refine cJ (ye _) fun e r=>cJ (tA _) fun b r2=> ?_
   exact dI (cJ (tA _) fun a r3=>bb _) (bb _)
  ·exact cJ (ye _) fun e r=>cJ (tA _) fun b r2=>bb _
  ·exact cJ (le0 _) fun e r=>bb _
  ·exact cJ (le0 _) fun e r=>bb _
  ·refine cJ (tA _) fun b r=>oE (oE ?_)
   refine cJ (bb _) fun t r4=> ?_
   refine cJ (bb _) fun s r5=>oE ?_
   exact cJ (tA _) fun a r7=>bb _
  ·exact cJ (ye _) fun e r=>cJ (tA _) fun b r2=>bb _
  ·exact cJ (tA _) fun b r=>bb _
  ·exact cJ (C3 _) fun es r=>bb _
  ·refine cJ (bb _) fun t r=> ?_
   refine cJ (bb _) fun s r2=>oE ?_
   exact cJ (le0 _) fun e r4=>bb _
  ·refine cJ (le0 _) fun e r=> ?_
   exact dI (cJ (le0 _) fun x r2=>bb _) (bb _)))
/-! Parameters, members, classes. -/
theorem OJ:∀(N:Nat) (acc:List Pc) (l:List Tk),l.length<=N->Tot true (fun f=>jk f acc l) l:=fun N=>by
 induction N with
 |zero=>
  intro acc l h;have hl:l=[]:=List.length_eq_zero_iff.1 (by omega);subst hl;refine kB (h:=fun _=> .error []) (fun f=>by rw[jk];rfl) (Cy (List.suffix_refl _))
 |succ N ih=>
  intro acc l h;refine kB (h:=fun f=>if az [44] l=true then an (eY l.tail) fun t r=>an (da r) fun s r2=>jk f (acc++[⟨t,s⟩]) r2 else aV [41] l fun r=> .ok (acc,r)) (fun f=>by rw[jk]) ?_;refine dt (fun hp=> ?_) fun _=>iX (a:=false) fun _ _=>j8
  have aw:=eB (cd hp);refine kC (cW l) aw (cM (b:=true) (xR _) fun t r h1 _=> ?_);have q1:=gS h1;refine cM (b:=true) (tu _) fun s r2 h2 _=> ?_
  have q2:=gS h2;exact ih _ r2 (by omega)
noncomputable def CH (acc:List Pc) (l:List Tk):PR (List Pc):=jY fun f=>jk f acc l
theorem Tm (acc:List Pc) (l:List Tk):bG (fun f=>jk f acc l) (CH acc l):=(OJ _ acc l (av _)).lim
theorem OK (acc:List Pc) (l:List Tk):CH acc l=(if az [44] l=true then an (eY l.tail) fun t r=>an (da r) fun s r2=>CH (acc++[⟨t,s⟩]) r2 else aV [41] l fun r=> .ok (acc,r)):=
 jF (b8 (fun f=>by rw[jk]) (by
  refine dI ?_ (bb _);refine cJ (bb _) fun t r=> ?_
  exact cJ (bb _) fun s r2=>Tm _ _))
theorem N2 (l:List Tk):Tot true (fun f=>pC f l) l:=by
 unfold pC;refine iX (a:=false) fun _ _=>dt (fun _=>iY _ (cW _) fun h=>by cases h) fun _=> ?_
 refine mB false (cM (b:=true) (xR _) fun t r _ _=>cM (b:=true) (tu _) fun s r3 _ _=>OJ _ _ r3 (av _)) fun h=>by cases h
noncomputable def uP (l:List Tk):PR (List Pc):=aV [40] l fun r=>if az [41] r=true then .ok ([],r.tail) else an (eY r) fun t r2=>an (da r2) fun s r3=>CH [⟨t,s⟩] r3
theorem lparams (l:List Tk):bG (fun f=>pC f l) (uP l):=by
 unfold pC uP;refine oE (dI (bb _) ?_);refine cJ (bb _) fun t r=> ?_
 exact cJ (bb _) fun s r3=>Tm _ _
noncomputable def qC (d:Cd) (fl:Int) (t:Ty) (s:List UInt8) (l:List Tk):PR Cd:=
 an (uP l) fun ps r=>if az [59] r=true then .ok (d.addM ⟨fl,t,s,ps,false,[]⟩,r.tail) else an (kY r) fun b r2=> .ok (d.addM ⟨fl,t,s,ps,true,b⟩,r2)
noncomputable def gH (d:Cd) (fl:Int) (l:List Tk):PR Cd:=
 if fl=8/\az [123] l=true then an (kY l) fun b r=> .ok (d.addI b,r)
 else if az wP l=true then an (uP l.tail) fun ps r=>an (kY r) fun b r2=> .ok (d.addM ⟨fl,eZ,eK,ps,true,b⟩,r2)
 else if az qB l=true then an (da l.tail) fun s r=>qC d fl eZ s r
 else an (eY l) fun t r=>an (da r) fun s r2=>if az [59] r2=true then .ok (d.addF ⟨fl,t,s⟩,r2.tail) else qC d fl t s r2
theorem Ub (d:Cd) (fl:Int) (t:Ty) (s:List UInt8) (l:List Tk):bG (fun f=>oR f d fl t s l) (qC d fl t s l):=by
 unfold oR qC;refine cJ (lparams _) fun ps r=>dI (bb _) ?_
 exact cJ (tA _) fun b r2=>bb _
theorem Sa (d:Cd) (fl:Int) (l:List Tk):bG (fun f=>lR f d fl l) (gH d fl l):=by
 unfold lR gH;refine dI (cJ (tA _) fun b r=>bb _) (dI ?_ (dI ?_ ?_))
 ·exact cJ (lparams _) fun ps r=>cJ (tA _) fun b r2=>bb _
 ·exact cJ (bb _) fun s r=>Ub _ _ _ _ _
 ·refine cJ (bb _) fun t r=> ?_
  refine cJ (bb _) fun s r2=> ?_
  exact dI (bb _) (Ub _ _ _ _ _)
theorem PX (d:Cd) (fl:Int) (t:Ty) (s:List UInt8) (l:List Tk):Tot true (fun f=>oR f d fl t s l) l:=by
 unfold oR;refine cM (b:=false) (N2 _) fun ps r _ _=>dt (fun _=>iY _ (cW _) fun h=>by cases h) fun _=> ?_
 exact mB false (cM (b:=false) (wc r).block fun b r2 _ _=>j8) fun h=>by cases h
theorem N7 (d:Cd) (fl:Int) (l:List Tk):Tot true (fun f=>lR f d fl l) l:=by
 unfold lR;refine dt (fun _=>cM (b:=false) (wc l).block fun b r _ _=>j8) fun _=>dt (fun h=> ?_) fun _=>dt (fun h=> ?_) fun _=> ?_
 ·exact kC (cW l) (eB (cd h)) (cM (b:=true) (N2 _) fun ps r _ _=>cM (b:=false) (wc r).block fun b r2 _ _=>j8)
 ·exact kC (cW l) (eB (cd h)) (cM (b:=true) (tu _) fun s r _ _=>PX _ _ _ _ _)
 ·refine cM (b:=true) (xR _) fun t r _ _=>cM (b:=false) (tu _) fun s r2 _ _=> ?_
  exact dt (fun _=>iY _ (cW _) fun h=>by cases h) fun _=>mB false (PX _ _ _ _ _) fun h=>by cases h
theorem uK:∀(q:List (Int×List UInt8)) (fl:Int) (l:List Tk),(bN q fl l).2<:+l
 |[],fl,l=>List.suffix_refl _
 |p::q,fl,l=>by
  rw[bN];split
  ·exact(uK q _ _).trans (cW l)
  ·exact uK q _ _
theorem Qv:∀(N:Nat) (d:Cd) (l:List Tk),l.length<=N->Tot true (fun f=>gg f d l) l:=fun N=>by
 have step:∀(d:Cd) (l:List Tk),(∀e (r:List Tk),r.length<l.length->Tot true (fun f=>gg f e r) r)->Tot true (fun f=>gg f d l) l:=fun d l ih=>by
  refine kB (h:=fun f=>if az [125] l=true then .ok (d,l.tail) else an (lR f d (bN bK 0 l).1 (bN bK 0 l).2) fun e r=>gg f e r) (fun f=>by rw[gg]) ?_;refine dt (fun h=>iY _ (cW l) fun _=>eB (cd h)) fun _=> ?_
  have hs:=uK bK 0 l;have q:=gS hs;exact rK hs (cM (b:=true) (N7 _ _ _) fun e r _ h2=>ih e r (by have:=h2 rfl;omega))
 induction N with
 |zero=>intro d l h;exact step d l fun e r hr=>by omega
 |succ N ih=>intro d l h;exact step d l fun e r hr=>ih e r (by omega)
noncomputable def C2 (d:Cd) (l:List Tk):PR Cd:=jY fun f=>gg f d l
theorem Ud (d:Cd) (l:List Tk):bG (fun f=>gg f d l) (C2 d l):=(Qv _ d l (av _)).lim
theorem Qw (d:Cd) (l:List Tk):C2 d l=(if az [125] l=true then .ok (d,l.tail) else an (gH d (bN bK 0 l).1 (bN bK 0 l).2) fun e r=>C2 e r):=
 jF (b8 (fun f=>by rw[gg]) (dI (bb _) (cJ (Sa _ _ _) fun e r=>Ud _ _)))
theorem Ps:∀(N:Nat) (acc:List (List UInt8)) (l:List Tk),l.length<=N->Tot false (fun f=>ke f acc l) l:=fun N=>by
 have step:∀(acc:List (List UInt8)) (l:List Tk),(∀a (r:List Tk),r.length<l.length->Tot false (fun f=>ke f a r) r)->Tot false (fun f=>ke f acc l) l:=fun acc l ih=>by
  refine kB (h:=fun f=>if az [44] l=true then an (fz l.tail) fun s r=>ke f (acc++[s]) r else .ok (acc,l)) (fun f=>by rw[ke]) ?_;refine dt (fun h=> ?_) fun _=>j8
  have aw:=eB (cd h);exact rK (cW l) (mB false (cM (b:=false) (xS _) fun s r h1 _=>ih _ r (by have:=gS h1;omega)) fun h=>by cases h)
 induction N with
 |zero=>intro acc l h;exact step acc l fun a r hr=>by omega
 |succ N ih=>intro acc l h;exact step acc l fun a r hr=>ih a r (by omega)
noncomputable def At (acc:List (List UInt8)) (l:List Tk):PR (List (List UInt8)):=jY fun f=>ke f acc l
theorem Tq (acc:List (List UInt8)) (l:List Tk):bG (fun f=>ke f acc l) (At acc l):=(Ps _ acc l (av _)).lim
theorem Pt (acc:List (List UInt8)) (l:List Tk):At acc l=(if az [44] l=true then an (fz l.tail) fun s r=>At (acc++[s]) r else .ok (acc,l)):=
 jF (b8 (fun f=>by rw[ke]) (by
  refine dI ?_ (bb _)
  exact cJ (bb _) fun s r=>Tq _ _))
noncomputable def jN (w:List UInt8) (l:List Tk):PR (List (List UInt8)):=if az w l=true then an (fz l.tail) fun s r=>At [s] r else .ok ([],l)
theorem UG (w:List UInt8) (l:List Tk):bG (fun f=>nI f w l) (jN w l):=by
 unfold nI jN;refine dI ?_ (bb _);exact cJ (bb _) fun s r=>Tq _ _
theorem Sk (w:List UInt8) (l:List Tk):Tot false (fun f=>nI f w l) l:=by
 unfold nI;refine dt (fun h=> ?_) fun _=>j8
 exact rK (cW l) (mB false (cM (b:=false) (xS _) fun s r _ _=>Ps _ _ r (av _)) fun h=>by cases h)
noncomputable def n8 (l:List Tk):PR Cd:=
 if az wR (bN iN 0 l).2=true then an (fz (bN iN 0 l).2.tail) fun n r=>an (jN gh r) fun is r2=>aV [123] r2 fun r3=> .ok (⟨(bN iN 0 l).1+1536,n,kH,is,[],[],[]⟩,r3)
 else aV jS (bN j5 (bN iN 0 l).1 (bN iN 0 l).2).2 fun r=>an (fz r) fun n r2=>aV gh r2 fun r3=>an (fz r3) fun sp r4=>an (jN kn r4) fun is r5=>aV [123] r5 fun r6=>
  .ok (⟨(bN j5 (bN iN 0 l).1 (bN iN 0 l).2).1,n,sp,is,[],[],[]⟩,r6)
theorem ag6 (l:List Tk):bG (fun f=>pT f l) (n8 l):=by
 unfold pT n8;refine dI ?_ (oE ?_)
 ·refine cJ (bb _) fun n r=> ?_
  exact cJ (UG _ _) fun is r2=>bb _
 ·refine cJ (bb _) fun n r2=>oE ?_
  refine cJ (bb _) fun sp r4=> ?_
  exact cJ (UG _ _) fun is r5=>bb _
theorem abh (l:List Tk):Tot true (fun f=>pT f l) l:=by
 unfold pT;have s1:=uK iN 0 l;have s2:=(uK j5 (bN iN 0 l).1 (bN iN 0 l).2).trans s1;refine dt (fun h=>rK s1 ?_) fun _=>rK s2 ?_
 ·exact kC (cW _) (eB (cd h)) (cM (b:=true) (xS _) fun n r _ _=>cM (a:=false) (b:=true) (Sk _ _) fun is r2 _ _=>iX (a:=false) fun _ _=>j8)
 ·exact iX (a:=true) fun _ _=>cM (b:=true) (xS _) fun n r2 _ _=>iX (a:=true) fun _ _=>cM (b:=true) (xS _) fun sp r4 _ _=>cM (a:=false) (b:=true) (Sk _ _) fun is r5 _ _=>iX (a:=false) fun _ _=>j8
noncomputable def Ei (l:List Tk):PR Cd:=an (n8 l) fun d r=>C2 d r
theorem Vm (l:List Tk):bG (fun f=>uA f l) (Ei l):=cJ (ag6 l) fun d r=>Ud d r
theorem TU (l:List Tk):Tot true (fun f=>uA f l) l:=cM (b:=true) (abh l) fun d r _ _=>Qv _ d r (av _)
theorem aaQ:∀(N:Nat) (acc:List Cd) (l:List Tk),l.length<=N->Tot false (fun f=>la f acc l) l:=fun N=>by
 have step:∀(acc:List Cd) (l:List Tk),(∀a (r:List Tk),r.length<l.length->Tot false (fun f=>la f a r) r)->Tot false (fun f=>la f acc l) l:=fun acc l ih=>by
  refine kB (h:=fun f=>if l=[] then .ok (acc,[]) else an (uA f l) fun d r=>la f (acc++[d]) r) (fun f=>by rw[la]) ?_;refine dt (fun h=>iY _ (by rw[h];exact List.suffix_refl _) fun h=>by cases h) fun _=> ?_
  exact mB false (cM (b:=false) (TU l) fun d r _ h2=>ih _ r (h2 rfl)) fun h=>by cases h
 induction N with
 |zero=>intro acc l h;exact step acc l fun a r hr=>by omega
 |succ N ih=>intro acc l h;exact step acc l fun a r hr=>ih a r (by omega)
noncomputable def mJ (acc:List Cd) (l:List Tk):PR (List Cd):=jY fun f=>la f acc l
theorem Gj (acc:List Cd) (l:List Tk):bG (fun f=>la f acc l) (mJ acc l):=(aaQ _ acc l (av _)).lim
theorem P6 (acc:List Cd) (l:List Tk):mJ acc l=(if l=[] then .ok (acc,[]) else an (Ei l) fun d r=>mJ (acc++[d]) r):=
 jF (b8 (fun f=>by rw[la]) (dI (bb _) (cJ (Vm l) fun d r=>Gj _ _)))
theorem F6 (ts:List Tk) (i:Nat):fE ts i=(ts.drop i).headD zT:=by
 rw[fE,List.getD_eq_getElem?_getD,List.headD_eq_head?_getD,List.head?_drop]
theorem xV (ts:List Tk) (i:Nat):gR (ts.drop i)=(fE ts i).k:=by
 rw[F6];cases ts.drop i<;>rfl
theorem uT (ts:List Tk) (i:Nat):j7 (ts.drop i)=(fE ts i).s:=by
 rw[F6];cases ts.drop i<;>rfl
theorem adm (ts:List Tk) (i:Nat):sW (ts.drop i)=(fE ts i).n:=by
 rw[F6];cases ts.drop i<;>rfl
theorem ax (ts:List Tk) (i:Nat) (w:List UInt8):bC ts i w=az w (ts.drop i):=by
 rw[bC,F6];cases ts.drop i with
 |nil=>simp [zT,az]
 |cons t r=>rfl
def wO (en:Int):List Tk->Int
 |[]=>en
 |t::_=>t.at_
structure Inv (ts:List Tk) (s:PSt):Prop where
 le:s.i<=ts.length
 fl:s.fl=true->s.i=ts.length
structure Res {α:Type} (ts:List Tk) (en:Int) (s:PSt) (K:PR α) (a:α) (s' :PSt):Prop where
 inv:Inv ts s'
 mono:s.i<=s'.i
 fl:s.fl=true->s' =s
 ok:s.fl=false->∀x r,K= .ok (x,r)->a=x/\s'.fl=false/\r=ts.drop s'.i
 er:s.fl=false->∀r,K= .error r->s'.fl=true/\s'.off=wO en r
def aZ (ts:List Tk) (en:Int) (s:PSt) (w:List UInt8):PSt:=if bC ts s.i w=true then s.next else kF ts en s
section
variable {ts:List Tk} {en:Int} {s s1 s' :PSt} {α β:Type}
theorem JZ {i:Nat} (h:ts.length<=i):fE ts i=zT:=by rw[fE,List.getD_eq_getElem?_getD,List.getElem?_eq_none h];rfl
theorem JY {i:Nat} (h:i<ts.length):fE ts i=ts[i]:=by rw[fE,List.getD_eq_getElem?_getD,List.getElem?_eq_getElem h];rfl
theorem Inv.nfl (h:Inv ts s) (hi:s.i<ts.length):s.fl=false:=by
 cases e:s.fl with
 |false=>rfl
 |true=>have:=h.fl e;omega
theorem Inv.next (h:Inv ts s) (hi:s.i<ts.length):Inv ts s.next:=⟨hi,fun e=>by
 have:=h.nfl hi;have e:s.fl=true:=e
 rw[this] at e;cases e⟩
theorem O4 (h:Inv ts s):Inv ts (kF ts en s):=by
 unfold kF;split
 ·exact h
 ·exact⟨av _,fun _=>rfl⟩
theorem Jt (h:Inv ts s):s.i<=(kF ts en s).i:=by
 unfold kF;split
 ·exact av _
 ·exact h.le
theorem B9 (s:PSt):(kF ts en s).fl=true:=by
 unfold kF;split
 ·assumption
 ·rfl
theorem Od (h:s.fl=true):kF ts en s=s:=by rw[kF,ah h]
theorem Pg (h:s.fl=false):(kF ts en s).off=wO en (ts.drop s.i):=by
 rw[kF,af (by rw[h];decide)];show(if _ then _ else _)=_;split
 ·rename_i hi;rw[JY hi,List.drop_eq_getElem_cons hi];rfl
 ·rename_i hi;rw[List.drop_eq_nil_of_le (by omega)];rfl
theorem cL (a:α) (hs:Inv ts s):Res ts en s (.ok (a,ts.drop s.i)) a s:=
 ⟨hs,av _,fun _=>rfl,fun h x r e=>by cases e;exact⟨rfl,h,rfl⟩,fun _ r e=>by cases e⟩
theorem Fb (a:α) (hs:Inv ts s):Res ts en s (.error (ts.drop s.i)) a (kF ts en s):=
 ⟨O4 hs,Jt hs,Od,fun _ x r e=>by(cases e),fun h r e=>by cases e;exact⟨B9 s,Pg h⟩⟩
theorem aW {K1:PR α} {K2:α->List Tk->PR β} {a:α} {b:β} (h1:Res ts en s K1 a s1) (h2:Res ts en s1 (K2 a (ts.drop s1.i)) b s'):Res ts en s (an K1 K2) b s' :=by
 refine⟨h2.inv,cX h1.mono h2.mono,fun h=> ?_,fun h x r e=> ?_,fun h r e=> ?_⟩
 ·have:=h1.fl h;subst this;exact h2.fl h
 ·cases hK:K1 with
  |error r1=>rw[hK] at e;cases e
  |ok p=>
   obtain⟨x1,r1⟩:=p;obtain⟨rfl,q2,rfl⟩:=h1.ok h x1 r1 hK;rw[hK] at e;exact h2.ok q2 x r e
 ·cases hK:K1 with
  |error r1=>
   rw[hK] at e;cases e;obtain⟨q1,q2⟩:=h1.er h _ hK;have:=h2.fl q1;subst this;exact⟨q1,q2⟩
  |ok p=>
   obtain⟨x1,r1⟩:=p;obtain⟨rfl,q2,rfl⟩:=h1.ok h x1 r1 hK;rw[hK] at e;exact h2.er q2 r e
theorem fB {w:List UInt8} (h:Inv ts s):Inv ts (aZ ts en s w):=by
 unfold aZ;split
 ·rename_i e;exact h.next (bF e)
 ·exact O4 h
theorem gZ {w:List UInt8} (h:Inv ts s):s.i<=(aZ ts en s w).i:=by
 unfold aZ;split
 ·exact Nat.le_succ _
 ·exact Jt h
theorem cv {K:PR α} {a:α} (hs:Inv ts s) (hi:s.i<ts.length) (h:Res ts en s.next K a s'):Res ts en s K a s' :=by
 have hf:=hs.nfl hi;exact⟨h.inv,cX (Nat.le_succ _) h.mono,fun e=>(by rw[hf] at e;cases e),fun e=>h.ok e,fun e=>h.er e⟩
theorem b7 (ts:List Tk) (s:PSt):ts.drop s.next.i=(ts.drop s.i).tail:=by
 rw[List.tail_drop];rfl
theorem acC {k:List Tk->PR α} {a:α} (hs:Inv ts s) (hi:s.i<ts.length) (h:Res ts en s.next (k (ts.drop s.next.i)) a s'):Res ts en s (k (ts.drop s.i).tail) a s' :=by
 rw[<- b7];exact cv hs hi h
theorem dZ {k:List Tk->PR α} {a:α} {w:List UInt8} (hs:Inv ts s) (h:Res ts en (aZ ts en s w) (k (ts.drop (aZ ts en s w).i)) a s'):Res ts en s (aV w (ts.drop s.i) k) a s' :=by
 unfold aV;rw[<- ax];unfold aZ at h;by_cases hc:bC ts s.i w=true
 ·rw[ah hc] at h ⊢;exact acC hs (bF hc) h
 ·rw[af hc] at h ⊢;refine⟨h.inv,cX (Jt hs) h.mono,fun e=> ?_,fun _ x r e=>by(cases e),fun e r e2=> ?_⟩
  ·rw[Od e] at h;exact h.fl e
  ·cases e2;have:=h.fl (B9 s);rw[this];exact⟨B9 s,Pg e⟩
end
theorem I0:∀(f g:Nat) (t:Ty) (l:List Tk),l.length<=f->l.length<=g->jK f t l=jK g t l
 |0,0,_,_,_,_=>rfl
 |0,g+1,t,l,h,_=>by
  have hl:l=[]:=List.length_eq_zero_iff.1 (by omega);subst hl;rw[jK,jK];rfl
 |f+1,0,t,l,_,h=>by
  have hl:l=[]:=List.length_eq_zero_iff.1 (by omega);subst hl;rw[jK,jK];rfl
 |f+1,g+1,t,l,h1,h2=>by
  rw[jK,jK];by_cases h:az [91] l=true
  ·rw[ah h,ah h];unfold aV;have q1:=eB (cd h);have q2:=gS (cW l.tail);dsimp only;rw[I0 f g t.up l.tail.tail (by omega) (by omega)]
  ·rw[af h,af h]
theorem Jj:∀(f g:Nat) (t:Ty) (l:List Tk),l.length<=f->l.length<=g->iK f t l=iK g t l
 |0,0,_,_,_,_=>rfl
 |0,g+1,t,l,h,_=>by
  have hl:l=[]:=List.length_eq_zero_iff.1 (by omega);subst hl;rw[iK,iK];rfl
 |f+1,0,t,l,_,h=>by
  have hl:l=[]:=List.length_eq_zero_iff.1 (by omega);subst hl;rw[iK,iK];rfl
 |f+1,g+1,t,l,h1,h2=>by
  rw[iK,iK];by_cases h:az [93] l=true
  ·rw[ah h,ah h];unfold aV;have q1:=eB (cd h);have q2:=gS (cW l.tail);dsimp only;rw[Jj f g t.up l.tail.tail (by omega) (by omega)]
  ·rw[af h,af h]
def AK (t:Ty) (l:List Tk):PR Ty:=jK l.length t l
def yx (t:Ty) (l:List Tk):PR Ty:=iK l.length t l
theorem QY (t:Ty) (l:List Tk):AK t l=(if az [91] l=true then aV [93] l.tail fun r=>AK t.up r else .ok (t,l)):=by
 rw[AK,I0 l.length (l.length+1) t l (av _) (by omega),jK];by_cases h:az [91] l=true
 ·rw[ah h,ah h];unfold aV;have q1:=gS (cW l);have q2:=gS (cW l.tail);dsimp only;rw[AK,I0 l.length l.tail.tail.length t.up l.tail.tail (by omega) (av _)]
 ·rw[af h,af h]
theorem FH (t:Ty) (l:List Tk):yx t l=(if az [93] l=true then aV [91] l.tail fun r=>yx t.up r else .ok (t,l)):=by
 rw[yx,Jj l.length (l.length+1) t l (av _) (by omega),iK];by_cases h:az [93] l=true
 ·rw[ah h,ah h];unfold aV;have q1:=gS (cW l);have q2:=gS (cW l.tail);dsimp only;rw[yx,Jj l.length l.tail.tail.length t.up l.tail.tail (by omega) (av _)]
 ·rw[af h,af h]
section
variable {t:Tk} {a b:List Tk}
end
theorem aey (l:List Tk):eY l=an (jq l) fun t r=>AK t r:=rfl
end Go.Proofs.YtimddhkipjedcaaGreatDoor.E
namespace Go.Proofs.YtimddhkipjedcaaGreatDoor.E
open Go Go.RowKit
theorem Zd (s:List UInt8) (c:UInt8) (m:Mem):FnH Tryz.prog 228 [.v (.string (bs s)),.v (.string (bs [c]))] ⟨[],[]⟩ m fun r H' _=>r= .v (.bool (s.contains c))/\H' =⟨[],[]⟩:=by
 refine(Gb (args:=[.string (bs s),.string (bs [c])]) (R:=fun y=>y= .bool (s.contains c)) fun w D kP hle=> ?_).mono ?_
 ·refine(Tryz.strings_Contains_one (bs s) c w).mono ?_;rintro e w' ⟨rfl,rfl⟩;refine⟨_,rfl,?_,Below.refl _ _⟩;rw[Lib.contains_iff_indexByte];rfl
 ·rintro r H' m' hm ⟨⟨y,rfl,rfl⟩,h1,h2⟩;exact⟨rfl,h1⟩
section
variable {P:Program} {cfg:Cfg}
def u0 (V:Vl) (b:Bx):Bx:=⟨b.id,b.ty,b.cs.map fun s=> .v (bL V s)⟩
theorem QP (V:Vl) (l:List SV):(l.map fun s=>SV.v (bL V s)).map (bL V)=l.map (bL V):=by
 induction l with
 |nil=>rfl
 |cons s r ih=>simp only[bJ,ih];rfl
theorem Ql {nid:Nat} {vc:List Vc} {V:Vl}:∀l:List SV,fO nid vc (l.map fun s=>SV.v (bL V s))
 |[]=>trivial
 |s::r=>⟨trivial,Ql r⟩
theorem QO (V:Vl):∀l:List Bx,(l.map (u0 V)).map (fun b=>V.β b.id)=l.map (fun b=>V.β b.id)
 |[]=>rfl
 |b::r=>by simp only[bJ,QO V r];rfl
theorem I4 (V:Vl) (H:Hp):br V ⟨H.bx.map (u0 V),H.vc⟩=br V H:=by
 unfold br;rw[QO]
theorem ZU {V:Vl} {D:Nat->Nat} {w:World} {H:Hp} (h:HSat V D w H):HSat V D w ⟨H.bx.map (u0 V),H.vc⟩:=by
 refine⟨fun b hb=> ?_,h.vc,?_,h.uniq⟩
 ·obtain⟨b0,h0,rfl⟩:=List.mem_map.1 hb;obtain⟨⟨o,h1,h2⟩,h3⟩:=h.bx b0 h0;refine⟨⟨o,h1,?_⟩,h3⟩;show nD b0.ty ((b0.cs.map fun s=>SV.v (bL V s)).map (bL V)) o;rw[QP];exact h2
 ·rw[I4];exact h.apart
theorem XA {V:Vl} {D:Nat->Nat} {w:World} {H:Hp} (h:HSat V D w ⟨H.bx.map (u0 V),H.vc⟩):HSat V D w H:=by
 refine⟨fun b hb=> ?_,h.vc,?_,h.uniq⟩
 ·obtain⟨⟨o,h1,h2⟩,h3⟩:=h.bx (u0 V b) (List.mem_map.2 ⟨b,hb,rfl⟩);refine⟨⟨o,h1,?_⟩,h3⟩;have HF:nD b.ty ((b.cs.map fun s=>SV.v (bL V s)).map (bL V)) o:=h2;rw[QP] at HF;exact HF
 ·have:=h.apart;rw[I4] at this;exact this
theorem Py {V:Vl} {H H2:Hp} (hb:H2.bx.Sublist H.bx) (hv:H2.vc.Sublist H.vc):(br V H2).Sublist (br V H):=by
 unfold br;exact(hb.map _).append (hv.filterMap _)
theorem ZT {V:Vl} {D:Nat->Nat} {w:World} {H H2:Hp} (h:HSat V D w H) (hb:H2.bx.Sublist H.bx) (hv:H2.vc.Sublist H.vc):HSat V D w H2:=
 ⟨fun b h0=>h.bx b (hb.subset h0),fun b h0=>h.vc b (hv.subset h0),h.apart.sublist (Py hb hv),h.uniq.sublist (hv.map _)⟩
theorem SN {f:FuncId} {args:List SV} {H:Hp} {m:Mem} {R R' :SV->Hp->Mem->Prop} (h:FnH P f args H m R)
  (hR:∀r H' m',m.le m' ->R r H' m' ->R' r H' m' \/∃(g:SV->SV) (k u:Nat) (b:Vc) (H2:Hp),eV H'.vc k u=some b/\r=g (.vec k u)/\
   (∀(V:Vl) (v:Value),(V.γ k u).val=v->den V (g (.vec k u))=den V (g (.v v)))/\H2.bx.Sublist H'.bx/\H2.vc.Sublist H'.vc/\
   ∀(a:Option Addr) (c:Nat) (m1:Mem),m'.le m1->b.n<=c->aX m1 a b.n b.sz b.xs->R' (g (.v (.slice a b.n c))) H2 m1):FnH P f args H m R' :=by
 intro V w D kP hle hH;refine(h V w D kP hle hH).mono ?_;rintro e w' ⟨r,V',D',H',m',e1,e2,e3,e4,e5,e6,e7,e8,e9,jg,mq⟩;rcases hR r H' m' e9 mq with hr |⟨g,k,u,b,H2,hb,rfl,hg,s1,s2,hK⟩
 ·exact⟨r,V',D',H',m',e1,e2,e3,e4,e5,e6,e7,e8,e9,jg,hr⟩
 ·have hW:SatW ⟨w,D,(· ∈br V H),⟨[],[]⟩,V',m⟩ (H'.bx.map (u0 V')) H'.vc (max (oe (H'.bx.map (u0 V'))) (od H'.vc)) m' V' D' w' :=by
   refine⟨ZU e3,e2,e6,fun x hx=> ?_,fun x hx=>(by cases hx),fun x hx=>(by cases hx),⟨fun x hx=>⟨?_,?_⟩,fun x hx=> ?_⟩,e8,e9,jg⟩
   ·rw[I4] at hx;exact e7 x hx
   ·exact eP (FD hx) (Nat.le_max_left _ _)
   ·obtain⟨b0,_,rfl⟩:=List.mem_map.1 hx;exact Ql _
   ·exact eP (FC hx) (Nat.le_max_right _ _)
  obtain⟨a,c,m1,D2,q1,q2,q3,q4,q5⟩:=SatW.pub (st:=⟨[],[],H'.bx.map (u0 V'),H'.vc,max (oe (H'.bx.map (u0 V'))) (od H'.vc),m'⟩) hW hb;have hS:=ZT (XA q5.heap) s1 s2;refine⟨g (.v (.slice a b.n c)),V',D2,H2,m1,?_,q5.wf,hS,e4,e5,q5.frm,fun x hx=>e7 x ((Py s1 s2).subset hx),q5.le0,q5.m0,q5.mle,hK a c m1 q1 q2 q3⟩;rw[e1,hg V' _ q4]
def U7 (R' :SV->Hp->Mem->Prop) (r:SV) (H' :Hp) (m' :Mem):Prop:=∃H2:Hp,(sK ⟨[],[],H'.bx,H'.vc,0,m'⟩ H2.bx/\sJ ⟨[],[],H'.bx,H'.vc,0,m'⟩ H2.vc)/\R' r H2 m'
theorem aek {f:FuncId} {args:List SV} {H:Hp} {m:Mem} {R' :SV->Hp->Mem->Prop} (h:FnH P f args H m (U7 R')):FnH P f args H m R' :=by
 intro V w D kP hle hH;refine(h V w D kP hle hH).mono ?_;rintro e w' ⟨r,V',D',H',m',e1,e2,e3,e4,e5,e6,e7,e8,e9,jg,H2,⟨hb,hv⟩,hr⟩;obtain⟨sX,hbu⟩:=JN hb;obtain⟨gB,hvu⟩:=JM hv;have yB:=List.nodup_append.1 e3.apart;refine⟨r,V',D',H2,m',e1,e2,⟨fun b hb=>e3.bx b (sX b hb),fun b hb=>e3.vc b (gB b hb),?_,hvu⟩,e4,e5,e6,fun b hb=>e7 b (Ft sX gB b hb),e8,e9,jg,hr⟩;refine List.nodup_append.2 ⟨?_,?_,fun x hx y hy=> ?_⟩
 ·exact IQ hbu fun x hx y hy e=>IM yB.1 x (sX x hx) y (sX y hy) e
 ·exact HM hvu fun x hx y hy b e1 e2=>Fw (gB x hx) (gB y hy) e1 e2 yB.2.1
 ·refine yB.2.2 x ?_ y ?_
  ·obtain⟨z,hz,e⟩:=List.mem_map.1 hx;exact List.mem_map.2 ⟨z,sX z hz,e⟩
  ·obtain⟨z,hz,e⟩:=List.mem_filterMap.1 hy;exact List.mem_filterMap.2 ⟨z,gB z hz,e⟩
def G1 (R' :SV->Hp->Mem->Prop) (r:SV) (H' :Hp) (m' :Mem):Prop:=R' r H' m' \/∃(g:SV->SV) (k u:Nat) (b:Vc) (H2:Hp),eV H'.vc k u=some b/\r=g (.vec k u)/\
 (∀(V:Vl) (v:Value),(V.γ k u).val=v->den V (g (.vec k u))=den V (g (.v v)))/\H2.bx.Sublist H'.bx/\H2.vc.Sublist H'.vc/\
 ∀(a:Option Addr) (c:Nat) (m1:Mem),m'.le m1->b.n<=c->aX m1 a b.n b.sz b.xs->R' (g (.v (.slice a b.n c))) H2 m1
theorem pF {f:FuncId} {args:List SV} {H:Hp} {m:Mem} {R' :SV->Hp->Mem->Prop} (h:FnH P f args H m (G1 R')):FnH P f args H m R' :=
 SN h fun _ _ _ _ hr=>hr
theorem Cj {R' :SV->Hp->Mem->Prop} {H' :Hp} {m' :Mem} {k u:Nat} {b:Vc} (hb:eV H'.vc k u=some b) (H2:Hp) (s1:H2.bx.Sublist H'.bx) (s2:H2.vc.Sublist H'.vc)
  (h:∀(a:Option Addr) (c:Nat) (m1:Mem),m'.le m1->b.n<=c->aX m1 a b.n b.sz b.xs->R' (.v (.slice a b.n c)) H2 m1):G1 R' (.vec k u) H' m' :=
 .inr ⟨id,k,u,b,H2,hb,rfl,fun _ _ h=>h,s1,s2,h⟩
theorem Rr {V:Vl} {v:Value}:∀{cs:List SV} {i k u:Nat},cs[i]? =some (.vec k u)->(V.γ k u).val=v->(cs.set i (.vec k u)).map (bL V)=(cs.set i (.v v)).map (bL V)
 |c::r,0,k,u,h,e=>by
  show bL V (.vec k u)::_=v::_;rw[<- e];rfl
 |c::r,i+1,k,u,h,e=>by
  simp only[List.set_cons_succ,bJ];rw[Rr (cs:=r) (i:=i) (by simpa using h) e]
theorem rI {R' :SV->Hp->Mem->Prop} {H' :Hp} {m' :Mem} {cs:List SV} {k u:Nat} {b:Vc} (i:Nat) (hi:cs[i]? =some (.vec k u)) (hb:eV H'.vc k u=some b) (H2:Hp) (s1:H2.bx.Sublist H'.bx) (s2:H2.vc.Sublist H'.vc)
  (h:∀(a:Option Addr) (c:Nat) (m1:Mem),m'.le m1->b.n<=c->aX m1 a b.n b.sz b.xs->R' (.agg (cs.set i (.v (.slice a b.n c)))) H2 m1):G1 R' (.agg cs) H' m' :=by
 refine .inr ⟨fun z=> .agg (cs.set i z),k,u,b,H2,hb,?_,fun V v e=> ?_,s1,s2,h⟩
 ·obtain⟨hl,he⟩:=List.getElem?_eq_some_iff.1 hi;simp only[<- he,List.set_getElem_self]
 ·show Value.agg ⟨_⟩=Value.agg ⟨_⟩;rw[Rr hi e]
def AB (k:Nat) (K:LS->Prop) (st:LS):Prop:=
 aQ (.mk (k:=fun b:Bx=>mR (.mk (k:=fun ck ak=>fO ak.nid ak.vc ck/\K ⟨ak.env,ak.rho,lg ak.bx k ck,ak.vc,ak.nid,ak.m⟩) (st,b.cs))) (iD st.bx k))
theorem Za {k:Nat} {K:LS->Prop} {st:LS}:AB k K st=
  aQ (.mk (k:=fun b:Bx=>mR (.mk (k:=fun ck ak=>fO ak.nid ak.vc ck/\K ⟨ak.env,ak.rho,lg ak.bx k ck,ak.vc,ak.nid,ak.m⟩) (st,b.cs))) (iD st.bx k)):=rfl
theorem BZ {k:Nat} {cs:List SV}:∀bx:List Bx,(lg bx k cs).map (·.id)=bx.map (·.id)
 |[]=>rfl
 |⟨k',t',ck⟩::r=>by
  simp only[lg];split
  ·rfl
  ·simp only[bJ,BZ r]
theorem BY {k:Nat} {cs:List SV}:∀{bx:List Bx} {b:Bx},b∈lg bx k cs->b∈bx\/∃b0,b0∈bx/\iD bx k=some b0/\b=⟨b0.id,b0.ty,cs⟩
 |⟨k',t',ck⟩::r,b,h=>by
  simp only[lg] at h;split at h
  ·rename_i e;rcases List.mem_cons.1 h with rfl |h
   ·refine .inr ⟨⟨k',t',ck⟩,b6 ..,?_,rfl⟩;simp only[iD,ah e]
   ·exact .inl (bR _ h)
  ·rename_i e;rcases List.mem_cons.1 h with rfl |h
   ·exact .inl (b6 ..)
   ·rcases BY h with h |⟨b0,h1,h2,h3⟩
    ·exact .inl (bR _ h)
    ·refine .inr ⟨b0,bR _ h1,?_,h3⟩;simp only[iD,af e];exact h2
theorem ac6 {V:Vl} {l l' :List Bx} (h:l'.map (·.id)=l.map (·.id)):l'.map (fun b=>V.β b.id)=l.map (fun b=>V.β b.id):=by
 have:=congrArg (List.map V.β) h;simpa only[List.map_map,Function.comp_def] using this
theorem Fu {V:Vl} {bx ru:List Bx} {vc:List Vc} (h:ru.map (·.id)=bx.map (·.id)):br V ⟨ru,vc⟩=br V ⟨bx,vc⟩:=by
 unfold br;simp only[ac6 h]
theorem Xn {C:Ctx} {n:Nat} {st:LS} {a:Act} {w:World} {k:Nat} {K:LS->Prop} (hE:kp C n st a w) (h:AB k K st):∃ak,kp C n ak a w/\K ak:=by
 obtain⟨gN,V,D,hS⟩:=hE;unfold AB at h;obtain⟨b,hb,h⟩:=aO h;obtain⟨ck,m1,D1,⟨ho,hK⟩,hW,hd,_⟩:=ry (st:=st) b.cs _ st.m D h hS.w;have fe:=(uS hb).2;refine⟨⟨st.env,st.rho,lg st.bx k ck,st.vc,st.nid,m1⟩,⟨gN,V,D1,⟨hS.f,hS.ids,⟨⟨fun x hx=> ?_,hW.heap.vc,?_,hW.heap.uniq⟩,hW.wf,hW.frm,?_,hW.baseB,hW.baseV,⟨fun x hx=> ?_,hW.ids.2⟩,hW.le0,hW.m0,hW.mle⟩⟩⟩,hK⟩
 ·rcases BY hx with hx |⟨b0,h1,h2,rfl⟩
  ·exact hW.heap.bx x hx
  ·have e:b0=b:=by rw[h2] at hb;exact Option.some.inj hb
   subst e;obtain⟨⟨o,q1,q2⟩,q3⟩:=hW.heap.bx b0 h1;refine⟨⟨o,q1,?_⟩,q3⟩;show nD b0.ty (ck.map (bL V)) o;rw[hd];exact q2
 ·rw[Fu (BZ st.bx)];exact hW.heap.apart
 ·rw[Fu (BZ st.bx)];exact hW.own
 ·rcases BY hx with hx |⟨b0,h1,h2,rfl⟩
  ·exact hW.ids.1 x hx
  ·exact⟨(hW.ids.1 b0 h1).1,ho⟩
theorem ab8 (ei:dO cfg P) {n:Nat} {st:LS} {body:Code} {Q:Exit->LS->Prop} {X:Type} (T:(LS->Prop)->LS->Prop) (hT:∀(K:LS->Prop) (C:Ctx) (st:LS) (a:Act) (w:World),kp C n st a w->T K st->∃ak,kp C n ak a w/\K ak) (S:X->LS) (I:X->Prop) (μ:X->Nat)
  (hd:jo n body=true) (hn:∀x,I x->st.nid<=(S x).nid) (hm:∀x,I x->ae st.m (S x).m) (au:∀x,p8 (S x)) (h0:T (fun ak=>∃x,Match ak (S x)/\I x) st)
  (round:∀x,I x->ed (.mk (k:=(cfg,P,n,body,kf (T fun ak=>∃x',Match ak (S x')/\I x' /\μ x' <μ x) Q)) (S x))):kA (.mk (k:=(P,n,.loop body,Q)) st):=by
 rintro C a w ⟨gN,V,D,hS⟩;have hB:∀b∈C.H0.bx,b.id<st.nid:=fun b hb=>(hS.w.baseB b hb).2
 have hV:∀b∈C.H0.vc,b.id<st.nid:=fun b hb=>(hS.w.baseV b hb).2.1
 have DY:∀x,I x->C.m0.le (S x).m:=fun x hx=>by
  rcases hm x hx with e |h
  ·rw[<- e];exact hS.w.m0
  ·exact Mem.le_trans hS.w.m0 h
 have wJ:∀(mb:LS) (a1:Act) (w1:World) (x:X),kp C n mb a1 w1->Match mb (S x)->I x->kp C n (S x) a1 w1:=by
  rintro mb a1 w1 x ⟨_,V1,D1,hS1⟩ hM hx;exact⟨hM.2.1,V1,D1,hS1.weaken hM (au x) (fun b hb=>eP (hB b hb) (hn x hx)) (fun b hb=>eP (hV b hb) (hn x hx)) (DY x hx)⟩
 obtain⟨mb,zl,x0,xC,Hz⟩:=hT _ _ _ _ _ ⟨gN,V,D,hS⟩ h0;refine wp_loop_ghost (fun k a w=>∃x,I x/\μ x=k/\kp C n (S x) a w) (μ x0) ⟨x0,Hz,rfl,wJ _ _ _ _ zl xC Hz⟩ ?_;rintro k a1 w1 ⟨x,hx,rfl,hE⟩;refine wp_mono (rz ei hd (round x hx) C a1 w1 hE) ?_;rintro e a2 w2 ⟨cD,cA,hq⟩;cases e with
 |normal=>
  obtain⟨G3,hE3,x',hM,bP,aw⟩:=hT _ _ _ _ _ cA hq;exact⟨μ x',aw,x',bP,rfl,wJ _ _ _ _ hE3 hM bP⟩
 |exit id=>exact⟨cD,cA,hq⟩
 |goto l=>exact⟨cD,cA,hq⟩
 |ret=>exact⟨cD,cA,hq⟩
 |panic ch=>exact⟨cD,cA,hq⟩
 |outgrown=>exact⟨cD,cA,hq⟩
theorem Rb (ei:dO cfg P) {n:Nat} {st:LS} {body:Code} {Q:Exit->LS->Prop} {X:Type} (k:Nat) (S:X->LS) (I:X->Prop) (μ:X->Nat)
  (hd:jo n body=true) (hn:∀x,I x->st.nid<=(S x).nid) (hm:∀x,I x->ae st.m (S x).m) (au:∀x,p8 (S x)) (h0:AB k (fun ak=>∃x,Match ak (S x)/\I x) st)
  (round:∀x,I x->ed (.mk (k:=(cfg,P,n,body,kf (AB k fun ak=>∃x',Match ak (S x')/\I x' /\μ x' <μ x) Q)) (S x))):kA (.mk (k:=(P,n,.loop body,Q)) st):=
 ab8 ei (AB k) (fun _ _ _ _ _ hE h=>Xn hE h) S I μ hd hn hm au h0 round
end
@[reducible] def na (en:Int) (s:PSt):Bx:=⟨0,62,[.vec 1 0,.v (.int .i64 s.i),.v (.int .i64 en),.v (.bool s.fl),.v (.int .i64 s.off)]⟩
@[reducible] def kM (ts:List Tk):Vc:=⟨1,0,50,4,ts.length,cw ts⟩
attribute [go_sem] na kM
structure TsB (ts:List Tk):Prop where
 len:ts.length<=1000000
 s:∀t∈ts,t.s.length<=1000000
 n:∀t∈ts,aF t.n
theorem TsB.cs {ts:List Tk} (h:TsB ts) (i:Nat):(fE ts i).s.length<=1000000:=by
 by_cases hi:i<ts.length
 ·rw[JY hi];exact h.s _ (List.getElem_mem hi)
 ·rw[JZ (by omega)];exact aD _
theorem TsB.cn {ts:List Tk} (h:TsB ts) (i:Nat):aF (fE ts i).n:=by
 by_cases hi:i<ts.length
 ·rw[JY hi];exact h.n _ (List.getElem_mem hi)
 ·rw[JZ (by omega)];exact⟨by decide,by decide⟩
theorem TsB.l8 {ts:List Tk} (h:TsB ts):ts.length<=100000000:=cX h.len (by decide)
theorem SF {ts:List Tk} {i:Nat} (h:gp (ts.drop i)=true):i<ts.length:=by
 rcases Nat.lt_or_ge i ts.length with hi |hi
 ·exact hi
 ·rw[List.drop_eq_nil_of_le hi] at h;cases h
theorem ae9 {ts:List Tk} {i:Nat} (h:kj (ts.drop i)=true):i<ts.length:=by
 rcases Nat.lt_or_ge i ts.length with hi |hi
 ·exact hi
 ·rw[List.drop_eq_nil_of_le hi] at h;cases h
theorem TT {ts:List Tk} {i:Nat} (h:i<ts.length):(cw ts).getD (i * 4+1) undef= .string (bs (fE ts i).s):=by
 have:=congrArg (fun l=>l[1]?) (I2 h);simp only[List.getElem?_take,List.getElem?_drop] at this;rw[ah (by decide)] at this;rw[List.getD_eq_getElem?_getD,this];rfl
def GC:List Value->Option (Prop×Value)
 |[.string a,.string b]=>some (tl b=[47],.bool ((tl a).contains 47))
 |_=>none
attribute [go_sem] GC.eq_1
theorem acI:qH Tryz.prog 228 GC:=fun fy y hy hB m=>by
 unfold GC at hy;split at hy
 ·rename_i a b;cases hy;have h:=Zd (tl a) 47 m;have e:b=bs [47]:=by rw[<- kG b,hB]
  rw[e];rwa [kG] at h
 ·cases hy
abbrev cfC:Cfg:=gL (fun _=>false) [(134,ft BL fun s=> .bool (dh s)),(228,GC)]
theorem xf:dO cfC Tryz.prog:=pure_cons (by kernel_rfl) (fL fun a m h=>BC a m h) (pure_cons (by kernel_rfl) acI pure_nil)
theorem fu (ts:List Tk) (en:Int) (s:PSt) (w:List UInt8) (m:Mem) (hn:ts.length<=100000000):FnH Tryz.prog 52 [.box 0 0,.v (.string (bs w))] (pH ts en s) m fun r H' m' =>ae m m' /\r= .tup []/\H' =pH ts en (aZ ts en s w):=Xu ts en s w m hn
section
variable (ts:List Tk) (en:Int) (s:PSt) (m:Mem)
theorem HT (hT:TsB ts):FnH Tryz.prog 126 [.box 0 0] (pH ts en s) m fun r H' m' =>ae m m' /\r= .v (.bool (gp (ts.drop s.i)))/\H' =pH ts en s:=by
 have hp:=zN ts en s m hT.l8;have hb:=hT.cs s.i;rw[gp,xV,uT];refine aR xf Tryz.func126 ?_
 ·simp only[go_sem];refine ab (hp.mono ?_);clear hp;rintro r H' m1 aN ⟨rfl,rfl⟩;simp only[go_sem];exact⟨fun _=>by unfold BL;omega,.inr aN⟩
theorem HS (hT:TsB ts):FnH Tryz.prog 190 [.box 0 0] (pH ts en s) m fun r H' m' =>ae m m' /\r= .v (.bool (kj (ts.drop s.i)))/\H' =pH ts en s:=by
 have hp:=zN ts en s m hT.l8;have hb:=hT.cs s.i;rw[kj,xV,uT];refine aR xf Tryz.func190 ?_
 ·simp only[go_sem];refine ab (hp.mono ?_);clear hp;rintro r H' m1 aN ⟨rfl,rfl⟩;simp only[go_sem];exact⟨fun _=>by unfold BL;omega,.inr aN⟩
theorem px (hT:TsB ts) (hI:Inv ts s):FnH Tryz.prog 50 [.box 0 0] (pH ts en s) m fun r H' m' =>ae m m' /\∃w s',r= .v (.string (bs w))/\w.length<=1000000/\H' =pH ts en s' /\Res ts en s (fz (ts.drop s.i)) w s' :=by
 have hp:=HT ts en s m hT;have hb:=hT.cs s.i;by_cases h:gp (ts.drop s.i)=true
 ·rw[h] at hp;have hi:=SF h;have hR:Res ts en s (fz (ts.drop s.i)) (fE ts s.i).s s.next:=by
   rw[fz,ah h,uT,<- b7];exact cv hI hi (cL _ (hI.next hi))
  refine aR xf Tryz.func50 ?_
  ·simp only[go_sem];refine ab (hp.mono ?_);clear hp;rintro r H' m1 aN ⟨l1,rfl,rfl⟩;simp only[go_sem];have hl:=hT.len;have ht:=CA ts;have e:(s.i+1 - 1:Int).toNat=s.i:=by omega
   refine⟨by unfold aF;omega,?_⟩;refine bO (.hoist 0 (.hoist 1 (.hoist 2 (.hoist 3 (.hoist 4 (.hoist 5 (.hoist 6 (.hoist 7 (.hoist 8 (.hoist 9 (.hoist 10 (.hoist 11 (.hoist 12 .done))))))))))))) xf (by kernel_rfl) (by kernel_rfl) ?_;simp only[go_sem];refine⟨by unfold aF;omega,⟨by omega,by omega⟩,by omega,by omega,l1,(fE ts s.i).s,s.next,?_,hb,rfl,hR⟩;rw[e];exact TT hi
 ·have h' :gp (ts.drop s.i)=false:=by simpa using h
  rw[h'] at hp;have hf:=fun m' =>BN ts en s m' hT.l8
  have hR:Res ts en s (fz (ts.drop s.i)) [] (kF ts en s):=by
   rw[fz,af h];exact Fb _ hI
  refine aR xf Tryz.func50 ?_
  ·simp only[go_sem];refine ab (hp.mono ?_);clear hp;rintro r H' m1 aN ⟨l1,rfl,rfl⟩;simp only[go_sem];refine ab ((hf m1).mono ?_);clear hf;rintro r H' m2 aH ⟨rfl,rfl,rfl⟩;simp only[go_sem];exact⟨l1,[],_,rfl,aD _,rfl,hR⟩
theorem rC (hT:TsB ts) (hI:Inv ts s):FnH Tryz.prog 130 [.box 0 0] (pH ts en s) m fun r H' m' =>ae m m' /\∃w s',r= .v (.string (bs w))/\w.length<=1000000/\H' =pH ts en s' /\Res ts en s (da (ts.drop s.i)) w s' :=by
 have hp:=HS ts en s m hT;have hb:=hT.cs s.i;by_cases h:kj (ts.drop s.i)=true
 ·rw[h] at hp;have hi:=ae9 h;have hR:Res ts en s (da (ts.drop s.i)) (fE ts s.i).s s.next:=by
   rw[da,ah h,uT,<- b7];exact cv hI hi (cL _ (hI.next hi))
  refine aR xf Tryz.func130 ?_
  ·simp only[go_sem];refine ab (hp.mono ?_);clear hp;rintro r H' m1 aN ⟨l1,rfl,rfl⟩;simp only[go_sem];have hl:=hT.len;have ht:=CA ts;have e:(s.i+1 - 1:Int).toNat=s.i:=by omega
   refine⟨by unfold aF;omega,?_⟩;refine bO (.hoist 0 (.hoist 1 (.hoist 2 (.hoist 3 (.hoist 4 (.hoist 5 (.hoist 6 (.hoist 7 (.hoist 8 (.hoist 9 (.hoist 10 (.hoist 11 (.hoist 12 .done))))))))))))) xf (by kernel_rfl) (by kernel_rfl) ?_;simp only[go_sem];refine⟨by unfold aF;omega,⟨by omega,by omega⟩,by omega,by omega,l1,(fE ts s.i).s,s.next,?_,hb,rfl,hR⟩;rw[e];exact TT hi
 ·have h' :kj (ts.drop s.i)=false:=by simpa using h
  rw[h'] at hp;have hf:=fun m' =>BN ts en s m' hT.l8
  have hR:Res ts en s (da (ts.drop s.i)) [] (kF ts en s):=by
   rw[da,af h];exact Fb _ hI
  refine aR xf Tryz.func130 ?_
  ·simp only[go_sem];refine ab (hp.mono ?_);clear hp;rintro r H' m1 aN ⟨l1,rfl,rfl⟩;simp only[go_sem];refine ab ((hf m1).mono ?_);clear hf;rintro r H' m2 aH ⟨rfl,rfl,rfl⟩;simp only[go_sem];exact⟨l1,[],_,rfl,aD _,rfl,hR⟩
abbrev Vb (t:Ty):SV:= .agg [.v (.int .i64 t.dim),.v (.int .u8 t.base),.v (.string (bs t.name))]
theorem NZ (hT:TsB ts) (hI:Inv ts s):FnH Tryz.prog 153 [.box 0 0] (pH ts en s) m fun r H' m' =>ae m m' /\∃t s',r=Vb t/\t.dim=0/\(0<=t.base/\t.base<256)/\t.name.length<=1000000/\H' =pH ts en s' /\Res ts en s (jq (ts.drop s.i)) t s' :=by
 have ha:=uD ts en s iM m hT.l8;have hb:=fun m' =>uD ts en s iI m' hT.l8
 have hc:=fun m' =>px ts en s m' hT hI
 by_cases h1:bC ts s.i iM=true
 ·rw[h1] at ha;have hi:=bF h1;have hR:Res ts en s (jq (ts.drop s.i)) ⟨0,73,[]⟩ s.next:=by
   rw[jq,<- ax,ah h1,<- b7];exact cv hI hi (cL _ (hI.next hi))
  refine aR aB Tryz.func153 ?_
  ·simp only[go_sem];refine ab (ha.mono ?_);clear ha hb hc;rintro r H' m1 aN ⟨l1,rfl,rfl⟩;simp only[go_sem];exact⟨l1,⟨0,73,[]⟩,s.next,rfl,rfl,by decide,aD _,rfl,hR⟩
 ·have Eg:bC ts s.i iM=false:=by simpa using h1
  rw[Eg] at ha;by_cases h2:bC ts s.i iI=true
  ·have pq:=fun m' =>(hb m').mono fun r H' m2 _ h=>(⟨h.1,by have:=h.2.1;rw[h2] at this;exact this,by have:=h.2.2;rw[ah h2] at this;exact this⟩:ae m' m2/\r= .v (.bool true)/\H' =pH ts en s.next)
   clear hb;have hi:=bF h2;have hR:Res ts en s (jq (ts.drop s.i)) ⟨0,74,[]⟩ s.next:=by
    rw[jq,<- ax,af h1,<- ax,ah h2,<- b7];exact cv hI hi (cL _ (hI.next hi))
   refine aR aB Tryz.func153 ?_
   ·simp only[go_sem];refine ab (ha.mono ?_);clear ha hc;rintro r H' m1 aN ⟨l1,rfl,rfl⟩;simp only[go_sem];refine ab ((pq m1).mono ?_);clear pq;rintro r H' m2 aH ⟨l2,rfl,rfl⟩;simp only[go_sem];exact⟨aa l1 l2,⟨0,74,[]⟩,s.next,rfl,rfl,by decide,aD _,rfl,hR⟩
  ·have HF:bC ts s.i iI=false:=by simpa using h2
   have pq:=fun m' =>(hb m').mono fun r H' m2 _ h=>(⟨h.1,by have:=h.2.1;rw[HF] at this;exact this,by have:=h.2.2;rw[af h2] at this;exact this⟩:ae m' m2/\r= .v (.bool false)/\H' =pH ts en s)
   clear hb;refine aR aB Tryz.func153 ?_
   ·simp only[go_sem];refine ab (ha.mono ?_);clear ha;rintro r H' m1 aN ⟨l1,rfl,rfl⟩;simp only[go_sem];refine ab ((pq m1).mono ?_);clear pq;rintro r H' m2 aH ⟨l2,rfl,rfl⟩;simp only[go_sem];refine ab ((hc m2).mono ?_);clear hc;rintro r H' m3 bI ⟨l3,w,s',rfl,hw,rfl,hR⟩;simp only[go_sem];refine⟨aa (aa l1 l2) l3,⟨0,76,w⟩,s',rfl,rfl,(by decide:(0:Int)<=76/\(76:Int)<256),hw,rfl,?_⟩;rw[jq,<- ax,af h1,<- ax,af h2];exact aW hR (cL _ hR.inv)
theorem xK (hT:TsB ts) (hI:Inv ts s):FnH Tryz.prog 63 [.box 0 0] (pH ts en s) m fun r H' m' =>ae m m' /\∃t s',r=Vb t/\ov t/\t.name.length<=1000000/\H' =pH ts en s' /\Res ts en s (eY (ts.drop s.i)) t s' :=by
 have hb:=NZ ts en s m hT hI;refine aR aB Tryz.func63 ?_
 ·simp only[go_sem];refine ab (hb.mono ?_);clear hb;rintro r H' m1 aN ⟨l1,t1,s1,rfl,ht1,ht2,ht3,rfl,ep⟩;simp only[go_sem];refine dA aB (fun y:PSt×Ty×Mem=>⟨[⟨0,[],.box 0 0⟩,⟨2,[],.box 2 0⟩,⟨3,[],.box 5 0⟩],[],[⟨5,30,[.v (.int .i64 y.2.1.dim),.v (.int .u8 y.2.1.base),.v (.string (bs y.2.1.name))]⟩,na en y.1,⟨2,30,[.v (.int .i64 0),.v (.int .u8 0),.v (.string (bs []))]⟩],[kM ts],20,y.2.2⟩)
   (fun y=>ae m1 y.2.2/\Inv ts y.1/\y.2.1.name.length<=1000000/\(0<=y.2.1.base/\y.2.1.base<256)/\(0<=y.2.1.dim/\y.2.1.dim<=y.1.i)/\∀a s',Res ts en y.1 (AK y.2.1 (ts.drop y.1.i)) a s' ->Res ts en s (eY (ts.drop s.i)) a s')
   (fun y=>ts.length - y.1.i) (s1,t1,m1) (fun _ _=>dC rfl) (fun y hy=>hy.1) ?_ ?_ ?_
  ·simp only[go_sem]
  ·exact⟨.inl rfl,ep.inv,ht3,ht2,⟨by dsimp only;omega,by dsimp only;omega⟩,fun a s' h=>by rw[aey];exact aW ep h⟩
  ·rintro⟨s2,t2,m2⟩ ⟨q1,q2,q3,q4,q5,q6⟩;dsimp only at q1 q2 q3 q4 q5 q6;have hl:=hT.len;have dv:=q2.le;have ha:=uD ts en s2 [91] m2 hT.l8;by_cases h1:bC ts s2.i [91]=true
   ·rw[h1] at ha;have hi:=bF h1;have oC:=q2.next hi;have he:=fun m' =>fu ts en s2.next [93] m' hT.l8
    have D9:Inv ts (aZ ts en s2.next [93]):=fB oC;have hle:s2.i+1<=(aZ ts en s2.next [93]).i:=gZ oC;simp only[go_sem];refine ab (ha.mono ?_);clear ha;rintro r H' m3 bI ⟨l3,rfl,rfl⟩;simp only[go_sem];refine ab ((he m3).mono ?_);clear he;rintro r H' m4 cQ ⟨l4,rfl,rfl⟩;simp only[go_sem];refine⟨by unfold aF;omega,(aZ ts en s2.next [93],t2.up,m4),⟨⟨⟨rfl,rfl,rfl⟩,⟨rfl,rfl,rfl⟩⟩,.inl rfl⟩,⟨aa (aa q1 l3) l4,D9,q3,q4,⟨by show 0<=t2.dim+1;omega,by show t2.dim+1<=((aZ ts en s2.next [93]).i:Int);omega⟩,fun a s' h=>q6 a s' ?_⟩,by dsimp only;omega⟩;rw[QY,ah (by rw[<- ax];exact h1),<- b7];exact cv q2 hi (dZ oC h)
   ·have Eg:bC ts s2.i [91]=false:=by simpa using h1
    rw[Eg] at ha;simp only[go_sem];refine ab (ha.mono ?_);clear ha;rintro r H' m3 bI ⟨l3,rfl,rfl⟩;simp only[go_sem];refine⟨aa (aa l1 q1) l3,t2,s2,rfl,⟨by unfold aF;omega,q4,by unfold aq;omega⟩,q3,rfl,q6 _ _ ?_⟩;rw[QY,af (by rw[<- ax];exact h1)];exact cL _ q2
end
theorem Zs (n:Nat) (hn:n<=9) (m:Mem):FnH Tryz.prog 152 [.v (.int .i64 n)] ⟨[],[]⟩ m fun r H' m' =>m' =m/\r= .vec 0 0/\H' =⟨[],[⟨0,0,9,1,(qJ n).length,strs (qJ n)⟩]⟩:=by
 refine aR aB Tryz.func152 ?_
 ·simp only[go_sem];exact⟨fun h=>by obtain rfl:n=0:=(by omega);rfl,fun h0=>⟨fun h=>by obtain rfl:n=1:=(by omega);rfl,fun h1=>⟨fun h=>by obtain rfl:n=2:=(by omega);rfl,fun h2=>⟨fun h=>by obtain rfl:n=3:=(by omega);rfl,fun h3=>⟨fun h=>by obtain rfl:n=4:=(by omega);rfl,fun h4=>⟨fun h=>by obtain rfl:n=5:=(by omega);rfl,fun h5=>⟨fun h=>by obtain rfl:n=6:=(by omega);rfl,fun h6=>⟨fun h=>by obtain rfl:n=7:=(by omega);rfl,fun h7=>⟨fun h=>by obtain rfl:n=8:=(by omega);rfl,fun h8=>by obtain rfl:n=9:=(by omega);rfl⟩⟩⟩⟩⟩⟩⟩⟩⟩
theorem Ye (n:Nat) (hn:n<=9) (m:Mem):FnH Tryz.prog 152 [.v (.int .i64 n)] ⟨[],[]⟩ m fun r H' m' =>m.le m' /\∃a c,r= .v (.slice a (qJ n).length c)/\(qJ n).length<=c/\aX m' a (qJ n).length 1 (strs (qJ n))/\H' =⟨[],[]⟩:=by
 refine SN (Zs n hn m) ?_;rintro r H' m' hm ⟨rfl,rfl,rfl⟩;refine .inr ⟨id,0,0,_,⟨[],[]⟩,rfl,rfl,fun V v h=>h,List.Sublist.refl _,List.nil_sublist _,fun a c m1 h1 h2 h3=>⟨h1,a,c,rfl,h2,h3,rfl⟩⟩
section
variable (ts:List Tk) (en:Int) (s:PSt) (m:Mem)
theorem S8 {ts:List Tk} {n i:Nat} (h:iJ n (ts.drop i)=true):i<ts.length:=by
 rcases Nat.lt_or_ge i ts.length with hi |hi
 ·exact hi
 ·rw[List.drop_eq_nil_of_le hi,iJ] at h;cases h
theorem M7 (n:Nat) (hn:n<=9) (hT:TsB ts):FnH Tryz.prog 62 [.box 0 0,.v (.int .i64 n)] (pH ts en s) m fun r H' m' =>ae m m' /\
  ∃w,r= .tup [.v (.string (bs w)),.v (.bool (iJ n (ts.drop s.i)))]/\(iJ n (ts.drop s.i)=true->w=j7 (ts.drop s.i))/\H' =pH ts en (if iJ n (ts.drop s.i)=true then s.next else s):=by
 have hp:=zN ts en s m hT.l8;have hl:=fun m' =>Ye n hn m'
 refine aR aB Tryz.func62 ?_
 ·simp only[go_sem];refine ab (hp.mono ?_);clear hp;rintro r H' m1 aN ⟨rfl,rfl⟩;simp only[go_sem];refine bO (.hoist 0 (.hoist 1 (.hoist 2 (.hoist 3 (.hoist 4 (.hoist 6 (.hoist 7 (.alt 5 [7,6] (.alt 8 [] (.hoist 9 .done) .stop) .stop)))))))) aB (by kernel_rfl) (by kernel_rfl) ?_;simp only[go_sem];have hlen:(qJ n).length<=4611686018427387904:=by unfold qJ;repeat (first |(split;decide) |split |decide)
  refine⟨fun hk=>ab ((hl m1).mono ?_),fun hk=> ?_⟩
  ·clear hl;rintro r H' m2 aH ⟨_,a,c,rfl,ba,bW,rfl⟩;have hc:=zy (qJ n) (fE ts s.i).s a _ c m2 bW hlen;simp only[go_sem];refine⟨⟨.inr aH,.inr aH⟩,by kernel_rfl,bo (hc.mono ?_)⟩;clear hc;rintro r H' m3 bI ⟨rfl,rfl⟩;simp only[go_sem];have Bf:ae m m3:= .inr (Mem.le_trans aN (Mem.le_trans aH bI));refine⟨fun h=> ?_,fun h=> ?_⟩
   ·have hf:iJ n (ts.drop s.i)=true:=by rw[iJ,xV,uT,hk,h];rfl
    have hi:=S8 hf;have hl:=hT.len;rw[hf];exact⟨by unfold aF;omega,Bf,_,rfl,fun _=>(uT ts s.i).symm,rfl⟩
   ·have hf:iJ n (ts.drop s.i)=false:=by rw[iJ,uT,h,Bool.and_false]
    rw[hf];exact⟨Bf,[],rfl,fun h=>(by cases h),rfl⟩
  ·have hf:iJ n (ts.drop s.i)=false:=by rw[iJ,xV];simp [hk]
   rw[hf];exact⟨.inr aN,[],rfl,fun h=>(by cases h),rfl⟩
end
abbrev Nd.svs (x:Nd):List SV:=[.v (.int .i64 x.k),.v (.int .i64 x.n),.v (.string (bs x.s)),.v (.string (bs x.c)),.v (.int .i64 x.ty.dim),.v (.int .u8 x.ty.base),.v (.string (bs x.ty.name)),.v (.slice x.a x.l x.cp)]
abbrev gX (ts:List Tk) (en:Int) (s:PSt) (K:PR Ex) (m:Mem):SV->Hp->Mem->Prop:=fun r H' m' =>ae m m' /\∃(x:Nd) (e:Ex) (s' :PSt),r= .agg x.svs/\bw m' e x.cs/\H' =pH ts en s' /\Res ts en s K e s'
abbrev alW (ts:List Tk) (en:Int) (s:PSt) (K:PR (List Ex)) (m:Mem):SV->Hp->Mem->Prop:=fun r H' m' =>ae m m' /\∃(es:List Ex) (a:Option Addr) (c:Nat) (xs:List Value) (s' :PSt),r= .v (.slice a es.length c)/\es.length<=c/\es.length<=1000001/\aX m' a es.length 8 xs/\dz m' es xs/\H' =pH ts en s' /\Res ts en s K es s'
theorem byE:oD Tryz.prog 33=104:=by kernel_rfl
theorem byS:oD Tryz.prog 73=312:=by kernel_rfl
attribute [go_sem] byE byS
theorem j9 {n b:Nat} (hn:n<=2000002) (hb:b<=1000):room n b:=by
 have:n * b<=2000002 * 1000:=Nat.mul_le_mul hn hb;exact⟨by omega,by unfold maxLen;omega⟩
theorem fI (m:Mem) (z:Nat):aX m none 0 z []:=⟨by simp,fun h=>absurd h (by decide)⟩
theorem lC {m:Mem} {k n:Int} {s c:List UInt8} {ty:Ty} {es:List Ex} {a:Option Addr} {cp:Nat} {xs:List Value} (hk:aF k) (hn:aF n) (hs:s.length<=1000000) (hc:c.length<=1000000) (ht:ov ty)
  (hl:es.length<=1000002) (ba:es.length<=cp) (hr:aX m a es.length 8 xs) (he:dz m es xs):bw m (.mk k n s c ty es) (Nd.cs ⟨k,n,s,c,ty,a,es.length,cp⟩):=by
 simp only[bw];exact⟨a,cp,xs,rfl,ba,hr,⟨hk,hn,by unfold aq;omega,by unfold aq;omega,ht,by unfold aq;omega⟩,he⟩
theorem uR {m:Mem} {k n:Int} {s c:List UInt8} {ty:Ty} (hk:aF k) (hn:aF n) (hs:s.length<=1000000) (hc:c.length<=1000000) (ht:ov ty):bw m (.mk k n s c ty []) (Nd.cs ⟨k,n,s,c,ty,none,0,0⟩):=
 lC (es:=[]) hk hn hs hc ht (aD _) (av _) (fI m 8) (by simp only[dz])
theorem gn:ov ai:=⟨⟨by decide,by decide⟩,by decide,by decide⟩
theorem qL {m:Mem} {e:Ex} {x:Nd} (h:bw m e x.cs):dz m [e] x.cs:=by
 simp only[dz,and_true];exact h
theorem UY {m:Mem} {e e2:Ex} {x y:Nd} (h:bw m e x.cs) (h2:bw m e2 y.cs):dz m [e,e2] (x.cs++y.cs):=by
 simp only[dz,and_true];exact⟨h,h2⟩
theorem QS {m:Mem} {e:Ex} {x:Nd} (hx:bw m e x.cs):∀{es:List Ex} {xs:List Value},xs.length=es.length * 8->dz m es xs->dz m (es++[e]) (xs++x.cs)
 |[],xs,hl,_=>by
  have:xs=[]:=List.eq_nil_of_length_eq_zero (by simpa using hl);subst this;exact qL hx
 |y::r,xs,hl,h=>by
  simp only[dz,dW] at h ⊢;simp only[aL] at hl;have h8:8<=xs.length:=by omega
  rw[List.take_append_of_le_length h8,List.drop_append_of_le_length h8];exact⟨h.1,QS hx (by rw[dG];omega) h.2⟩
theorem Cr {m m' :Mem} {es:List Ex} {xs:List Value} (hle:ae m m') (h:dz m es xs):dz m' es xs:=by
 rcases hle with rfl |hle
 ·exact h
 ·exact EY hle es xs h
theorem afI {m:Mem} {e:Ex} {cs:List Value} (h:bw m e cs):∀u∈cs,u.oneCell' =true:=by
 obtain⟨x,rfl⟩:=mC h;intro u hu;simp only[Nd.cs,List.mem_cons,List.not_mem_nil,or_false] at hu;rcases hu with rfl |rfl |rfl |rfl |rfl |rfl |rfl |rfl<;>rfl
theorem Ju {m:Mem}:∀{es:List Ex} {xs:List Value},xs.length=es.length * 8->dz m es xs->∀u∈xs,u.oneCell' =true
 |[],xs,hl,_=>by
  have:xs=[]:=List.eq_nil_of_length_eq_zero (by simpa using hl);subst this;intro u hu;cases hu
 |y::r,xs,hl,h=>by
  simp only[dz] at h;simp only[aL] at hl;intro u hu;rw[<- List.take_append_drop 8 xs] at hu;rcases List.mem_append.1 hu with hu |hu
  ·exact afI h.1 u hu
  ·exact Ju (by rw[dG];omega) h.2 u hu
theorem Pj {m:Mem} {e:Ex} {x:Nd} {es:List Ex} {xs:List Value} (hx:bw m e x.cs) (h:dz m es xs):dz m (e::es) (x.cs++xs):=by
 simp only[dz];exact⟨hx,h⟩
def oZ (ts:List Tk) (en:Int) (n:Nat) (s:PSt):Prop:=∀m:Mem,FnH Tryz.prog 31 [.box 0 0,.v (.int .i64 n)] (pH ts en s) m (gX ts en s (dQ n (ts.drop s.i)) m)
def wI (ts:List Tk) (en:Int) (s:PSt):Prop:=∀m:Mem,FnH Tryz.prog 167 [.box 0 0] (pH ts en s) m (alW ts en s (oY (ts.drop s.i)) m)
def Ga (ts:List Tk) (en:Int) (s:PSt):Prop:=∀m:Mem,FnH Tryz.prog 166 [.box 0 0] (pH ts en s) m (gX ts en s (oL (ts.drop s.i)) m)
def Bm (ts:List Tk) (en:Int) (s:PSt):Prop:=∀m:Mem,FnH Tryz.prog 61 [.box 0 0] (pH ts en s) m (gX ts en s (Am (ts.drop s.i)) m)
section
variable {ts:List Tk} {en:Int} {s:PSt}
theorem Qb (hT:TsB ts) (hI:Inv ts s) (hE:oZ ts en 0 (aZ ts en s [40])):Ga ts en s:=fun m=>by
 have h1:=fu ts en s [40] m hT.l8;have Ed:∀m' :Mem,FnH Tryz.prog 31 [.box 0 0,.v (.int .i64 0)] (pH ts en (aZ ts en s [40])) m' (gX ts en (aZ ts en s [40]) (dQ 0 (ts.drop (aZ ts en s [40]).i)) m'):=hE;rw[Zf];refine aR aB Tryz.func166 ?_
 ·simp only[go_sem];refine ab (h1.mono ?_);clear h1;rintro r H' m1 aN ⟨l1,rfl,rfl⟩;simp only[go_sem];refine ab ((Ed m1).mono ?_);clear Ed;rintro r H' m2 aH ⟨l2,x,e,s2,rfl,hx,rfl,hR⟩;have h3:=fu ts en s2 [41] m2 hT.l8;simp only[go_sem];refine ab (h3.mono ?_);clear h3;rintro r H' m3 bI ⟨l3,rfl,rfl⟩;simp only[go_sem];exact⟨aa (aa l1 l2) l3,x,e,_,rfl,bq l3 hx,rfl,dZ hI (aW hR (dZ hR.inv (cL _ (fB hR.inv))))⟩
theorem aef (hT:TsB ts) (hI:Inv ts s) (hE:∀s1,Inv ts s1->s.i<=s1.i->oZ ts en 0 s1):wI ts en s:=fun m=>by
 have h1:=fu ts en s [40] m hT.l8;have uw:Inv ts (aZ ts en s [40]):=fB hI;have lW:s.i<=(aZ ts en s [40]).i:=gZ hI;by_cases hc:bC ts (aZ ts en s [40]).i [41]=true
 ·have h2:=fun m' =>(uD ts en (aZ ts en s [40]) [41] m' hT.l8).mono fun r H' m2 _ h=>(⟨h.1,by have:=h.2.1;rw[hc] at this;exact this,by have:=h.2.2;rw[ah hc] at this;exact this⟩:ae m' m2/\r= .v (.bool true)/\H' =pH ts en (aZ ts en s [40]).next)
  have hi:=bF hc;have hR:Res ts en s (oY (ts.drop s.i)) [] (aZ ts en s [40]).next:=by
   rw[Q9];refine dZ hI ?_;rw[<- ax,ah hc,<- b7];exact cv uw hi (cL _ (uw.next hi))
  refine aR aB Tryz.func167 ?_
  ·simp only[go_sem];refine ab (h1.mono ?_);clear h1;rintro r H' m1 aN ⟨l1,rfl,rfl⟩;simp only[go_sem];refine ab ((h2 m1).mono ?_);clear h2 hE;rintro r H' m2 aH ⟨l2,rfl,rfl⟩;simp only[go_sem];exact⟨aa l1 l2,[],none,0,[],_,rfl,av _,aD _,fI _ _,by simp only[dz],rfl,hR⟩
 ·have Hs:bC ts (aZ ts en s [40]).i [41]=false:=by simpa using hc
  have h2:=fun m' =>(uD ts en (aZ ts en s [40]) [41] m' hT.l8).mono fun r H' m2 _ h=>(⟨h.1,by have:=h.2.1;rw[Hs] at this;exact this,by have:=h.2.2;rw[af hc] at this;exact this⟩:ae m' m2/\r= .v (.bool false)/\H' =pH ts en (aZ ts en s [40]))
  have Ed:∀m' :Mem,FnH Tryz.prog 31 [.box 0 0,.v (.int .i64 0)] (pH ts en (aZ ts en s [40])) m' (gX ts en (aZ ts en s [40]) (dQ 0 (ts.drop (aZ ts en s [40]).i)) m'):=hE _ uw lW;refine pF (aR aB Tryz.func167 ?_)
  ·simp only[go_sem];refine ab (h1.mono ?_);clear h1;rintro r H' m1 aN ⟨l1,rfl,rfl⟩;simp only[go_sem];refine ab ((h2 m1).mono ?_);clear h2;rintro r H' m2 aH ⟨l2,rfl,rfl⟩;simp only[go_sem];refine ab ((Ed m2).mono ?_);clear Ed;rintro r H' m3 bI ⟨l3,x,e,s3,rfl,hx,rfl,hR3⟩;simp only[go_sem];have lH:s.i<=s3.i:=cX lW hR3.mono;refine⟨j9 (by decide) (by decide),?_⟩;refine dA aB (fun y:PSt×List Ex×List Value×Nat×Mem=>⟨[⟨0,[],.box 0 0⟩,⟨3,[],.vec 9 y.2.2.2.1⟩],[],[na en y.1],[⟨9,y.2.2.2.1,33,8,y.2.1.length,y.2.2.1⟩,kM ts],20,y.2.2.2.2⟩)
    (fun y=>ae m3 y.2.2.2.2/\Inv ts y.1/\s.i<=y.1.i/\y.2.1.length<=y.1.i+1/\y.2.2.1.length=y.2.1.length * 8/\dz y.2.2.2.2 y.2.1 y.2.2.1/\∀a s',Res ts en y.1 (C1 y.2.1 (ts.drop y.1.i)) a s' ->Res ts en s (oY (ts.drop s.i)) a s')
    (fun y=>ts.length - y.1.i) (s3,[e],x.cs,0,m3) (fun _ _=>dC rfl) (fun y hy=>hy.1) ?_ ?_ ?_
   ·simp only[go_sem];exact rfl
   ·exact⟨.inl rfl,hR3.inv,lH,by simp,by simp [Nd.cs],qL hx,fun a s' h=>by
     rw[Q9];refine dZ hI ?_;rw[<- ax,af hc]
     exact aW hR3 h⟩
   ·rintro⟨s4,es,xs,u,m4⟩ ⟨q1,q2,q3,q4,q5,q6,q7⟩;dsimp only at q1 q2 q3 q4 q5 q6 q7;have hl:=hT.len;have dv:=q2.le;have ha:=uD ts en s4 [44] m4 hT.l8;by_cases h1:bC ts s4.i [44]=true
    ·rw[h1] at ha;have hi:=bF h1;have gj:=q2.next hi;have zl:∀m' :Mem,FnH Tryz.prog 31 [.box 0 0,.v (.int .i64 0)] (pH ts en s4.next) m' (gX ts en s4.next (dQ 0 (ts.drop s4.next.i)) m'):=hE s4.next gj (Nat.le_succ_of_le q3);clear hE;simp only[go_sem];refine ab (ha.mono ?_);clear ha;rintro r H' m5 cK ⟨l5,rfl,rfl⟩;simp only[go_sem];refine ab ((zl m5).mono ?_);clear zl;rintro r H' m6 ej ⟨l6,x6,e6,s6,rfl,hx6,rfl,hR6⟩;simp only[go_sem];have hm:=hR6.mono;have sR:s4.next.i=s4.i+1:=rfl;refine⟨j9 (by omega) (by decide),(s6,es++[e6],xs++x6.cs,u+1,m6),⟨rfl,⟨rfl,rfl,rfl⟩,⟨rfl,by simp,rfl⟩,.inl rfl⟩,⟨aa q1 (aa l5 l6),hR6.inv,by dsimp only;omega,by simp only[aI,iq];omega,by simp only[aI,iq,q5,Nd.cs,aL,bg];omega,QS hx6 q5 (Cr (aa l5 l6) q6),fun a s' h=>q7 a s' ?_⟩,by dsimp only;omega⟩;rw[Qt,ah (by rw[<- ax];exact h1),<- b7];exact cv q2 hi (aW hR6 h)
    ·have Eg:bC ts s4.i [44]=false:=by simpa using h1
     rw[Eg] at ha;have he:=fun m' =>fu ts en s4 [41] m' hT.l8
     clear hE;simp only[go_sem];refine ab (ha.mono ?_);clear ha;rintro r H' m5 cK ⟨l5,rfl,rfl⟩;simp only[go_sem];refine ab ((he m5).mono ?_);clear he;rintro r H' m6 ej ⟨l6,rfl,rfl⟩;simp only[go_sem];refine Cj (b:=⟨9,u,33,8,es.length,xs⟩) (by simp [eV]) (pH ts en (aZ ts en s4 [41])) (List.Sublist.refl _) (.cons_cons _ (List.nil_sublist _)) fun a c mm w1 w2 w3=>⟨aa (aa (aa (aa l1 l2) l3) q1) (aa (aa l5 l6) (.inr w1)),es,a,c,xs,_,rfl,w2,by omega,w3,Cr (aa (aa l5 l6) (.inr w1)) q6,rfl,q7 _ _ ?_⟩
     rw[Qt,af (by rw[<- ax];exact h1)];exact dZ q2 (cL _ (fB q2))
end
end Go.Proofs.YtimddhkipjedcaaGreatDoor.E

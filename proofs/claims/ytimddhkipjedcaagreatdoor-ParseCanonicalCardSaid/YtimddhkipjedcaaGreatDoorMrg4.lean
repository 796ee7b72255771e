/- Several texts in one: AstN, AstO, AstP, AstQ, AstR, AstDa, AstS, AstT, AstU, AstUa, AstW, AstWa, AstWb, AstWc, AstX, AstXa, AstXb, AstXc, AstXd, AstXe, AstY, AstZ, AstCardE, AstSa, AstSc, AstCardQ, AstSd, AstCardP, AstXf. -/
import Derived.WideKeyRuns
import Derived.Test.YtimddhkipjedcaaGreatDoorMrg3
set_option linter.unusedSimpArgs false
set_option linter.unusedVariables false
set_option maxHeartbeats 4000000
set_option maxRecDepth 20000
namespace Go.Proofs.YtimddhkipjedcaaGreatDoor.E
open Go
theorem ME:∀{x1 x2 ys:List Value} {b:Bool},ig ((x1++x2).map .v) (ys.map .v)=some b->∃b1 b2,ig (x1.map .v) ((ys.take x1.length).map .v)=some b1/\ig (x2.map .v) ((ys.drop x1.length).map .v)=some b2/\b=(b1&&b2)/\x1.length<=ys.length
 |[],x2,ys,b,h=>⟨true,b,by simp [ig],by simpa using h,by simp,aG _⟩
 |x::x1,x2,ys,b,h=>by
  obtain⟨y,r,e,e',rfl,h1,h2,rfl⟩:=HR (xs:=x1++x2) h;obtain⟨b1,b2,g1,g2,rfl,g4⟩:=ME h2;refine⟨e&&b1,b2,?_,g2,by rw[Bool.and_assoc],by simp only[aL];omega⟩;simp only[bN,aL,List.take_succ_cons,ig,h1,g1,Option.bind_some,Option.map_some]
theorem NC:∀{n:Nat} {zs:List SV} {us:List Value},jr zs (us.map .v)=true->jr (zs.take n) ((us.take n).map .v)=true/\jr (zs.drop n) ((us.drop n).map .v)=true/\us.length=zs.length
 |0,zs,us,h=>⟨by simp [jr],by simpa using h,by
  induction zs generalizing us with
  |nil=>rw[EG h];rfl
  |cons z zs ih=>obtain⟨x,r,rfl,_,h2⟩:=Ej h;simp [ih _ h2]⟩
 |n+1,[],us,h=>by rw[EG h];simp [jr]
 |n+1,z::zs,us,h=>by
  obtain⟨x,r,rfl,h1,h2⟩:=Ej h;obtain⟨g1,g2,g3⟩:=NC (n:=n) h2;refine⟨?_,g2,by simp [g3]⟩;simp only[List.take_succ_cons,bN,jr,h1,g1,Bool.and_self]
def Ad (P:Program) (N:TypeId) (sz:Nat):Nat->List SV->List Field->Bool
  |_,zs,[]=>zs.isEmpty
  |off,zs,f::fs=>f.name != "_" &&decide (f.offset=off)&&
      (if f.type=N then decide (0<sz/\sz<=zs.length)&&CV P 0 (zs.take sz) (P.fieldsOf N).toList&&Ad P N sz (off+sz) (zs.drop sz) fs
       else decide (eR P f.type=some none)&&(match zs with |z::r=>kindOk P f.type z&&Ad P N sz (off+1) r fs |[]=>false))
theorem H3 {P:Program} {N:TypeId} {sz d:Nat} {w:World} {cs ds:List Value} (hN:eR P N=some (some sz)) (hu:P.underlying N=some (.struct (P.fieldsOf N))) (hp:P.stoodInHeld N=false):∀{fs:List Field} {zs:List SV} {off:Nat} {us vs:List Value} {b:Bool},
  Ad P N sz off zs fs=true->jr zs (us.map .v)=true->ig (us.map .v) (vs.map .v)=some b->cs.drop off=us->ds.drop off=vs->(Op.eqFields (d+2) ⟨cs⟩ ⟨ds⟩ fs).run P w= .ok b w
 |[],zs,off,us,vs,b,h,hf,he,_,_=>by
  have:zs=[]:=by simpa [Ad] using h
  subst this;cases EG hf;rw[List.map_nil] at he;obtain⟨_,rfl⟩:=OP he;rfl
 |f::fs,zs,off,us,vs,b,h,hf,he,hus,gu=>by
  simp only[Ad,aD,bt,bne_iff_ne] at h;obtain⟨⟨h1,h2⟩,h3⟩:=h;subst h2;by_cases hT:f.type=N
  ·rw[ah hT] at h3;simp only[aD,bt] at h3;obtain⟨⟨k1,k2⟩,k3⟩:=h3;obtain⟨g1,g2,g3⟩:=NC (n:=sz) hf;have ajO:us=us.take sz++us.drop sz:=(List.take_append_drop sz us).symm;rw[ajO] at he;obtain⟨b1,b2,c1,c2,rfl,c4⟩:=ME he;have hlen:(us.take sz).length=sz:=by rw[List.length_take];omega
   rw[hlen] at c1 c2 c4;have cH:f.offset+sz<=cs.length:=by have:=congrArg List.length hus;rw[dI] at this;omega
   have wS:f.offset+sz<=ds.length:=by have:=congrArg List.length gu;rw[dI] at this;omega
   have p1:(part f.type ⟨cs⟩ f.offset).run P w= .ok (.agg ⟨us.take sz⟩) w:=by rw[hT];exact xf hN ⟨by rw[hus],cH⟩
   have p2:(part f.type ⟨ds⟩ f.offset).run P w= .ok (.agg ⟨vs.take sz⟩) w:=by rw[hT];exact xf hN ⟨by rw[gu],wS⟩
   have p3:(Op.equalIn (d+2) f.type (.agg ⟨us.take sz⟩) (.agg ⟨vs.take sz⟩)).run P w= .ok b1 w:=by
    rw[hT,run_equalIn_struct w (d+1) N _ _ hu hp];exact IC (d:=d) k2 g1 c1 rfl rfl
   simp only[Op.eqFields,ah h1,Sem.run_bind,p1,p2,Result.andThen_ok,p3];cases b1 with
   |false=>simp
   |true=>
    simp only[Bool.not_true,Bool.false_eq_true,if_false,Bool.true_and];exact H3 hN hu hp k3 g2 c2 (by rw[<- List.drop_drop,hus]) (by rw[<- List.drop_drop,gu])
  ·rw[af hT] at h3;simp only[aD,bt] at h3;obtain⟨k1,k2⟩:=h3;cases zs with
   |nil=>cases k2
   |cons z zs=>
    simp only[aD] at k2;obtain⟨x,Lb,rfl,g1,g2⟩:=Ej hf;obtain⟨y,K0,e,e',rfl,g3,g4,rfl⟩:=HR he;have hx:cs[f.offset]? =some x:=by
     have:=congrArg (fun l:List Value=>l[0]?) hus;simpa using this
    have hy:ds[f.offset]? =some y:=by
     have:=congrArg (fun l:List Value=>l[0]?) gu;simpa using this
    have Di:cs.drop (f.offset+1)=Lb:=by
     have:=congrArg (List.drop 1) hus;rw[List.drop_drop] at this;simpa [Nat.add_comm] using this
    have Lt:ds.drop (f.offset+1)=K0:=by
     have:=congrArg (List.drop 1) gu;rw[List.drop_drop] at this;simpa [Nat.add_comm] using this
    simp only[Op.eqFields,ah h1,Sem.run_bind,xf k1 (show _ from hx),xf k1 (show _ from hy),Result.andThen_ok,Nk (d+1) k2.1 g1 g3];cases e with
    |false=>simp
    |true=>
     simp only[Bool.not_true,Bool.false_eq_true,if_false,Bool.true_and];exact H3 hN hu hp k2.2 g2 g4 Di Lt
theorem Qj {P:Program} {t N:TypeId} {sz:Nat} {zs:List SV} {fs:List Field} (hN:eR P N=some (some sz)) (huN:P.underlying N=some (.struct (P.fieldsOf N))) (hpN:P.stoodInHeld N=false) (hz:fB P t=some zs) (hg:P.eqGuardType P.depth t=false)
  (hu:P.underlying t=some (.struct (P.fieldsOf t))) (hp:P.stoodInHeld t=false) (pU:(P.fieldsOf t).toList=fs) (h:Ad P N sz 0 zs fs=true):vb P t:=by
 intro xs ys b w o o' op he hf;rw[hz] at hf;refine⟨run_eqGuard_agg w op t o o' _ _ hg,?_⟩;show(Op.equalIn (9999+1) t _ _).run _ w=_;rw[run_equalIn_struct w 9999 t _ _ hu hp,pU];exact H3 (d:=9997) hN huN hpN h hf he rfl rfl
theorem ag0:vb Tryz.prog 160:=Qj (N:=30) KX (by kernel_rfl) (by kernel_rfl) R2 (by kernel_rfl) (by kernel_rfl) (by kernel_rfl) rfl (by kernel_rfl)
theorem ag1:vb Tryz.prog 94:=Qj (N:=30) KX (by kernel_rfl) (by kernel_rfl) R3 (by kernel_rfl) (by kernel_rfl) (by kernel_rfl) rfl (by kernel_rfl)
def Ty.eq (x y:Ty):Bool:=decide (x.dim=y.dim)&&(decide (x.base=y.base)&&decide (x.name=y.name))
def Pc.eq (x y:Pc):Bool:=decide (x.ty.dim=y.ty.dim)&&(decide (x.ty.base=y.ty.base)&&(decide (x.ty.name=y.ty.name)&&decide (x.name=y.name)))
def Fc.eq (x y:Fc):Bool:=decide (x.fl=y.fl)&&(decide (x.ty.dim=y.ty.dim)&&(decide (x.ty.base=y.ty.base)&&(decide (x.ty.name=y.ty.name)&&decide (x.name=y.name))))
structure Md where
 fl:Int
 res:Ty
 name:List UInt8
 params:List Pc
 hb:Bool
 body:List St
structure Cd where
 fl:Int
 name:List UInt8
 super:List UInt8
 ifs:List (List UInt8)
 fields:List Fc
 methods:List Md
 init:List St
def jK {α:Type} (e:α->α->Bool):List α->List α->Bool
 |[],[]=>true
 |a::r,b::t=>e a b&&jK e r t
 |_,_=>false
def fz {α:Type} (e:α->α->Bool) (l l2:List α) (i:Nat):Bool:=match l[i]?,l2[i]? with |some a,some b=>e a b |_,_=>false
theorem Y0 {n:Nat} {B:Nat->Bool}:gp (n+1) B=(B 0&&gp n fun i=>B (i+1)):=by
 simp only[gp,List.range_succ_eq_map,List.all_cons,List.all_map];rfl
theorem qW {α:Type} (e:α->α->Bool):∀(l l2:List α),jK e l l2=(decide (l.length=l2.length)&&gp l.length (fz e l l2))
 |[],[]=>rfl
 |[],b::t=>by simp [jK]
 |a::r,[]=>by simp [jK]
 |a::r,b::t=>by
  rw[jK,qW e r t,aL,aL,Y0];have e1:decide (r.length+1=t.length+1)=decide (r.length=t.length):=by rw[decide_eq_decide];omega
  have e2:fz e (a::r) (b::t) 0=e a b:=rfl;have e3:(fun i=>fz e (a::r) (b::t) (i+1))=fz e r t:=by funext i;simp only[fz,List.getElem?_cons_succ]
  rw[e1,e2,e3];cases e a b<;>cases decide (r.length=t.length)<;>rfl
theorem zR {α:Type} {e:α->α->Bool} {l l2:List α} {i:Nat} (h:i<l.length) (h2:i<l2.length):fz e l l2 i=e l[i] l2[i]:=by
 simp only[fz,List.getElem?_eq_getElem h,List.getElem?_eq_getElem h2]
mutual
def iA:Ex->Ex->Bool
 | .mk k n s c ty args,.mk k' n' s' c' dQ jT=>decide (k=k')&&decide (n=n')&&decide (s=s')&&decide (c=c')&&Ty.eq ty dQ&&ly args jT
def ly:List Ex->List Ex->Bool
 |[],[]=>true
 |a::r,b::t=>iA a b&&ly r t
 |[],_::_=>false
 |_::_,[]=>false
end
theorem Im:∀(l l2:List Ex),ly l l2=jK iA l l2
 |[],[]=>by simp only[ly,jK]
 |a::r,b::t=>by simp only[ly,jK,Im r t]
 |[],_::_=>by simp only[ly,jK]
 |_::_,[]=>by simp only[ly,jK]
mutual
def dh:St->St->Bool
 | .mk k nm ty tg ex body alt,.mk k' fP dQ yk yF pF yh=>decide (k=k')&&decide (nm=fP)&&Ty.eq ty dQ&&iA tg yk&&iA ex yF&&gn body pF&&gn alt yh
def gn:List St->List St->Bool
 |[],[]=>true
 |a::r,b::t=>dh a b&&gn r t
 |[],_::_=>false
 |_::_,[]=>false
end
theorem Em:∀(l l2:List St),gn l l2=jK dh l l2
 |[],[]=>by simp only[gn,jK]
 |a::r,b::t=>by simp only[gn,jK,Em r t]
 |[],_::_=>by simp only[gn,jK]
 |_::_,[]=>by simp only[gn,jK]
def qP (x y:Md):Bool:=decide (x.fl=y.fl)&&Ty.eq x.res y.res&&decide (x.name=y.name)&&(x.hb==y.hb)&&jK Pc.eq x.params y.params&&gn x.body y.body
def qQ (x y:Cd):Bool:=decide (x.fl=y.fl)&&decide (x.name=y.name)&&decide (x.super=y.super)&&decide (x.ifs=y.ifs)&&jK Fc.eq x.fields y.fields&&jK qP x.methods y.methods&&gn x.init y.init
/-! In memory. -/
structure StOk (k:Int) (nm:List UInt8) (ty:Ty) (l l2:Nat):Prop where
 k:aF k
 nm:nm.length<=av
 ty:nY ty
 l:l<=av
 l2:l2<=av
mutual
def fK (m:Mem):St->List Value->Prop
 | .mk k nm ty tg ex body alt,cs=>∃x:Sd,(cs=x.cs/\x.k=k/\x.name=nm/\x.ty=ty)/\bJ m tg x.tg.cs/\bJ m ex x.ex.cs/\(x.l=body.length/\x.l<=x.cp/\x.l2=alt.length/\x.l2<=x.cp2)/\StOk k nm ty body.length alt.length/\
   ∃xs ys,aZ m x.a x.l 23 xs/\aZ m x.b x.l2 23 ys/\bZ m body xs/\bZ m alt ys
def bZ (m:Mem):List St->List Value->Prop
 |[],_=>True
 |e::r,xs=>fK m e (xs.take 23)/\bZ m r (xs.drop 23)
end
theorem qc {m:Mem}:∀{l:List St} {xs:List Value} {i:Nat} (_:bZ m l xs) (hi:i<l.length),fK m l[i] ((xs.drop (i * 23)).take 23)
 |[],_,_,_,hi=>absurd hi (Nat.not_lt_zero _)
 |e::r,xs,0,h,_=>by simp only[bZ] at h;simpa using h.1
 |e::r,xs,i+1,h,hi=>by
  simp only[bZ] at h;have:=qc (i:=i) h.2 (by simpa using hi);rw[List.drop_drop] at this;rw[show(i+1) * 23=23+i * 23 by omega];exact this
mutual
theorem O6 {m m' :Mem} (hle:m.le m'):∀(e:St) (cs:List Value),fK m e cs->fK m' e cs
 | .mk k nm ty tg ex body alt,cs,h=>by
  simp only[fK] at h ⊢;obtain⟨x,h1,h2,h3,h4,h5,xs,ys,h6,h7,h8,h9⟩:=h;exact⟨x,h1,EI hle _ _ h2,EI hle _ _ h3,h4,h5,xs,ys,zS hle h6,zS hle h7,Ba hle body xs h8,Ba hle alt ys h9⟩
theorem Ba {m m' :Mem} (hle:m.le m'):∀(l:List St) (xs:List Value),bZ m l xs->bZ m' l xs
 |[],_,_=>by simp only[bZ]
 |e::r,xs,h=>by
  simp only[bZ] at h ⊢;exact⟨O6 hle e _ h.1,Ba hle r _ h.2⟩
end
theorem dp {m m' :Mem} {l:List St} {cs:List Value} (hle:ae m m') (h:bZ m l cs):bZ m' l cs:=by
 rcases hle with rfl |hle
 ·exact h
 ·exact Ba hle l cs h
theorem sL {m m' :Mem} {l:St} {cs:List Value} (hle:ae m m') (h:fK m l cs):fK m' l cs:=by
 rcases hle with rfl |hle
 ·exact h
 ·exact O6 hle l cs h
theorem Ez {m:Mem} {e:St} {cs:List Value} (h:fK m e cs):∃x:Sd,cs=x.cs:=by
 cases e with
 |mk k nm ty tg ex body alt=>
  simp only[fK] at h;obtain⟨x,h1,_⟩:=h;exact⟨x,h1.1⟩
def nJ {α:Type} (R:α->List Value->Prop) (sz:Nat):List α->List Value->Prop
 |[],_=>True
 |e::r,xs=>R e (xs.take sz)/\nJ R sz r (xs.drop sz)
theorem nI {α:Type} {R:α->List Value->Prop} {sz:Nat}:∀{l:List α} {xs:List Value} {i:Nat} (_:nJ R sz l xs) (hi:i<l.length),R l[i] ((xs.drop (i * sz)).take sz)
 |[],_,_,_,hi=>absurd hi (Nat.not_lt_zero _)
 |e::r,xs,0,h,_=>by simpa using h.1
 |e::r,xs,i+1,h,hi=>by
  have:=nI (i:=i) h.2 (by simpa using hi);rw[List.drop_drop] at this;rw[show(i+1) * sz=sz+i * sz by rw[Nat.succ_mul,Nat.add_comm]];exact this
theorem vX {α:Type} {R R' :α->List Value->Prop} {sz:Nat} (h:∀a cs,R a cs->R' a cs):∀{l:List α} {xs:List Value},nJ R sz l xs->nJ R' sz l xs
 |[],_,_=>trivial
 |_::_,_,hl=>⟨h _ _ hl.1,vX h hl.2⟩
def flat {α:Type} (f:α->List Value) (l:List α):List Value:=(l.map f).flatten
theorem pd {α:Type} {f:α->List Value} {sz:Nat} (hf:∀x,(f x).length=sz):∀{l:List α} {i:Nat} (hi:i<l.length),((flat f l).drop (i * sz)).take sz=f l[i]
 |[],_,hi=>absurd hi (Nat.not_lt_zero _)
 |x::r,0,_=>by
  simp only[flat,bN,List.flatten_cons,Nat.zero_mul,List.drop_zero,List.getElem_cons_zero];rw[<- hf x,List.take_left]
 |x::r,i+1,hi=>by
  have:=pd hf (l:=r) (i:=i) (by simpa using hi);simp only[List.getElem_cons_succ];rw[<- this,Nat.succ_mul,Nat.add_comm,<- List.drop_drop];congr 2
  simp only[flat,bN,List.flatten_cons];rw[<- hf x,List.drop_left]
structure PcOk (p:Pc):Prop where
 ty:nY p.ty
 name:p.name.length<=av
structure FcOk (p:Fc):Prop where
 fl:aF p.fl
 ty:nY p.ty
 name:p.name.length<=av
structure MdOk (d:Md):Prop where
 fl:aF d.fl
 res:nY d.res
 name:d.name.length<=av
 pl:d.params.length<=av
 ps:∀p∈d.params,PcOk p
 l:d.body.length<=av
def gS (m:Mem) (d:Md) (cs:List Value):Prop:=∃x:Mc,(cs=x.cs/\x.fl=d.fl/\x.res=d.res/\x.name=d.name/\x.hb=d.hb)/\(x.pl=d.params.length/\x.pl<=x.pc/\x.l=d.body.length/\x.l<=x.cp)/\MdOk d/\
 aZ m x.pa x.pl 4 (flat Pc.cs d.params)/\∃xs,aZ m x.a x.l 23 xs/\bZ m d.body xs
structure CdOk (d:Cd):Prop where
 fl:aF d.fl
 name:d.name.length<=av
 super:d.super.length<=av
 il:d.ifs.length<=av
 ifs:∀s∈d.ifs,s.length<=av
 fn:d.fields.length<=av
 fs:∀s∈d.fields,FcOk s
 ml:d.methods.length<=av
 l:d.init.length<=av
def ki (m:Mem) (d:Cd) (cs:List Value):Prop:=∃x:Cc,(cs=x.cs/\x.fl=d.fl/\x.name=d.name/\x.super=d.super)/\(x.il=d.ifs.length/\x.il<=x.ic/\x.fn=d.fields.length/\x.fn<=x.fc/\x.ml=d.methods.length/\x.ml<=x.mc/\x.sl=d.init.length/\x.sl<=x.sc)/\CdOk d/\
 aZ m x.ia x.il 1 (strs d.ifs)/\aZ m x.fa x.fn 5 (flat Fc.cs d.fields)/\∃xs ys,aZ m x.ma x.ml 8 xs/\nJ (gS m) 8 d.methods xs/\aZ m x.sa x.sl 23 ys/\bZ m d.init ys
theorem p8 {m m' :Mem} (hle:ae m m') {d:Md} {cs:List Value} (h:gS m d cs):gS m' d cs:=by
 obtain⟨x,h1,h2,h3,h4,xs,h5,h6⟩:=h;exact⟨x,h1,h2,h3,ax hle h4,xs,ax hle h5,dp hle h6⟩
theorem qa {m m' :Mem} (hle:ae m m') {d:Cd} {cs:List Value} (h:ki m d cs):ki m' d cs:=by
 obtain⟨x,h1,h2,h3,h4,h5,xs,ys,h6,h7,h8,h9⟩:=h;exact⟨x,h1,h2,h3,ax hle h4,ax hle h5,xs,ys,ax hle h6,vX (fun _ _=>p8 hle) h7,ax hle h8,dp hle h9⟩
def qk (m:Mem) (l:List Cd) (a:Option Addr) (n c:Nat):Prop:=n=l.length/\n<=c/\n<=av/\∃xs,aZ m a n 7 xs/\nJ (ki m) 7 l xs
theorem Pr {m m' :Mem} (hle:ae m m') {l:List Cd} {a:Option Addr} {n c:Nat} (h:qk m l a n c):qk m' l a n c:=by
 obtain⟨h1,h2,h3,xs,h4,h5⟩:=h;exact⟨h1,h2,h3,xs,ax hle h4,vX (fun _ _=>qa hle) h5⟩
mutual
def eQ:St->Nat
 | .mk _ _ _ _ _ body alt=>max (dq body) (dq alt)+1
def dq:List St->Nat
 |[]=>0
 |e::r=>max (eQ e) (dq r)
end
theorem lY:∀{l:List St} {e:St},e∈l->eQ e<=dq l
 |[],e,he=>by cases he
 |x::r,e,he=>by
  simp only[dq];rcases List.mem_cons.1 he with rfl |he
  ·omega
  ·have:=lY he;omega
theorem Qi {m:Mem} {l l2:List Ex} {xs ys:List Value} (h1:dY m l xs) (h2:dY m l2 ys) {f:FuncId} (hf:∀a∈l,∀b∈l2,∀ca cb m',ae m m' ->bJ m' a ca->bJ m' b cb->aJ f [.v (.agg ⟨ca⟩),.v (.agg ⟨cb⟩)] m' (.bool (iA a b))):
  ∀i,i<l.length->l.length=l2.length->∃X Y:Nd,(xs.drop (i * 8)).take 8=X.cs/\(ys.drop (i * 8)).take 8=Y.cs/\∀m',ae m m' ->aJ f [.v (.agg ⟨X.cs⟩),.v (.agg ⟨Y.cs⟩)] m' (.bool (fz iA l l2 i)):=fun i hi he=>by
 have r1:=rv h1 hi;have r2:=rv h2 (by omega:i<l2.length);obtain⟨X,hX⟩:=o5 r1;obtain⟨Y,hY⟩:=o5 r2;rw[hX] at r1;rw[hY] at r2;refine⟨X,Y,hX,hY,fun m' hle=> ?_⟩;rw[zR hi (by omega)];exact hf _ (List.getElem_mem hi) _ (List.getElem_mem _) _ _ m' hle (bw hle r1) (bw hle r2)
theorem Jn:∀(h:Nat) (a b:Ex) (ca cb:List Value) (m:Mem),b6 a<=h->bJ m a ca->bJ m b cb->aJ 251 [.v (.agg ⟨ca⟩),.v (.agg ⟨cb⟩)] m (.bool (iA a b))
 |0,.mk k n s c ty args,b,ca,cb,m,hd,_,_=>by simp [b6] at hd
 |h+1,.mk k n s c ty args,.mk k' n' s' c' dQ jT,ca,cb,m,hd,ha,hb=>by
  simp only[bJ] at ha hb;obtain⟨a,cp,xs,rfl,bg,hr,ar,eE⟩:=ha;obtain⟨a',cp',xs',rfl,hcp',hr',hok',hes'⟩:=hb;simp only[b6] at hd;have hE:=fun m' (hle:ae m m')=>agY 251 (fz iA args jT) a args.length cp a' jT.length cp' xs xs' m' (ax hle hr) (ax hle hr') ar.2.2.2.2.2 (by kernel_rfl)
   (Qi (uh hle eE) (uh hle hes') fun x hx y hy cx cy kq aY r1 r2=>Jn h x y cx cy kq (by have:=A8 hx;omega) r1 r2)
  simp only[<- qW] at hE;refine enter gP aB Tryz.func251 rfl rfl (by kernel_rfl) rfl ?_ ?_
  ·simp only[go_sem,aK]
  ·simp only[go_sem,aK,qn];refine⟨fun h=>ab ((hE m (.inl rfl)).mono ?_),fun h=> ?_⟩
   ·clear hE;rintro r H' m2 aH ⟨aY,rfl,rfl⟩;simp only[go_sem];refine⟨aY,?_⟩;simp only[iA,Im,Ty.eq,h,ao,Bool.true_and]
   ·clear hE;simp only[iA,Ty.eq];rcases h with (((h |h) |h) |h) |h |h |h<;>simp [h]
theorem E9 {α N:Type} {R:Mem->α->List Value->Prop} {vr:N->List Value} {sz:Nat} {e:α->α->Bool} (UN:∀m m' a c,ae m m' ->R m a c->R m' a c) (hN:∀m a c,R m a c->∃x:N,c=vr x) {m:Mem} {l l2:List α} {xs ys:List Value}
  (h1:∀i (hi:i<l.length),R m l[i] ((xs.drop (i * sz)).take sz)) (h2:∀i (hi:i<l2.length),R m l2[i] ((ys.drop (i * sz)).take sz)) {f:FuncId} (hf:∀a∈l,∀b∈l2,∀ca cb m',ae m m' ->R m' a ca->R m' b cb->aJ f [.v (.agg ⟨ca⟩),.v (.agg ⟨cb⟩)] m' (.bool (e a b))):
  ∀i,i<l.length->l.length=l2.length->∃X Y:N,(xs.drop (i * sz)).take sz=vr X/\(ys.drop (i * sz)).take sz=vr Y/\∀m',ae m m' ->aJ f [.v (.agg ⟨vr X⟩),.v (.agg ⟨vr Y⟩)] m' (.bool (fz e l l2 i)):=fun i hi he=>by
 have r1:=h1 i hi;have r2:=h2 i (by omega:i<l2.length);obtain⟨X,hX⟩:=hN _ _ _ r1;obtain⟨Y,hY⟩:=hN _ _ _ r2;rw[hX] at r1;rw[hY] at r2;refine⟨X,Y,hX,hY,fun m' hle=> ?_⟩;rw[zR hi (by omega)];exact hf _ (List.getElem_mem hi) _ (List.getElem_mem _) _ _ m' (hle) (UN _ _ _ _ hle r1) (UN _ _ _ _ hle r2)
theorem pf:∀(h:Nat) (a b:St) (ca cb:List Value) (m:Mem),eQ a<=h->fK m a ca->fK m b cb->aJ 236 [.v (.agg ⟨ca⟩),.v (.agg ⟨cb⟩)] m (.bool (dh a b))
 |0,.mk k nm ty tg ex body alt,b,ca,cb,m,hd,_,_=>by simp [eQ] at hd
 |h+1,.mk k nm ty tg ex body alt,.mk k' fP dQ yk yF pF yh,ca,cb,m,hd,ha,hb=>by
  simp only[fK] at ha hb;obtain⟨x,⟨rfl,rfl,rfl,rfl⟩,df,hex,⟨hl,bg,ck,ea⟩,ar,xs,ys,r1,r2,s1,s2⟩:=ha;obtain⟨x',⟨rfl,rfl,rfl,rfl⟩,htg',xY,⟨kY,hcp',hl2',hcp2'⟩,hok',xs',ys',r1',r2',s1',s2'⟩:=hb;simp only[eQ] at hd;have hT:=fun m' (hle:ae m m')=>Jn _ tg yk x.tg.cs x'.tg.cs m' (au _) (bw hle df) (bw hle htg')
  have hX:=fun m' (hle:ae m m')=>Jn _ ex yF x.ex.cs x'.ex.cs m' (au _) (bw hle hex) (bw hle xY)
  have hB:∀m',ae m m' ->aJ 252 [.v (.slice x.a x.l x.cp),.v (.slice x'.a x'.l x'.cp),.v (.func (.func 236) ⟨[]⟩ ⟨[]⟩)] m' (.bool (gn body pF)):=fun m' hle=>by
   have hf:=E9 (R:=fK) (vr:=Sd.cs) (e:=dh) (f:=236) (fun _ _ _ _=>sL) (fun _ _ _=>Ez) (fun i hi=>qc (dp hle s1) hi) (fun i hi=>qc (dp hle s1') hi)
    (fun a ha b hb ca cb m2 aY=>pf h a b ca cb m2 (by have:=lY ha;omega))
   rw[Em,qW];rw[<- hl,<- kY] at hf ⊢;exact TK _ _ x.a x.l x.cp x'.a x'.l x'.cp xs xs' m' (ax hle r1) (ax hle r1') (by rw[hl];exact ar.l) (by kernel_rfl) hf
  have hA:∀m',ae m m' ->aJ 252 [.v (.slice x.b x.l2 x.cp2),.v (.slice x'.b x'.l2 x'.cp2),.v (.func (.func 236) ⟨[]⟩ ⟨[]⟩)] m' (.bool (gn alt yh)):=fun m' hle=>by
   have hf:=E9 (R:=fK) (vr:=Sd.cs) (e:=dh) (f:=236) (fun _ _ _ _=>sL) (fun _ _ _=>Ez) (fun i hi=>qc (dp hle s2) hi) (fun i hi=>qc (dp hle s2') hi)
    (fun a ha b hb ca cb m2 aY=>pf h a b ca cb m2 (by have:=lY ha;omega))
   rw[Em,qW];rw[<- ck,<- hl2'] at hf ⊢;exact TK _ _ x.b x.l2 x.cp2 x'.b x'.l2 x'.cp2 ys ys' m' (ax hle r2) (ax hle r2') (by rw[ck];exact ar.l2) (by kernel_rfl) hf
  clear s1 s2 s1' s2';refine enter gP aB Tryz.func236 rfl rfl (by kernel_rfl) rfl ?_ ?_
  ·simp only[go_sem,Sd.cs,Nd.cs]
  ·simp only[go_sem,Sd.cs,Nd.cs,qn];refine⟨fun h=>ab ((aQ (hT m (.inl rfl)) (fun V=>rfl)).mono ?_),fun h=> ?_⟩
   ·clear hT;rintro r H' m2 aH ⟨l2,rfl,rfl⟩;simp only[go_sem,Sd.cs,Nd.cs];have e0:dh (St.mk x.k x.name x.ty tg ex body alt) (St.mk x'.k x'.name x'.ty yk yF pF yh)=(iA tg yk&&iA ex yF&&gn body pF&&gn alt yh):=by simp only[dh,Ty.eq,h,ao,Bool.true_and]
    refine⟨fun h1=>ab ((aQ (hX m2 l2) (fun V=>rfl)).mono ?_),fun h1=> ?_⟩
    ·clear hX;rintro r H' m3 bI ⟨l3,rfl,rfl⟩;simp only[go_sem,Sd.cs,Nd.cs];refine⟨fun h2=>ab ((hB m3 (aa l2 l3)).mono ?_),fun h2=> ?_⟩
     ·clear hB;rintro r H' m4 cT ⟨l4,rfl,rfl⟩;simp only[go_sem,Sd.cs,Nd.cs];refine⟨fun h3=>ab ((hA m4 (aa (aa l2 l3) l4)).mono ?_),fun h3=> ?_⟩
      ·clear hA;rintro r H' m5 cO ⟨l5,rfl,rfl⟩;simp only[go_sem,Sd.cs,Nd.cs];refine⟨aa (aa (aa l2 l3) l4) l5,?_⟩;rw[e0,h1,h2,h3];rfl
      ·refine⟨aa (aa l2 l3) l4,?_⟩;rw[e0,h3,Bool.and_false];rfl
     ·refine⟨aa l2 l3,?_⟩;rw[e0,h2,Bool.and_false];rfl
    ·refine⟨l2,?_⟩;rw[e0,h1];rfl
   ·clear hT hX hB hA;simp only[dh,Ty.eq];rcases h with (h |h) |h |h |h<;>simp [h]
theorem Bt {m:Mem} {e:Md} {cs:List Value} (h:gS m e cs):∃x:Mc,cs=x.cs:=by
 obtain⟨x,h1,_⟩:=h;exact⟨x,h1.1⟩
theorem Qs {m:Mem} {e:Cd} {cs:List Value} (h:ki m e cs):∃x:Cc,cs=x.cs:=by
 obtain⟨x,h1,_⟩:=h;exact⟨x,h1.1⟩
def kX (n:Nat) (B:Nat->Bool):Bool:=(List.range n).any B
theorem Eu {n:Nat} {B:Nat->Bool}:kX (n+1) B=(kX n B||B n):=by simp [kX,List.range_succ,List.any_append]
theorem EV {n k:Nat} {B:Nat->Bool} (hk:k<n) (h:B k=true):kX n B=true:=by
 simp only[kX,List.any_eq_true,List.mem_range];exact⟨k,hk,h⟩
theorem OS {α:Type} (p:α->Bool):∀(l:List α) (B:Nat->Bool),(∀i (h:i<l.length),B i=p l[i])->kX l.length B=l.any p
 |[],_,_=>rfl
 |x::r,B,h=>by
  have h0:=h 0 (by simp);have hr:=OS p r (fun i=>B (i+1)) fun i hi=>h (i+1) (by simpa using hi)
  rw[List.any_cons,<- hr,aL];simp only[kX,List.range_succ_eq_map,List.any_cons,List.any_map,h0,List.getElem_cons_zero];rfl
theorem agj (f:FuncId) (B:Nat->Bool) (a:Option Addr) (n c:Nat) (xs:List Value) (m:Mem) (hr:aZ m a n 4 xs) (hn:n<=av) (ar:iY Tryz.prog f=true)
  (hx:∀i,i<n->∃X:Pc,(xs.drop (i * 4)).take 4=X.cs/\∀m',ae m m' ->aJ f [.v (.agg ⟨X.cs⟩)] m' (.bool (B i))):
  FnH Tryz.prog 231 [.v (.slice a n c),.v (.func (.func f) ⟨[]⟩ ⟨[]⟩)] ⟨[],[]⟩ m fun r H' m' =>ae m m' /\H' =⟨[],[]⟩/\∃i:Int,r= .v (.int .i64 i)/\decide (0<=i)=kX n B:=by
 refine aR aB Tryz.func231 ?_
 ·simp only[go_sem];refine du aB (fun x:Nat×Mem=>⟨[⟨0,[],.v (.slice a n c)⟩,⟨1,[],.v (.func (.func f) ⟨[]⟩ ⟨[]⟩)⟩,⟨7,[],.v (.int .i64 n)⟩,⟨8,[],.v (.int .i64 x.1)⟩],[],[],[],0,x.2⟩)
   (fun x=>ae m x.2/\x.1<=n/\kX x.1 B=false) (fun x=>n - x.1) (0,m) (fun _ _=>au _) (fun x hx=>hx.1) ?_ ?_ ?_
  ·simp only[go_sem];rfl
  ·exact⟨.inl rfl,aG _,rfl⟩
  ·rintro⟨k,mm⟩ ⟨h1,h2,h3⟩;simp only at h1 h2 h3;have ej:gP.own f=false:=rfl;have hy:∀(hk:k<n),∃X:Pc,(Rd mm (cM a (k * 4)) X.cs/\a≠none)/\aJ f [.v (.agg ⟨X.cs⟩)] mm (.bool (B k)):=fun hk=>by
     obtain⟨X,e1,e3⟩:=hx k hk;have r1:=dA (ax h1 hr) hk;rw[e1] at r1;exact⟨X,r1,e3 mm h1⟩
   clear hx;simp only[go_sem,ej];refine⟨fun ay=> ?_,fun cg=>⟨h1,?_⟩⟩
   ·have hk:k<n:=by clear hy;omega
    refine Exists.elim (hy hk) fun X br=>⟨⟨by clear hy br;omega,ay,br.1.2⟩,X.cs,⟨br.1.1,rfl⟩,?_⟩
    clear hy;have ha:=br.2;clear br;simp only[go_sem,ej,Pc.cs];refine⟨ar,bo ((aQ ha (fun V=>rfl)).mono ?_)⟩;clear ha;rintro r H' m' hm ⟨hle,rfl,rfl⟩;simp only[go_sem];refine⟨fun hb=>⟨aa h1 hle,?_⟩,fun hb=>⟨by unfold aF;simp only[av] at hn;omega,(k+1,m'),⟨by simp,.inl rfl⟩,⟨aa h1 hle,by simp only;omega,?_⟩,by simp only;omega⟩⟩
    ·rw[EV hk hb];simp
    ·simp only;rw[Eu,h3,hb];rfl
   ·have:k=n:=by clear hy;omega
    rw[<- this,h3];rfl
theorem ahc (f:FuncId) (B:Nat->Bool) (a:Option Addr) (n c:Nat) (xs:List Value) (m:Mem) (hr:aZ m a n 4 xs) (hn:n<=av) (ar:iY Tryz.prog f=true)
  (hx:∀i,i<n->∃X:Pc,(xs.drop (i * 4)).take 4=X.cs/\∀m',ae m m' ->aJ f [.v (.agg ⟨X.cs⟩)] m' (.bool (B i))):
  aJ 197 [.v (.slice a n c),.v (.func (.func f) ⟨[]⟩ ⟨[]⟩)] m (.bool (kX n B)):=by
 refine aR aB Tryz.func197 ?_
 ·simp only[go_sem];refine ab ((agj f B a n c xs m hr hn ar hx).mono ?_);clear hx;rintro r H' m' hm ⟨hle,rfl,i,rfl,hi⟩;simp only[go_sem];exact⟨hle,hi⟩
theorem agl (f:FuncId) (B:Nat->Bool) (a:Option Addr) (n c:Nat) (xs:List Value) (m:Mem) (hr:aZ m a n 5 xs) (hn:n<=av) (ar:iY Tryz.prog f=true)
  (hx:∀i,i<n->∃X:Fc,(xs.drop (i * 5)).take 5=X.cs/\∀m',ae m m' ->aJ f [.v (.agg ⟨X.cs⟩)] m' (.bool (B i))):
  FnH Tryz.prog 199 [.v (.slice a n c),.v (.func (.func f) ⟨[]⟩ ⟨[]⟩)] ⟨[],[]⟩ m fun r H' m' =>ae m m' /\H' =⟨[],[]⟩/\∃i:Int,r= .v (.int .i64 i)/\decide (0<=i)=kX n B:=by
 refine aR aB Tryz.func199 ?_
 ·simp only[go_sem];refine du aB (fun x:Nat×Mem=>⟨[⟨0,[],.v (.slice a n c)⟩,⟨1,[],.v (.func (.func f) ⟨[]⟩ ⟨[]⟩)⟩,⟨7,[],.v (.int .i64 n)⟩,⟨8,[],.v (.int .i64 x.1)⟩],[],[],[],0,x.2⟩)
   (fun x=>ae m x.2/\x.1<=n/\kX x.1 B=false) (fun x=>n - x.1) (0,m) (fun _ _=>au _) (fun x hx=>hx.1) ?_ ?_ ?_
  ·simp only[go_sem];rfl
  ·exact⟨.inl rfl,aG _,rfl⟩
  ·rintro⟨k,mm⟩ ⟨h1,h2,h3⟩;simp only at h1 h2 h3;have ej:gP.own f=false:=rfl;have hy:∀(hk:k<n),∃X:Fc,(Rd mm (cM a (k * 5)) X.cs/\a≠none)/\aJ f [.v (.agg ⟨X.cs⟩)] mm (.bool (B k)):=fun hk=>by
     obtain⟨X,e1,e3⟩:=hx k hk;have r1:=dA (ax h1 hr) hk;rw[e1] at r1;exact⟨X,r1,e3 mm h1⟩
   clear hx;simp only[go_sem,ej];refine⟨fun ay=> ?_,fun cg=>⟨h1,?_⟩⟩
   ·have hk:k<n:=by clear hy;omega
    refine Exists.elim (hy hk) fun X br=>⟨⟨by clear hy br;omega,ay,br.1.2⟩,X.cs,⟨br.1.1,rfl⟩,?_⟩
    clear hy;have ha:=br.2;clear br;simp only[go_sem,ej,Fc.cs];refine⟨ar,bo ((aQ ha (fun V=>rfl)).mono ?_)⟩;clear ha;rintro r H' m' hm ⟨hle,rfl,rfl⟩;simp only[go_sem];refine⟨fun hb=>⟨aa h1 hle,?_⟩,fun hb=>⟨by unfold aF;simp only[av] at hn;omega,(k+1,m'),⟨by simp,.inl rfl⟩,⟨aa h1 hle,by simp only;omega,?_⟩,by simp only;omega⟩⟩
    ·rw[EV hk hb];simp
    ·simp only;rw[Eu,h3,hb];rfl
   ·have:k=n:=by clear hy;omega
    rw[<- this,h3];rfl
theorem ahe (f:FuncId) (B:Nat->Bool) (a:Option Addr) (n c:Nat) (xs:List Value) (m:Mem) (hr:aZ m a n 5 xs) (hn:n<=av) (ar:iY Tryz.prog f=true)
  (hx:∀i,i<n->∃X:Fc,(xs.drop (i * 5)).take 5=X.cs/\∀m',ae m m' ->aJ f [.v (.agg ⟨X.cs⟩)] m' (.bool (B i))):
  aJ 140 [.v (.slice a n c),.v (.func (.func f) ⟨[]⟩ ⟨[]⟩)] m (.bool (kX n B)):=by
 refine aR aB Tryz.func140 ?_
 ·simp only[go_sem];refine ab ((agl f B a n c xs m hr hn ar hx).mono ?_);clear hx;rintro r H' m' hm ⟨hle,rfl,i,rfl,hi⟩;simp only[go_sem];exact⟨hle,hi⟩
theorem agk (f:FuncId) (B:Nat->Bool) (a:Option Addr) (n c:Nat) (xs:List Value) (m:Mem) (hr:aZ m a n 8 xs) (hn:n<=av) (ar:iY Tryz.prog f=true)
  (hx:∀i,i<n->∃X:Mc,(xs.drop (i * 8)).take 8=X.cs/\∀m',ae m m' ->aJ f [.v (.agg ⟨X.cs⟩)] m' (.bool (B i))):
  FnH Tryz.prog 200 [.v (.slice a n c),.v (.func (.func f) ⟨[]⟩ ⟨[]⟩)] ⟨[],[]⟩ m fun r H' m' =>ae m m' /\H' =⟨[],[]⟩/\∃i:Int,r= .v (.int .i64 i)/\decide (0<=i)=kX n B:=by
 refine aR aB Tryz.func200 ?_
 ·simp only[go_sem];refine du aB (fun x:Nat×Mem=>⟨[⟨0,[],.v (.slice a n c)⟩,⟨1,[],.v (.func (.func f) ⟨[]⟩ ⟨[]⟩)⟩,⟨7,[],.v (.int .i64 n)⟩,⟨8,[],.v (.int .i64 x.1)⟩],[],[],[],0,x.2⟩)
   (fun x=>ae m x.2/\x.1<=n/\kX x.1 B=false) (fun x=>n - x.1) (0,m) (fun _ _=>au _) (fun x hx=>hx.1) ?_ ?_ ?_
  ·simp only[go_sem];rfl
  ·exact⟨.inl rfl,aG _,rfl⟩
  ·rintro⟨k,mm⟩ ⟨h1,h2,h3⟩;simp only at h1 h2 h3;have ej:gP.own f=false:=rfl;have hy:∀(hk:k<n),∃X:Mc,(Rd mm (cM a (k * 8)) X.cs/\a≠none)/\aJ f [.v (.agg ⟨X.cs⟩)] mm (.bool (B k)):=fun hk=>by
     obtain⟨X,e1,e3⟩:=hx k hk;have r1:=dA (ax h1 hr) hk;rw[e1] at r1;exact⟨X,r1,e3 mm h1⟩
   clear hx;simp only[go_sem,ej];refine⟨fun ay=> ?_,fun cg=>⟨h1,?_⟩⟩
   ·have hk:k<n:=by clear hy;omega
    refine Exists.elim (hy hk) fun X br=>⟨⟨by clear hy br;omega,ay,br.1.2⟩,X.cs,⟨br.1.1,rfl⟩,?_⟩
    clear hy;have ha:=br.2;clear br;simp only[go_sem,ej,Mc.cs];refine⟨ar,bo ((aQ ha (fun V=>rfl)).mono ?_)⟩;clear ha;rintro r H' m' hm ⟨hle,rfl,rfl⟩;simp only[go_sem];refine⟨fun hb=>⟨aa h1 hle,?_⟩,fun hb=>⟨by unfold aF;simp only[av] at hn;omega,(k+1,m'),⟨by simp,.inl rfl⟩,⟨aa h1 hle,by simp only;omega,?_⟩,by simp only;omega⟩⟩
    ·rw[EV hk hb];simp
    ·simp only;rw[Eu,h3,hb];rfl
   ·have:k=n:=by clear hy;omega
    rw[<- this,h3];rfl
theorem ahd (f:FuncId) (B:Nat->Bool) (a:Option Addr) (n c:Nat) (xs:List Value) (m:Mem) (hr:aZ m a n 8 xs) (hn:n<=av) (ar:iY Tryz.prog f=true)
  (hx:∀i,i<n->∃X:Mc,(xs.drop (i * 8)).take 8=X.cs/\∀m',ae m m' ->aJ f [.v (.agg ⟨X.cs⟩)] m' (.bool (B i))):
  aJ 141 [.v (.slice a n c),.v (.func (.func f) ⟨[]⟩ ⟨[]⟩)] m (.bool (kX n B)):=by
 refine aR aB Tryz.func141 ?_
 ·simp only[go_sem];refine ab ((agk f B a n c xs m hr hn ar hx).mono ?_);clear hx;rintro r H' m' hm ⟨hle,rfl,i,rfl,hi⟩;simp only[go_sem];exact⟨hle,hi⟩
theorem ajJ (f:FuncId) (B:Nat->Bool) (a:Option Addr) (n c:Nat) (xs:List Value) (m:Mem) (hr:aZ m a n 1 xs) (hn:n<=av) (ar:iY Tryz.prog f=true)
  (hx:∀i,i<n->∃s:List UInt8,xs[i]? =some (.string (bs s))/\∀m',ae m m' ->aJ f [.v (.string (bs s))] m' (.bool (B i))):
  FnH Tryz.prog 198 [.v (.slice a n c),.v (.func (.func f) ⟨[]⟩ ⟨[]⟩)] ⟨[],[]⟩ m fun r H' m' =>ae m m' /\H' =⟨[],[]⟩/\∃i:Int,r= .v (.int .i64 i)/\decide (0<=i)=kX n B:=by
 refine aR aB Tryz.func198 ?_
 ·simp only[go_sem];refine du aB (fun x:Nat×Mem=>⟨[⟨0,[],.v (.slice a n c)⟩,⟨1,[],.v (.func (.func f) ⟨[]⟩ ⟨[]⟩)⟩,⟨7,[],.v (.int .i64 n)⟩,⟨8,[],.v (.int .i64 x.1)⟩],[],[],[],0,x.2⟩)
   (fun x=>ae m x.2/\x.1<=n/\kX x.1 B=false) (fun x=>n - x.1) (0,m) (fun _ _=>au _) (fun x hx=>hx.1) ?_ ?_ ?_
  ·simp only[go_sem];rfl
  ·exact⟨.inl rfl,aG _,rfl⟩
  ·rintro⟨k,mm⟩ ⟨h1,h2,h3⟩;simp only at h1 h2 h3;have ej:gP.own f=false:=rfl;have hy:∀(hk:k<n),∃s:List UInt8,(Rd mm (cM a k) [.string (bs s)]/\a≠none)/\aJ f [.v (.string (bs s))] mm (.bool (B k)):=fun hk=>by
     obtain⟨s,e1,e3⟩:=hx k hk;obtain⟨fm,r1,cQ⟩:=BM (ax h1 hr) hk;rw[List.getElem?_eq_getElem fm] at e1;rw[Option.some.inj e1] at r1;exact⟨s,⟨r1,cQ⟩,e3 mm h1⟩
   clear hx;simp only[go_sem,ej];refine⟨fun ay=> ?_,fun cg=>⟨h1,?_⟩⟩
   ·have hk:k<n:=by clear hy;omega
    refine Exists.elim (hy hk) fun s br=>⟨⟨by clear hy br;omega,ay,br.1.2⟩,_,br.1.1,?_⟩
    clear hy;have ha:=br.2;clear br;refine⟨ar,bo ((ha).mono ?_)⟩;clear ha;rintro r H' m' hm ⟨hle,rfl,rfl⟩;simp only[go_sem];refine⟨fun hb=>⟨aa h1 hle,?_⟩,fun hb=>⟨by unfold aF;simp only[av] at hn;omega,(k+1,m'),⟨by simp,.inl rfl⟩,⟨aa h1 hle,by simp only;omega,?_⟩,by simp only;omega⟩⟩
    ·rw[EV hk hb];simp
    ·simp only;rw[Eu,h3,hb];rfl
   ·have:k=n:=by clear hy;omega
    rw[<- this,h3];rfl
theorem aki (f:FuncId) (B:Nat->Bool) (a:Option Addr) (n c:Nat) (xs:List Value) (m:Mem) (hr:aZ m a n 1 xs) (hn:n<=av) (ar:iY Tryz.prog f=true)
  (hx:∀i,i<n->∃s:List UInt8,xs[i]? =some (.string (bs s))/\∀m',ae m m' ->aJ f [.v (.string (bs s))] m' (.bool (B i))):
  aJ 139 [.v (.slice a n c),.v (.func (.func f) ⟨[]⟩ ⟨[]⟩)] m (.bool (kX n B)):=by
 refine aR aB Tryz.func139 ?_
 ·simp only[go_sem];refine ab ((ajJ f B a n c xs m hr hn ar hx).mono ?_);clear hx;rintro r H' m' hm ⟨hle,rfl,i,rfl,hi⟩;simp only[go_sem];exact⟨hle,hi⟩
def ai:Ty:=⟨0,0,[]⟩
def ajD (e:Ex):Ex:= .mk 15 0 [45] [] ai [e]
def zE:Ex:= .mk 0 0 [] [] ai []
def ji (k n:Int) (s c:List UInt8) (ty:Ty) (l:Nat):Bool:=decide (l=0)&&decide (k=0)&&decide (n=0)&&decide (s=[])&&decide (c=[])&&Ty.eq ty ai
def jj:Ex->Bool | .mk k n s c ty args=>ji k n s c ty args.length
def mW:Ex->Bool | .mk k n s c ty args=>ji k n s c ty 0&&decide (args.length<=16)&&gg args
def mR (e:Ex):Bool:=(decide (e.k=6)||decide (e.k=7)||decide (e.k=8)||decide (e.k=9))&&bG e
def nh (e:Ex):Bool:=(decide (e.k=10)||decide (e.k=11)||decide (e.k=12)||decide (e.k=13))&&bG e
def St.k:St->Int | .mk k _ _ _ _ _ _=>k
def jR (k:Int) (nm:List UInt8) (ty:Ty) (tg ex:Ex) (body alt:List St):St:=
 if k=1 then .mk k nm ty zE ex [] []
 else if k=2 then .mk k [] ai tg ex [] []
 else if k=4 then .mk k [] ai zE ex body alt
 else if k=5\/k=9 then .mk k [] ai zE ex body []
 else if k=8 then .mk k nm ty zE zE body alt
 else if k=10 then .mk k [] ai zE zE body []
 else .mk k [] ai zE ex [] []
def iq (k:Int) (nm:List UInt8) (ty:Ty) (tg ex:Ex) (B:Bool):Bool:=
 if k=1 then dn nm&&dw ty.dim ty.base ty.name&&bG ex
 else if k=2 then mR tg&&bG ex
 else if k=3 then nh ex
 else if k=4\/k=5\/k=9 then B&&bG ex
 else if k=6 then jj ex||bG ex
 else if k=7 then bG ex
 else if k=8 then B&&dn nm&&dw ty.dim ty.base ty.name
 else if k=10 then B
 else if k=11 then mW ex
 else false
mutual
def fv:St->Bool
 | .mk k nm ty tg ex body alt=>iq k nm ty tg ex (decide (body.length<=32)&&b9 false body&&(decide (alt.length<=32)&&b9 false alt))&&dh (.mk k nm ty tg ex body alt) (jR k nm ty tg ex body alt)
def b9:Bool->List St->Bool
 |_,[]=>true
 |sup,e::r=>(!decide (e.k=11)||sup)&&fv e&&b9 false r
end
def eB (sup:Bool) (l:List St):Bool:=decide (l.length<=32)&&b9 sup l
def oP (sup:Bool) (i:Nat) (e:St):Bool:=(!decide (e.k=11)||(sup&&decide (i=0)))&&fv e
theorem DP:∀{l:List St} {sup:Bool} {i:Nat} (hi:i<l.length),b9 sup (l.take (i+1))=(b9 sup (l.take i)&&oP sup i l[i])
 |[],_,_,hi=>absurd hi (Nat.not_lt_zero _)
 |e::r,sup,0,_=>by simp [b9,oP]
 |e::r,sup,i+1,hi=>by
  have:=DP (l:=r) (sup:=false) (i:=i) (by simpa using hi);simp only[List.take_succ_cons,b9,this,List.getElem_cons_succ];simp only[oP,Bool.false_and,Nat.add_one_ne_zero,aq,Bool.and_false,Bool.and_assoc]
theorem DY:∀{l:List St} {sup:Bool} {i:Nat} (hi:i<l.length),oP sup i l[i]=false->b9 sup l=false:=fun{l sup i} hi h=>by
 have h1:=DP (sup:=sup) hi;rw[h,Bool.and_false] at h1;have:∀(l:List St) (sup:Bool) (j:Nat),b9 sup (l.take j)=false->b9 sup l=false:=by
  intro l;induction l with
  |nil=>intro sup j h;simpa using h
  |cons e r ih=>
   intro sup j h;cases j with
   |zero=>simp [b9] at h
   |succ j=>
    simp only[List.take_succ_cons,b9] at h ⊢;cases h2:b9 false (r.take j) with
    |false=>rw[ih false j h2,Bool.and_false]
    |true=>rw[h2,Bool.and_true] at h;rw[h,Bool.false_and]
 exact this l sup (i+1) h1
theorem NH (x:Nd) (m:Mem):aJ 234 [.v (.agg ⟨x.cs⟩)] m (.bool (ji x.k x.n x.s x.c x.ty x.l)):=by
 refine enter gP aB Tryz.func234 rfl rfl (by kernel_rfl) rfl ?_ ?_
 ·simp only[go_sem,Nd.cs]
 ·simp only[go_sem,Nd.cs,qn];have e0:decide ((x.l:Int)=0)=decide (x.l=0):=by rw[decide_eq_decide];omega
  rw[e0];rfl
theorem qZ {m:Mem} {k n:Int} {s c:List UInt8} {ty:Ty} {args:List Ex} {cs:List Value} (h:bJ m (.mk k n s c ty args) cs):∃x:Nd,cs=x.cs/\x.k=k/\x.n=n/\x.s=s/\x.c=c/\x.ty=ty/\x.l=args.length/\x.l<=x.cp/\x.l<=av/\∃xs,aZ m x.a x.l 8 xs/\dY m args xs:=by
 simp only[bJ] at h;obtain⟨a,cp,xs,rfl,h1,h2,h3,h4⟩:=h;exact⟨⟨k,n,s,c,ty,a,args.length,cp⟩,rfl,rfl,rfl,rfl,rfl,rfl,rfl,h1,h3.2.2.2.2.2,xs,h2,h4⟩
theorem aa8 (e:Ex) (cs:List Value) (m:Mem) (hg:Glob m) (he:bJ m e cs):aJ 250 [.v (.agg ⟨cs⟩)] m (.bool (!bG e)):=by
 have hV:=p6 _ e cs m (au _) hg he;obtain⟨x,rfl⟩:=o5 he;refine enter gP aB Tryz.func250 rfl rfl (by kernel_rfl) rfl ?_ ?_
 ·simp only[go_sem,Nd.cs]
 ·simp only[go_sem,Nd.cs];refine ab ((aQ hV (fun V=>rfl)).mono ?_);rintro r H' m2 aH ⟨aY,rfl,rfl⟩;simp only[go_sem];exact aY
theorem WR (e:Ex) (cs:List Value) (m:Mem) (hg:Glob m) (he:bJ m e cs):aJ 235 [.v (.agg ⟨cs⟩)] m (.bool (mW e)):=by
 cases e with
 |mk k n s c ty args=>
  obtain⟨x,rfl,rfl,rfl,rfl,rfl,rfl,hl,bg,hn,xs,hr,eE⟩:=qZ he;have hE:=NH ⟨x.k,x.n,x.s,x.c,x.ty,none,0,0⟩ m;have hv:=fun m' (hm:ae m m')=>Mz 250 (fun e=> !bG e) args x.a x.l x.cp xs m' hl.symm (ax hm hr) (uh hm eE) hn (by kernel_rfl) (fun i hi cs m2 hle aT=>aa8 _ cs m2 (hg.upM (aa hm hle)) aT)
  refine enter gP aB Tryz.func235 rfl rfl (by kernel_rfl) rfl ?_ ?_
  ·simp only[go_sem,Nd.cs]
  ·simp only[go_sem,Nd.cs];refine ab ((aQ hE (fun V=>rfl)).mono ?_);clear hE;rintro r H' m2 aH ⟨aY,rfl,rfl⟩;simp only[go_sem];have e0:mW (Ex.mk x.k x.n x.s x.c x.ty args)=(ji x.k x.n x.s x.c x.ty 0&&decide (args.length<=16)&&gg args):=rfl;refine⟨fun h=>ab ((hv m2 aY).mono ?_),fun h=>⟨aY,?_⟩⟩
   ·clear hv;rintro r H' m3 bI ⟨lx,rfl,rfl⟩;simp only[go_sem];refine⟨aa aY lx,?_⟩;rw[e0,h.1,eF (by omega:args.length<=16),Hj];rfl
   ·clear hv;rw[e0];rcases h with h |h
    ·rw[h];rfl
    ·rw[di (by omega:¬args.length<=16),Bool.and_false];rfl
theorem V7 (e:Ex) (cs:List Value) (m:Mem) (hg:Glob m) (he:bJ m e cs):aJ 232 [.v (.agg ⟨cs⟩)] m (.bool (mR e)):=by
 have hV:=p6 _ e cs m (au _) hg he;cases e with
 |mk k n s c ty args=>
  obtain⟨x,rfl,rfl,rfl,rfl,rfl,rfl,hl,bg,hn,xs,hr,eE⟩:=qZ he;refine enter gP aB Tryz.func232 rfl rfl (by kernel_rfl) rfl ?_ ?_
  ·simp only[go_sem,Nd.cs]
  ·simp only[go_sem,Nd.cs];refine⟨fun e0=>⟨fun _=>ab ((aQ hV (fun V=>rfl)).mono ?_),fun n=>absurd e0 n⟩,fun n0=>⟨fun e1=>⟨fun _=>ab ((aQ hV (fun V=>rfl)).mono ?_),fun n=>absurd e1 n⟩,fun n1=>⟨fun e2=>⟨fun _=>ab ((aQ hV (fun V=>rfl)).mono ?_),fun n=>absurd e2 n⟩,fun n2=>⟨fun e3=>ab ((aQ hV (fun V=>rfl)).mono ?_),fun n3=> ?_⟩⟩⟩⟩
   ·clear hV;rintro r H' m2 aH ⟨aY,rfl,rfl⟩;simp only[go_sem];refine⟨aY,?_⟩;simp [mR,Ex.k,e0]
   ·clear hV;rintro r H' m2 aH ⟨aY,rfl,rfl⟩;simp only[go_sem];refine⟨aY,?_⟩;simp [mR,Ex.k,e1]
   ·clear hV;rintro r H' m2 aH ⟨aY,rfl,rfl⟩;simp only[go_sem];refine⟨aY,?_⟩;simp [mR,Ex.k,e2]
   ·clear hV;rintro r H' m2 aH ⟨aY,rfl,rfl⟩;simp only[go_sem];refine⟨aY,?_⟩;simp [mR,Ex.k,e3]
   ·clear hV;simp [mR,Ex.k,n0,n1,n2,n3]
theorem YQ (e:Ex) (cs:List Value) (m:Mem) (hg:Glob m) (he:bJ m e cs):aJ 233 [.v (.agg ⟨cs⟩)] m (.bool (nh e)):=by
 have hV:=p6 _ e cs m (au _) hg he;cases e with
 |mk k n s c ty args=>
  obtain⟨x,rfl,rfl,rfl,rfl,rfl,rfl,hl,bg,hn,xs,hr,eE⟩:=qZ he;refine enter gP aB Tryz.func233 rfl rfl (by kernel_rfl) rfl ?_ ?_
  ·simp only[go_sem,Nd.cs]
  ·simp only[go_sem,Nd.cs];refine⟨fun e0=>⟨fun _=>ab ((aQ hV (fun V=>rfl)).mono ?_),fun n=>absurd e0 n⟩,fun n0=>⟨fun e1=>⟨fun _=>ab ((aQ hV (fun V=>rfl)).mono ?_),fun n=>absurd e1 n⟩,fun n1=>⟨fun e2=>⟨fun _=>ab ((aQ hV (fun V=>rfl)).mono ?_),fun n=>absurd e2 n⟩,fun n2=>⟨fun e3=>ab ((aQ hV (fun V=>rfl)).mono ?_),fun n3=> ?_⟩⟩⟩⟩
   ·clear hV;rintro r H' m2 aH ⟨aY,rfl,rfl⟩;simp only[go_sem];refine⟨aY,?_⟩;simp [nh,Ex.k,e0]
   ·clear hV;rintro r H' m2 aH ⟨aY,rfl,rfl⟩;simp only[go_sem];refine⟨aY,?_⟩;simp [nh,Ex.k,e1]
   ·clear hV;rintro r H' m2 aH ⟨aY,rfl,rfl⟩;simp only[go_sem];refine⟨aY,?_⟩;simp [nh,Ex.k,e2]
   ·clear hV;rintro r H' m2 aH ⟨aY,rfl,rfl⟩;simp only[go_sem];refine⟨aY,?_⟩;simp [nh,Ex.k,e3]
   ·clear hV;simp [nh,Ex.k,n0,n1,n2,n3]
theorem qX {m:Mem} {k:Int} {nm:List UInt8} {ty:Ty} {tg ex:Ex} {body alt:List St} {cs:List Value} (h:fK m (.mk k nm ty tg ex body alt) cs):
  ∃x:Sd,cs=x.cs/\x.k=k/\x.name=nm/\x.ty=ty/\bJ m tg x.tg.cs/\bJ m ex x.ex.cs/\x.l=body.length/\x.l<=x.cp/\x.l2=alt.length/\x.l2<=x.cp2/\StOk k nm ty body.length alt.length/\∃xs ys,aZ m x.a x.l 23 xs/\aZ m x.b x.l2 23 ys/\bZ m body xs/\bZ m alt ys:=by
 simp only[fK] at h;obtain⟨x,⟨h1,h2,h3,h4⟩,h5,h6,⟨h7,h8,h9,G3⟩,tX,xs,ys,h12,Vm,h14,h15⟩:=h;exact⟨x,h1,h2,h3,h4,h5,h6,h7,h8,h9,G3,tX,xs,ys,h12,Vm,h14,h15⟩
theorem HS (sup:Bool) (l:List St) (a:Option Addr) (n c:Nat) (xs:List Value) (m:Mem) (hl:n=l.length) (hr:aZ m a n 23 xs) (hs:bZ m l xs) (hn:n<=av)
  (hV:∀e∈l,∀cs m',ae m m' ->fK m' e cs->aJ 201 [.v (.agg ⟨cs⟩)] m' (.bool (fv e))):
  aJ 142 [.v (.slice a n c),.v (.bool sup)] m (.bool (decide (l.length<=32)&&b9 sup l)):=by
 refine aR aB Tryz.func142 ?_
 ·simp only[go_sem];refine⟨fun h=> ?_,fun h=> ?_⟩
  ·rw[di (by clear hV;omega)];rfl
  ·have hE:(decide (l.length<=32)&&b9 sup l)=b9 sup l:=by rw[eF (by clear hV;omega)];rfl
   rw[hE];clear hE;refine du aB (fun x:Nat×Mem=>⟨[⟨1,[],.v (.bool sup)⟩,⟨10,[],.v (.slice a n c)⟩,⟨11,[],.v (.int .i64 n)⟩,⟨12,[],.v (.int .i64 x.1)⟩],[],[],[],0,x.2⟩)
    (fun x=>ae m x.2/\x.1<=n/\b9 sup (l.take x.1)=true) (fun x=>n - x.1) (0,m) (fun _ _=>au _) (fun x hx=>hx.1) ?_ ?_ ?_
   ·simp only[go_sem];rfl
   ·exact⟨.inl rfl,aG _,by simp [b9]⟩
   ·rintro⟨k,mm⟩ ⟨h1,h2,h3⟩;simp only at h1 h2 h3;have hy:∀(hk:k<l.length),∃X:Sd,(Rd mm (cM a (k * 23)) X.cs/\a≠none)/\X.k=l[k].k/\aJ 201 [.v (.agg ⟨X.cs⟩)] mm (.bool (fv l[k])):=fun hk=>by
     have aT:=sL h1 (qc hs hk);have LB:∃X:Sd,(xs.drop (k * 23)).take 23=X.cs/\X.k=l[k].k:=by
      cases lE:l[k] with
      |mk k' nm ty tg ex body alt=>
       rw[lE] at aT;obtain⟨X,e1,e2,_⟩:=qX aT;exact⟨X,e1,e2⟩
     obtain⟨X,e1,e2⟩:=LB;have r1:=dA (ax h1 hr) (by omega:k<n);rw[e1] at r1 aT;exact⟨X,r1,e2,hV _ (List.getElem_mem hk) _ _ h1 aT⟩
    clear hV;simp only[go_sem];refine⟨fun ay=> ?_,fun cg=>⟨h1,?_⟩⟩
    ·have hk:k<l.length:=by clear hy;omega
     refine Exists.elim (hy hk) fun X br=>⟨⟨by clear hy br;omega,ay,br.1.2⟩,X.cs,⟨br.1.1,rfl⟩,?_⟩
     clear hy;have iM:=br.2.1;have ha:=br.2.2;clear br;simp only[go_sem,Sd.cs,Nd.cs];refine⟨fun hc=>ab ((aQ ha (fun V=>rfl)).mono ?_),fun hc=>⟨h1,?_⟩⟩
     ·clear ha;have hb:oP sup k l[k]=fv l[k]:=by
       rw[iM] at hc;rcases hc with hc |hc
       ·simp [oP,hc]
       ·have:k=0:=by omega
        simp [oP,hc.1,this]
      rintro r H' m2 aH ⟨aY,rfl,rfl⟩;simp only[go_sem];refine⟨fun hv=>⟨aa h1 aY,?_⟩,fun hv=>⟨by unfold aF;simp only[av] at hn;omega,(k+1,m2),⟨by simp,.inl rfl⟩,⟨aa h1 aY,by simp only;omega,?_⟩,by simp only;omega⟩⟩
      ·rw[DY hk (by rw[hb];exact hv)]
      ·simp only;rw[DP hk,h3,hb,hv];rfl
     ·clear ha;rw[iM] at hc;rw[DY hk];rcases hc.2 with h0 |h0
      ·simp [oP,hc.1,h0]
      ·have:¬k=0:=by omega
       simp [oP,hc.1,this]
    ·have:k=n:=by clear hy;omega
     rw[fi (by clear hy;omega)] at h3;rw[h3]
def bk:Nd:=⟨0,0,[],[],ai,none,0,0⟩
theorem mT {m:Mem} {sz:Nat}:aZ m none 0 sz []:=⟨by simp,fun h=>absurd h (Nat.lt_irrefl _)⟩
theorem tf:nY ai:=⟨by unfold aF;decide,by decide,by decide⟩
theorem iC {m:Mem}:bJ m zE bk.cs:=by
 simp only[zE,bJ];exact⟨none,0,[],rfl,au _,mT,⟨by unfold aF;decide,by unfold aF;decide,by decide,by decide,tf,by decide⟩,by simp only[dY]⟩
theorem kd {m:Mem} (U:Sd) {tg ex:Ex} {body alt:List St} {xs ys:List Value} (df:bJ m tg U.tg.cs) (hex:bJ m ex U.ex.cs) (hl:U.l=body.length) (bg:U.l<=U.cp) (ck:U.l2=alt.length) (ea:U.l2<=U.cp2) (ar:StOk U.k U.name U.ty body.length alt.length)
  (r1:aZ m U.a U.l 23 xs) (r2:aZ m U.b U.l2 23 ys) (s1:bZ m body xs) (s2:bZ m alt ys):fK m (.mk U.k U.name U.ty tg ex body alt) U.cs:=by
 simp only[fK];exact⟨U,⟨rfl,rfl,rfl,rfl⟩,df,hex,⟨hl,bg,ck,ea⟩,ar,xs,ys,r1,r2,s1,s2⟩
theorem zN {x y:Nd} (h:x.cs=y.cs):x=y:=by
 obtain⟨k,n,s,c,⟨d,b,nm⟩,a,l,cp⟩:=x;obtain⟨k',n',s',c',⟨d',b',fP⟩,a',l',cp'⟩:=y;simp only[Nd.cs,List.cons.injEq,Value.int.injEq,Value.string.injEq,Value.slice.injEq,and_true,true_and] at h;obtain⟨h1,h2,h3,h4,h5,h6,h7,h8,h9,G3⟩:=h;rw[h1,h2,zQ h3,zQ h4,h5,h6,zQ h7,h8,h9,G3]
theorem aaP {m:Mem} {e:Ex} {x:Nd} (h:bJ m e x.cs) (m' :Mem):aJ 234 [.v (.agg ⟨x.cs⟩)] m' (.bool (jj e)):=by
 cases e with
 |mk k n s c ty args=>
  obtain⟨y,hy,h1,h2,h3,h4,h5,h6,_⟩:=qZ h;have:=NH x m';rw[zN hy] at this ⊢;rw[h1,h2,h3,h4,h5,h6] at this;exact this
theorem nA {m:Mem}:bZ m [] []:=by simp only[bZ]
theorem ah3 (nm:List UInt8) (ty:Ty) (tN eN:Nd) (a:Option Addr) (l cp:Nat) (b:Option Addr) (l2 cp2:Nat) (tg ex:Ex) (body alt:List St) (xs ys:List Value) (m:Mem) (hg:Glob m)
  (df:bJ m tg tN.cs) (hex:bJ m ex eN.cs) (hl:l=body.length) (bg:l<=cp) (ck:l2=alt.length) (ea:l2<=cp2) (ar:StOk 1 nm ty body.length alt.length) (r1:aZ m a l 23 xs) (r2:aZ m b l2 23 ys) (s1:bZ m body xs) (s2:bZ m alt ys) (B1 B2 B V:Bool)
  (hB:∀m',ae m m' ->aJ 142 [.v (.slice a l cp),.v (.bool false)] m' (.bool B1)) (hA:∀m',ae m m' ->aJ 142 [.v (.slice b l2 cp2),.v (.bool false)] m' (.bool B2)) (iz:B=(B1&&B2))
  (e0:V=((dn nm&&dw ty.dim ty.base ty.name&&bG ex)&&dh (St.mk 1 nm ty tg ex body alt) (St.mk 1 nm ty zE ex [] []))):aJ 201 [.v (.agg ⟨Sd.cs ⟨1,nm,ty,tN,eN,a,l,cp,b,l2,cp2⟩⟩)] m (.bool V):=by
 have hQ:∀m',ae m m' ->aJ 236 [.v (.agg ⟨Sd.cs ⟨1,nm,ty,tN,eN,a,l,cp,b,l2,cp2⟩⟩),.v (.agg ⟨Sd.cs ⟨1,nm,ty,bk,eN,none,0,0,none,0,0⟩⟩)] m' (.bool (dh (St.mk 1 nm ty tg ex body alt) (St.mk 1 nm ty zE ex [] []))):=fun m' hle=>
  pf _ _ _ _ _ m' (au _) (kd (m:=m') (⟨1,nm,ty,tN,eN,a,l,cp,b,l2,cp2⟩:Sd) (bw hle df) (bw hle hex) hl bg ck ea ar (ax hle r1) (ax hle r2) (dp hle s1) (dp hle s2))
   (kd (m:=m') (⟨1,nm,ty,bk,eN,none,0,0,none,0,0⟩:Sd) iC (bw hle hex) rfl (au _) rfl (au _) ⟨ar.k,ar.nm,ar.ty,aG _,aG _⟩ mT mT nA nA)
 have Gk:BL nm:=cZ ar.nm (by decide);have Gj:BL ty.name:=cZ ar.ty.2.2 (by decide);have hX:=fun m' (hle:ae m m')=>p6 _ ex eN.cs m' (au _) (hg.upM hle) (bw hle hex)
 clear s1 s2 r1 r2;refine enter pX pP Tryz.func201 rfl rfl (by kernel_rfl) rfl ?_ ?_
 ·simp only[go_sem,Sd.cs,Nd.cs,bk,ai,Int.reduceEq,ao,aq]
 ·simp only[go_sem,Sd.cs,Nd.cs,bk,ai,Int.reduceEq,ao,aq];refine ab ((hB m (.inl rfl)).mono ?_);clear hB;rintro r H' m1 aN ⟨l1,rfl,rfl⟩;simp only[go_sem,Sd.cs,Nd.cs,bk,ai,Int.reduceEq,ao,aq];refine⟨fun b1=>ab ((hA m1 l1).mono ?_),fun b1=> ?_⟩
  ·clear hA;rintro r H' m2 aH ⟨dS,rfl,rfl⟩;have cX:=aa l1 dS;simp only[go_sem,Sd.cs,Nd.cs,bk,ai,Int.reduceEq,ao,aq];refine⟨Gk,fun _=>Gj,fun c=> ?_,fun c=> ?_⟩
   ·refine ab ((aQ (hX m2 cX) (fun V=>rfl)).mono ?_);clear hX;rintro r H' w1 tL ⟨eC,rfl,rfl⟩;simp only[go_sem,Sd.cs,Nd.cs,bk,ai,Int.reduceEq,ao,aq];refine⟨fun c1=> ?_,fun c1=> ?_⟩
    ·refine ab ((aQ (hQ w1 (aa cX eC)) (fun V=>rfl)).mono ?_);clear hQ;rintro r H' w2 tK ⟨kH,rfl,rfl⟩;simp only[go_sem,Sd.cs,Nd.cs,bk,ai,Int.reduceEq,ao,aq];refine⟨aa (aa cX eC) kH,?_⟩;rw[e0,c.1,c.2,c1];rfl
    ·refine⟨(aa cX eC),?_⟩;rw[e0,c.1,c.2,c1];rfl
   ·refine⟨cX,?_⟩;rw[e0];rcases c with c |c<;>simp [c]
  ·clear hA;refine⟨Gk,fun _=>Gj,fun c=> ?_,fun c=> ?_⟩
   ·refine ab ((aQ (hX m1 l1) (fun V=>rfl)).mono ?_);clear hX;rintro r H' w3 mL ⟨lz,rfl,rfl⟩;simp only[go_sem,Sd.cs,Nd.cs,bk,ai,Int.reduceEq,ao,aq];refine⟨fun c3=> ?_,fun c3=> ?_⟩
    ·refine ab ((aQ (hQ w3 (aa l1 lz)) (fun V=>rfl)).mono ?_);clear hQ;rintro r H' w4 kr ⟨n7,rfl,rfl⟩;simp only[go_sem,Sd.cs,Nd.cs,bk,ai,Int.reduceEq,ao,aq];refine⟨aa (aa l1 lz) n7,?_⟩;rw[e0,c.1,c.2,c3];rfl
    ·refine⟨(aa l1 lz),?_⟩;rw[e0,c.1,c.2,c3];rfl
   ·refine⟨l1,?_⟩;rw[e0];rcases c with c |c<;>simp [c]
theorem ah2 (nm:List UInt8) (ty:Ty) (tN eN:Nd) (a:Option Addr) (l cp:Nat) (b:Option Addr) (l2 cp2:Nat) (tg ex:Ex) (body alt:List St) (xs ys:List Value) (m:Mem) (hg:Glob m)
  (df:bJ m tg tN.cs) (hex:bJ m ex eN.cs) (hl:l=body.length) (bg:l<=cp) (ck:l2=alt.length) (ea:l2<=cp2) (ar:StOk 2 nm ty body.length alt.length) (r1:aZ m a l 23 xs) (r2:aZ m b l2 23 ys) (s1:bZ m body xs) (s2:bZ m alt ys) (B1 B2 B V:Bool)
  (hB:∀m',ae m m' ->aJ 142 [.v (.slice a l cp),.v (.bool false)] m' (.bool B1)) (hA:∀m',ae m m' ->aJ 142 [.v (.slice b l2 cp2),.v (.bool false)] m' (.bool B2)) (iz:B=(B1&&B2))
  (e0:V=((mR tg&&bG ex)&&dh (St.mk 2 nm ty tg ex body alt) (St.mk 2 [] ai tg ex [] []))):aJ 201 [.v (.agg ⟨Sd.cs ⟨2,nm,ty,tN,eN,a,l,cp,b,l2,cp2⟩⟩)] m (.bool V):=by
 have hQ:∀m',ae m m' ->aJ 236 [.v (.agg ⟨Sd.cs ⟨2,nm,ty,tN,eN,a,l,cp,b,l2,cp2⟩⟩),.v (.agg ⟨Sd.cs ⟨2,[],ai,tN,eN,none,0,0,none,0,0⟩⟩)] m' (.bool (dh (St.mk 2 nm ty tg ex body alt) (St.mk 2 [] ai tg ex [] []))):=fun m' hle=>
  pf _ _ _ _ _ m' (au _) (kd (m:=m') (⟨2,nm,ty,tN,eN,a,l,cp,b,l2,cp2⟩:Sd) (bw hle df) (bw hle hex) hl bg ck ea ar (ax hle r1) (ax hle r2) (dp hle s1) (dp hle s2))
   (kd (m:=m') (⟨2,[],ai,tN,eN,none,0,0,none,0,0⟩:Sd) (bw hle df) (bw hle hex) rfl (au _) rfl (au _) ⟨ar.k,aG _,tf,aG _,aG _⟩ mT mT nA nA)
 have hX:=fun m' (hle:ae m m')=>p6 _ ex eN.cs m' (au _) (hg.upM hle) (bw hle hex)
 have hT:=fun m' (hle:ae m m')=>V7 tg tN.cs m' (hg.upM hle) (bw hle df)
 clear s1 s2 r1 r2;refine enter pX pP Tryz.func201 rfl rfl (by kernel_rfl) rfl ?_ ?_
 ·simp only[go_sem,Sd.cs,Nd.cs,bk,ai,Int.reduceEq,ao,aq]
 ·simp only[go_sem,Sd.cs,Nd.cs,bk,ai,Int.reduceEq,ao,aq];refine ab ((hB m (.inl rfl)).mono ?_);clear hB;rintro r H' m1 aN ⟨l1,rfl,rfl⟩;simp only[go_sem,Sd.cs,Nd.cs,bk,ai,Int.reduceEq,ao,aq];refine⟨fun b1=>ab ((hA m1 l1).mono ?_),fun b1=> ?_⟩
  ·clear hA;rintro r H' m2 aH ⟨dS,rfl,rfl⟩;have cX:=aa l1 dS;simp only[go_sem,Sd.cs,Nd.cs,bk,ai,Int.reduceEq,ao,aq];refine ab ((aQ (hT m2 cX) (fun V=>rfl)).mono ?_);clear hT;rintro r H' w1 tL ⟨eC,rfl,rfl⟩;simp only[go_sem,Sd.cs,Nd.cs,bk,ai,Int.reduceEq,ao,aq];refine⟨fun c=> ?_,fun c=> ?_⟩
   ·refine ab ((aQ (hX w1 (aa cX eC)) (fun V=>rfl)).mono ?_);clear hX;rintro r H' w2 tK ⟨kH,rfl,rfl⟩;simp only[go_sem,Sd.cs,Nd.cs,bk,ai,Int.reduceEq,ao,aq];refine⟨fun c2=> ?_,fun c2=> ?_⟩
    ·refine ab ((aQ (hQ w2 (aa (aa cX eC) kH)) (fun V=>rfl)).mono ?_);clear hQ;rintro r H' w3 mL ⟨lz,rfl,rfl⟩;simp only[go_sem,Sd.cs,Nd.cs,bk,ai,Int.reduceEq,ao,aq];refine⟨aa (aa (aa cX eC) kH) lz,?_⟩;rw[e0,c,c2];rfl
    ·refine⟨(aa (aa cX eC) kH),?_⟩;rw[e0,c,c2];rfl
   ·refine⟨(aa cX eC),?_⟩;rw[e0,c];rfl
  ·clear hA;refine ab ((aQ (hT m1 l1) (fun V=>rfl)).mono ?_);clear hT;rintro r H' w4 kr ⟨n7,rfl,rfl⟩;simp only[go_sem,Sd.cs,Nd.cs,bk,ai,Int.reduceEq,ao,aq];refine⟨fun c=> ?_,fun c=> ?_⟩
   ·refine ab ((aQ (hX w4 (aa l1 n7)) (fun V=>rfl)).mono ?_);clear hX;rintro r H' w5 se ⟨tH,rfl,rfl⟩;simp only[go_sem,Sd.cs,Nd.cs,bk,ai,Int.reduceEq,ao,aq];refine⟨fun c5=> ?_,fun c5=> ?_⟩
    ·refine ab ((aQ (hQ w5 (aa (aa l1 n7) tH)) (fun V=>rfl)).mono ?_);clear hQ;rintro r H' w6 qF ⟨Da,rfl,rfl⟩;simp only[go_sem,Sd.cs,Nd.cs,bk,ai,Int.reduceEq,ao,aq];refine⟨aa (aa (aa l1 n7) tH) Da,?_⟩;rw[e0,c,c5];rfl
    ·refine⟨(aa (aa l1 n7) tH),?_⟩;rw[e0,c,c5];rfl
   ·refine⟨(aa l1 n7),?_⟩;rw[e0,c];rfl
theorem ah1 (nm:List UInt8) (ty:Ty) (tN eN:Nd) (a:Option Addr) (l cp:Nat) (b:Option Addr) (l2 cp2:Nat) (tg ex:Ex) (body alt:List St) (xs ys:List Value) (m:Mem) (hg:Glob m)
  (df:bJ m tg tN.cs) (hex:bJ m ex eN.cs) (hl:l=body.length) (bg:l<=cp) (ck:l2=alt.length) (ea:l2<=cp2) (ar:StOk 3 nm ty body.length alt.length) (r1:aZ m a l 23 xs) (r2:aZ m b l2 23 ys) (s1:bZ m body xs) (s2:bZ m alt ys) (B1 B2 B V:Bool)
  (hB:∀m',ae m m' ->aJ 142 [.v (.slice a l cp),.v (.bool false)] m' (.bool B1)) (hA:∀m',ae m m' ->aJ 142 [.v (.slice b l2 cp2),.v (.bool false)] m' (.bool B2)) (iz:B=(B1&&B2))
  (e0:V=(nh ex&&dh (St.mk 3 nm ty tg ex body alt) (St.mk 3 [] ai zE ex [] []))):aJ 201 [.v (.agg ⟨Sd.cs ⟨3,nm,ty,tN,eN,a,l,cp,b,l2,cp2⟩⟩)] m (.bool V):=by
 have hQ:∀m',ae m m' ->aJ 236 [.v (.agg ⟨Sd.cs ⟨3,nm,ty,tN,eN,a,l,cp,b,l2,cp2⟩⟩),.v (.agg ⟨Sd.cs ⟨3,[],ai,bk,eN,none,0,0,none,0,0⟩⟩)] m' (.bool (dh (St.mk 3 nm ty tg ex body alt) (St.mk 3 [] ai zE ex [] []))):=fun m' hle=>
  pf _ _ _ _ _ m' (au _) (kd (m:=m') (⟨3,nm,ty,tN,eN,a,l,cp,b,l2,cp2⟩:Sd) (bw hle df) (bw hle hex) hl bg ck ea ar (ax hle r1) (ax hle r2) (dp hle s1) (dp hle s2))
   (kd (m:=m') (⟨3,[],ai,bk,eN,none,0,0,none,0,0⟩:Sd) iC (bw hle hex) rfl (au _) rfl (au _) ⟨ar.k,aG _,tf,aG _,aG _⟩ mT mT nA nA)
 have hX:=fun m' (hle:ae m m')=>YQ ex eN.cs m' (hg.upM hle) (bw hle hex)
 clear s1 s2 r1 r2;refine enter pX pP Tryz.func201 rfl rfl (by kernel_rfl) rfl ?_ ?_
 ·simp only[go_sem,Sd.cs,Nd.cs,bk,ai,Int.reduceEq,ao,aq]
 ·simp only[go_sem,Sd.cs,Nd.cs,bk,ai,Int.reduceEq,ao,aq];refine ab ((hB m (.inl rfl)).mono ?_);clear hB;rintro r H' m1 aN ⟨l1,rfl,rfl⟩;simp only[go_sem,Sd.cs,Nd.cs,bk,ai,Int.reduceEq,ao,aq];refine⟨fun b1=>ab ((hA m1 l1).mono ?_),fun b1=> ?_⟩
  ·clear hA;rintro r H' m2 aH ⟨dS,rfl,rfl⟩;have cX:=aa l1 dS;simp only[go_sem,Sd.cs,Nd.cs,bk,ai,Int.reduceEq,ao,aq];refine ab ((aQ (hX m2 cX) (fun V=>rfl)).mono ?_);clear hX;rintro r H' w1 tL ⟨eC,rfl,rfl⟩;simp only[go_sem,Sd.cs,Nd.cs,bk,ai,Int.reduceEq,ao,aq];refine⟨fun c1=> ?_,fun c1=> ?_⟩
   ·refine ab ((aQ (hQ w1 (aa cX eC)) (fun V=>rfl)).mono ?_);clear hQ;rintro r H' w2 tK ⟨kH,rfl,rfl⟩;simp only[go_sem,Sd.cs,Nd.cs,bk,ai,Int.reduceEq,ao,aq];refine⟨aa (aa cX eC) kH,?_⟩;rw[e0,c1];rfl
   ·refine⟨(aa cX eC),?_⟩;rw[e0,c1];rfl
  ·clear hA;refine ab ((aQ (hX m1 l1) (fun V=>rfl)).mono ?_);clear hX;rintro r H' w3 mL ⟨lz,rfl,rfl⟩;simp only[go_sem,Sd.cs,Nd.cs,bk,ai,Int.reduceEq,ao,aq];refine⟨fun c3=> ?_,fun c3=> ?_⟩
   ·refine ab ((aQ (hQ w3 (aa l1 lz)) (fun V=>rfl)).mono ?_);clear hQ;rintro r H' w4 kr ⟨n7,rfl,rfl⟩;simp only[go_sem,Sd.cs,Nd.cs,bk,ai,Int.reduceEq,ao,aq];refine⟨aa (aa l1 lz) n7,?_⟩;rw[e0,c3];rfl
   ·refine⟨(aa l1 lz),?_⟩;rw[e0,c3];rfl
theorem ah0 (nm:List UInt8) (ty:Ty) (tN eN:Nd) (a:Option Addr) (l cp:Nat) (b:Option Addr) (l2 cp2:Nat) (tg ex:Ex) (body alt:List St) (xs ys:List Value) (m:Mem) (hg:Glob m)
  (df:bJ m tg tN.cs) (hex:bJ m ex eN.cs) (hl:l=body.length) (bg:l<=cp) (ck:l2=alt.length) (ea:l2<=cp2) (ar:StOk 4 nm ty body.length alt.length) (r1:aZ m a l 23 xs) (r2:aZ m b l2 23 ys) (s1:bZ m body xs) (s2:bZ m alt ys) (B1 B2 B V:Bool)
  (hB:∀m',ae m m' ->aJ 142 [.v (.slice a l cp),.v (.bool false)] m' (.bool B1)) (hA:∀m',ae m m' ->aJ 142 [.v (.slice b l2 cp2),.v (.bool false)] m' (.bool B2)) (iz:B=(B1&&B2))
  (e0:V=((B&&bG ex)&&dh (St.mk 4 nm ty tg ex body alt) (St.mk 4 [] ai zE ex body alt))):aJ 201 [.v (.agg ⟨Sd.cs ⟨4,nm,ty,tN,eN,a,l,cp,b,l2,cp2⟩⟩)] m (.bool V):=by
 have hQ:∀m',ae m m' ->aJ 236 [.v (.agg ⟨Sd.cs ⟨4,nm,ty,tN,eN,a,l,cp,b,l2,cp2⟩⟩),.v (.agg ⟨Sd.cs ⟨4,[],ai,bk,eN,a,l,cp,b,l2,cp2⟩⟩)] m' (.bool (dh (St.mk 4 nm ty tg ex body alt) (St.mk 4 [] ai zE ex body alt))):=fun m' hle=>
  pf _ _ _ _ _ m' (au _) (kd (m:=m') (⟨4,nm,ty,tN,eN,a,l,cp,b,l2,cp2⟩:Sd) (bw hle df) (bw hle hex) hl bg ck ea ar (ax hle r1) (ax hle r2) (dp hle s1) (dp hle s2))
   (kd (m:=m') (⟨4,[],ai,bk,eN,a,l,cp,b,l2,cp2⟩:Sd) iC (bw hle hex) hl bg ck ea ⟨ar.k,aG _,tf,ar.l,ar.l2⟩ (ax hle r1) (ax hle r2) (dp hle s1) (dp hle s2))
 have hX:=fun m' (hle:ae m m')=>p6 _ ex eN.cs m' (au _) (hg.upM hle) (bw hle hex)
 clear s1 s2 r1 r2;refine enter pX pP Tryz.func201 rfl rfl (by kernel_rfl) rfl ?_ ?_
 ·simp only[go_sem,Sd.cs,Nd.cs,bk,ai,Int.reduceEq,ao,aq]
 ·simp only[go_sem,Sd.cs,Nd.cs,bk,ai,Int.reduceEq,ao,aq];refine ab ((hB m (.inl rfl)).mono ?_);clear hB;rintro r H' m1 aN ⟨l1,rfl,rfl⟩;simp only[go_sem,Sd.cs,Nd.cs,bk,ai,Int.reduceEq,ao,aq];refine⟨fun b1=>ab ((hA m1 l1).mono ?_),fun b1=> ?_⟩
  ·clear hA;rintro r H' m2 aH ⟨dS,rfl,rfl⟩;have cX:=aa l1 dS;simp only[go_sem,Sd.cs,Nd.cs,bk,ai,Int.reduceEq,ao,aq];refine⟨fun b2=> ?_,fun b2=> ?_⟩
   ·refine ab ((aQ (hX m2 cX) (fun V=>rfl)).mono ?_);clear hX;rintro r H' w1 tL ⟨eC,rfl,rfl⟩;simp only[go_sem,Sd.cs,Nd.cs,bk,ai,Int.reduceEq,ao,aq];refine⟨fun c1=> ?_,fun c1=> ?_⟩
    ·refine ab ((aQ (hQ w1 (aa cX eC)) (fun V=>rfl)).mono ?_);clear hQ;rintro r H' w2 tK ⟨kH,rfl,rfl⟩;simp only[go_sem,Sd.cs,Nd.cs,bk,ai,Int.reduceEq,ao,aq];refine⟨aa (aa cX eC) kH,?_⟩;rw[e0,iz,b1,b2,c1];rfl
    ·refine⟨(aa cX eC),?_⟩;rw[e0,iz,b1,b2,c1];rfl
   ·refine⟨cX,?_⟩;rw[e0,iz,b1,b2];rfl
  ·clear hA;refine⟨l1,?_⟩;rw[e0,iz,b1];rfl
theorem ahZ (nm:List UInt8) (ty:Ty) (tN eN:Nd) (a:Option Addr) (l cp:Nat) (b:Option Addr) (l2 cp2:Nat) (tg ex:Ex) (body alt:List St) (xs ys:List Value) (m:Mem) (hg:Glob m)
  (df:bJ m tg tN.cs) (hex:bJ m ex eN.cs) (hl:l=body.length) (bg:l<=cp) (ck:l2=alt.length) (ea:l2<=cp2) (ar:StOk 5 nm ty body.length alt.length) (r1:aZ m a l 23 xs) (r2:aZ m b l2 23 ys) (s1:bZ m body xs) (s2:bZ m alt ys) (B1 B2 B V:Bool)
  (hB:∀m',ae m m' ->aJ 142 [.v (.slice a l cp),.v (.bool false)] m' (.bool B1)) (hA:∀m',ae m m' ->aJ 142 [.v (.slice b l2 cp2),.v (.bool false)] m' (.bool B2)) (iz:B=(B1&&B2))
  (e0:V=((B&&bG ex)&&dh (St.mk 5 nm ty tg ex body alt) (St.mk 5 [] ai zE ex body []))):aJ 201 [.v (.agg ⟨Sd.cs ⟨5,nm,ty,tN,eN,a,l,cp,b,l2,cp2⟩⟩)] m (.bool V):=by
 have hQ:∀m',ae m m' ->aJ 236 [.v (.agg ⟨Sd.cs ⟨5,nm,ty,tN,eN,a,l,cp,b,l2,cp2⟩⟩),.v (.agg ⟨Sd.cs ⟨5,[],ai,bk,eN,a,l,cp,none,0,0⟩⟩)] m' (.bool (dh (St.mk 5 nm ty tg ex body alt) (St.mk 5 [] ai zE ex body []))):=fun m' hle=>
  pf _ _ _ _ _ m' (au _) (kd (m:=m') (⟨5,nm,ty,tN,eN,a,l,cp,b,l2,cp2⟩:Sd) (bw hle df) (bw hle hex) hl bg ck ea ar (ax hle r1) (ax hle r2) (dp hle s1) (dp hle s2))
   (kd (m:=m') (⟨5,[],ai,bk,eN,a,l,cp,none,0,0⟩:Sd) iC (bw hle hex) hl bg rfl (au _) ⟨ar.k,aG _,tf,ar.l,aG _⟩ (ax hle r1) mT (dp hle s1) nA)
 have hX:=fun m' (hle:ae m m')=>p6 _ ex eN.cs m' (au _) (hg.upM hle) (bw hle hex)
 clear s1 s2 r1 r2;refine enter pX pP Tryz.func201 rfl rfl (by kernel_rfl) rfl ?_ ?_
 ·simp only[go_sem,Sd.cs,Nd.cs,bk,ai,Int.reduceEq,ao,aq]
 ·simp only[go_sem,Sd.cs,Nd.cs,bk,ai,Int.reduceEq,ao,aq];refine ab ((hB m (.inl rfl)).mono ?_);clear hB;rintro r H' m1 aN ⟨l1,rfl,rfl⟩;simp only[go_sem,Sd.cs,Nd.cs,bk,ai,Int.reduceEq,ao,aq];refine⟨fun b1=>ab ((hA m1 l1).mono ?_),fun b1=> ?_⟩
  ·clear hA;rintro r H' m2 aH ⟨dS,rfl,rfl⟩;have cX:=aa l1 dS;simp only[go_sem,Sd.cs,Nd.cs,bk,ai,Int.reduceEq,ao,aq];refine⟨fun b2=> ?_,fun b2=> ?_⟩
   ·refine ab ((aQ (hX m2 cX) (fun V=>rfl)).mono ?_);clear hX;rintro r H' w1 tL ⟨eC,rfl,rfl⟩;simp only[go_sem,Sd.cs,Nd.cs,bk,ai,Int.reduceEq,ao,aq];refine⟨fun c1=> ?_,fun c1=> ?_⟩
    ·refine ab ((aQ (hQ w1 (aa cX eC)) (fun V=>rfl)).mono ?_);clear hQ;rintro r H' w2 tK ⟨kH,rfl,rfl⟩;simp only[go_sem,Sd.cs,Nd.cs,bk,ai,Int.reduceEq,ao,aq];refine⟨aa (aa cX eC) kH,?_⟩;rw[e0,iz,b1,b2,c1];rfl
    ·refine⟨(aa cX eC),?_⟩;rw[e0,iz,b1,b2,c1];rfl
   ·refine⟨cX,?_⟩;rw[e0,iz,b1,b2];rfl
  ·clear hA;refine⟨l1,?_⟩;rw[e0,iz,b1];rfl
theorem ahY (nm:List UInt8) (ty:Ty) (tN eN:Nd) (a:Option Addr) (l cp:Nat) (b:Option Addr) (l2 cp2:Nat) (tg ex:Ex) (body alt:List St) (xs ys:List Value) (m:Mem) (hg:Glob m)
  (df:bJ m tg tN.cs) (hex:bJ m ex eN.cs) (hl:l=body.length) (bg:l<=cp) (ck:l2=alt.length) (ea:l2<=cp2) (ar:StOk 6 nm ty body.length alt.length) (r1:aZ m a l 23 xs) (r2:aZ m b l2 23 ys) (s1:bZ m body xs) (s2:bZ m alt ys) (B1 B2 B V:Bool)
  (hB:∀m',ae m m' ->aJ 142 [.v (.slice a l cp),.v (.bool false)] m' (.bool B1)) (hA:∀m',ae m m' ->aJ 142 [.v (.slice b l2 cp2),.v (.bool false)] m' (.bool B2)) (iz:B=(B1&&B2))
  (e0:V=((jj ex||bG ex)&&dh (St.mk 6 nm ty tg ex body alt) (St.mk 6 [] ai zE ex [] []))):aJ 201 [.v (.agg ⟨Sd.cs ⟨6,nm,ty,tN,eN,a,l,cp,b,l2,cp2⟩⟩)] m (.bool V):=by
 have hQ:∀m',ae m m' ->aJ 236 [.v (.agg ⟨Sd.cs ⟨6,nm,ty,tN,eN,a,l,cp,b,l2,cp2⟩⟩),.v (.agg ⟨Sd.cs ⟨6,[],ai,bk,eN,none,0,0,none,0,0⟩⟩)] m' (.bool (dh (St.mk 6 nm ty tg ex body alt) (St.mk 6 [] ai zE ex [] []))):=fun m' hle=>
  pf _ _ _ _ _ m' (au _) (kd (m:=m') (⟨6,nm,ty,tN,eN,a,l,cp,b,l2,cp2⟩:Sd) (bw hle df) (bw hle hex) hl bg ck ea ar (ax hle r1) (ax hle r2) (dp hle s1) (dp hle s2))
   (kd (m:=m') (⟨6,[],ai,bk,eN,none,0,0,none,0,0⟩:Sd) iC (bw hle hex) rfl (au _) rfl (au _) ⟨ar.k,aG _,tf,aG _,aG _⟩ mT mT nA nA)
 have hX:=fun m' (hle:ae m m')=>p6 _ ex eN.cs m' (au _) (hg.upM hle) (bw hle hex)
 have hZ:=fun m' (_:ae m m')=>aaP hex m'
 clear s1 s2 r1 r2;refine enter pX pP Tryz.func201 rfl rfl (by kernel_rfl) rfl ?_ ?_
 ·simp only[go_sem,Sd.cs,Nd.cs,bk,ai,Int.reduceEq,ao,aq]
 ·simp only[go_sem,Sd.cs,Nd.cs,bk,ai,Int.reduceEq,ao,aq];refine ab ((hB m (.inl rfl)).mono ?_);clear hB;rintro r H' m1 aN ⟨l1,rfl,rfl⟩;simp only[go_sem,Sd.cs,Nd.cs,bk,ai,Int.reduceEq,ao,aq];refine⟨fun b1=>ab ((hA m1 l1).mono ?_),fun b1=> ?_⟩
  ·clear hA;rintro r H' m2 aH ⟨dS,rfl,rfl⟩;have cX:=aa l1 dS;simp only[go_sem,Sd.cs,Nd.cs,bk,ai,Int.reduceEq,ao,aq];refine ab ((aQ (hZ m2 cX) (fun V=>rfl)).mono ?_);clear hZ;rintro r H' w1 tL ⟨eC,rfl,rfl⟩;simp only[go_sem,Sd.cs,Nd.cs,bk,ai,Int.reduceEq,ao,aq];refine⟨fun c=> ?_,fun c=> ?_⟩
   ·refine ab ((aQ (hX w1 (aa cX eC)) (fun V=>rfl)).mono ?_);clear hX;rintro r H' w2 tK ⟨kH,rfl,rfl⟩;simp only[go_sem,Sd.cs,Nd.cs,bk,ai,Int.reduceEq,ao,aq];refine⟨fun c2=> ?_,fun c2=> ?_⟩
    ·refine ab ((aQ (hQ w2 (aa (aa cX eC) kH)) (fun V=>rfl)).mono ?_);clear hQ;rintro r H' w3 mL ⟨lz,rfl,rfl⟩;simp only[go_sem,Sd.cs,Nd.cs,bk,ai,Int.reduceEq,ao,aq];refine⟨aa (aa (aa cX eC) kH) lz,?_⟩;rw[e0,c,c2];rfl
    ·refine⟨(aa (aa cX eC) kH),?_⟩;rw[e0,c,c2];rfl
   ·refine ab ((aQ (hQ w1 (aa cX eC)) (fun V=>rfl)).mono ?_);clear hQ;rintro r H' w4 kr ⟨n7,rfl,rfl⟩;simp only[go_sem,Sd.cs,Nd.cs,bk,ai,Int.reduceEq,ao,aq];refine⟨aa (aa cX eC) n7,?_⟩;rw[e0,c];rfl
  ·clear hA;refine ab ((aQ (hZ m1 l1) (fun V=>rfl)).mono ?_);clear hZ;rintro r H' w5 se ⟨tH,rfl,rfl⟩;simp only[go_sem,Sd.cs,Nd.cs,bk,ai,Int.reduceEq,ao,aq];refine⟨fun c=> ?_,fun c=> ?_⟩
   ·refine ab ((aQ (hX w5 (aa l1 tH)) (fun V=>rfl)).mono ?_);clear hX;rintro r H' w6 qF ⟨Da,rfl,rfl⟩;simp only[go_sem,Sd.cs,Nd.cs,bk,ai,Int.reduceEq,ao,aq];refine⟨fun c6=> ?_,fun c6=> ?_⟩
    ·refine ab ((aQ (hQ w6 (aa (aa l1 tH) Da)) (fun V=>rfl)).mono ?_);clear hQ;rintro r H' w7 GD ⟨lw7,rfl,rfl⟩;simp only[go_sem,Sd.cs,Nd.cs,bk,ai,Int.reduceEq,ao,aq];refine⟨aa (aa (aa l1 tH) Da) lw7,?_⟩;rw[e0,c,c6];rfl
    ·refine⟨(aa (aa l1 tH) Da),?_⟩;rw[e0,c,c6];rfl
   ·refine ab ((aQ (hQ w5 (aa l1 tH)) (fun V=>rfl)).mono ?_);clear hQ;rintro r H' w8 qE ⟨lw8,rfl,rfl⟩;simp only[go_sem,Sd.cs,Nd.cs,bk,ai,Int.reduceEq,ao,aq];refine⟨aa (aa l1 tH) lw8,?_⟩;rw[e0,c];rfl
theorem ahX (nm:List UInt8) (ty:Ty) (tN eN:Nd) (a:Option Addr) (l cp:Nat) (b:Option Addr) (l2 cp2:Nat) (tg ex:Ex) (body alt:List St) (xs ys:List Value) (m:Mem) (hg:Glob m)
  (df:bJ m tg tN.cs) (hex:bJ m ex eN.cs) (hl:l=body.length) (bg:l<=cp) (ck:l2=alt.length) (ea:l2<=cp2) (ar:StOk 7 nm ty body.length alt.length) (r1:aZ m a l 23 xs) (r2:aZ m b l2 23 ys) (s1:bZ m body xs) (s2:bZ m alt ys) (B1 B2 B V:Bool)
  (hB:∀m',ae m m' ->aJ 142 [.v (.slice a l cp),.v (.bool false)] m' (.bool B1)) (hA:∀m',ae m m' ->aJ 142 [.v (.slice b l2 cp2),.v (.bool false)] m' (.bool B2)) (iz:B=(B1&&B2))
  (e0:V=(bG ex&&dh (St.mk 7 nm ty tg ex body alt) (St.mk 7 [] ai zE ex [] []))):aJ 201 [.v (.agg ⟨Sd.cs ⟨7,nm,ty,tN,eN,a,l,cp,b,l2,cp2⟩⟩)] m (.bool V):=by
 have hQ:∀m',ae m m' ->aJ 236 [.v (.agg ⟨Sd.cs ⟨7,nm,ty,tN,eN,a,l,cp,b,l2,cp2⟩⟩),.v (.agg ⟨Sd.cs ⟨7,[],ai,bk,eN,none,0,0,none,0,0⟩⟩)] m' (.bool (dh (St.mk 7 nm ty tg ex body alt) (St.mk 7 [] ai zE ex [] []))):=fun m' hle=>
  pf _ _ _ _ _ m' (au _) (kd (m:=m') (⟨7,nm,ty,tN,eN,a,l,cp,b,l2,cp2⟩:Sd) (bw hle df) (bw hle hex) hl bg ck ea ar (ax hle r1) (ax hle r2) (dp hle s1) (dp hle s2))
   (kd (m:=m') (⟨7,[],ai,bk,eN,none,0,0,none,0,0⟩:Sd) iC (bw hle hex) rfl (au _) rfl (au _) ⟨ar.k,aG _,tf,aG _,aG _⟩ mT mT nA nA)
 have hX:=fun m' (hle:ae m m')=>p6 _ ex eN.cs m' (au _) (hg.upM hle) (bw hle hex)
 clear s1 s2 r1 r2;refine enter pX pP Tryz.func201 rfl rfl (by kernel_rfl) rfl ?_ ?_
 ·simp only[go_sem,Sd.cs,Nd.cs,bk,ai,Int.reduceEq,ao,aq]
 ·simp only[go_sem,Sd.cs,Nd.cs,bk,ai,Int.reduceEq,ao,aq];refine ab ((hB m (.inl rfl)).mono ?_);clear hB;rintro r H' m1 aN ⟨l1,rfl,rfl⟩;simp only[go_sem,Sd.cs,Nd.cs,bk,ai,Int.reduceEq,ao,aq];refine⟨fun b1=>ab ((hA m1 l1).mono ?_),fun b1=> ?_⟩
  ·clear hA;rintro r H' m2 aH ⟨dS,rfl,rfl⟩;have cX:=aa l1 dS;simp only[go_sem,Sd.cs,Nd.cs,bk,ai,Int.reduceEq,ao,aq];refine ab ((aQ (hX m2 cX) (fun V=>rfl)).mono ?_);clear hX;rintro r H' w1 tL ⟨eC,rfl,rfl⟩;simp only[go_sem,Sd.cs,Nd.cs,bk,ai,Int.reduceEq,ao,aq];refine⟨fun c1=> ?_,fun c1=> ?_⟩
   ·refine ab ((aQ (hQ w1 (aa cX eC)) (fun V=>rfl)).mono ?_);clear hQ;rintro r H' w2 tK ⟨kH,rfl,rfl⟩;simp only[go_sem,Sd.cs,Nd.cs,bk,ai,Int.reduceEq,ao,aq];refine⟨aa (aa cX eC) kH,?_⟩;rw[e0,c1];rfl
   ·refine⟨(aa cX eC),?_⟩;rw[e0,c1];rfl
  ·clear hA;refine ab ((aQ (hX m1 l1) (fun V=>rfl)).mono ?_);clear hX;rintro r H' w3 mL ⟨lz,rfl,rfl⟩;simp only[go_sem,Sd.cs,Nd.cs,bk,ai,Int.reduceEq,ao,aq];refine⟨fun c3=> ?_,fun c3=> ?_⟩
   ·refine ab ((aQ (hQ w3 (aa l1 lz)) (fun V=>rfl)).mono ?_);clear hQ;rintro r H' w4 kr ⟨n7,rfl,rfl⟩;simp only[go_sem,Sd.cs,Nd.cs,bk,ai,Int.reduceEq,ao,aq];refine⟨aa (aa l1 lz) n7,?_⟩;rw[e0,c3];rfl
   ·refine⟨(aa l1 lz),?_⟩;rw[e0,c3];rfl
theorem ahW (nm:List UInt8) (ty:Ty) (tN eN:Nd) (a:Option Addr) (l cp:Nat) (b:Option Addr) (l2 cp2:Nat) (tg ex:Ex) (body alt:List St) (xs ys:List Value) (m:Mem) (hg:Glob m)
  (df:bJ m tg tN.cs) (hex:bJ m ex eN.cs) (hl:l=body.length) (bg:l<=cp) (ck:l2=alt.length) (ea:l2<=cp2) (ar:StOk 8 nm ty body.length alt.length) (r1:aZ m a l 23 xs) (r2:aZ m b l2 23 ys) (s1:bZ m body xs) (s2:bZ m alt ys) (B1 B2 B V:Bool)
  (hB:∀m',ae m m' ->aJ 142 [.v (.slice a l cp),.v (.bool false)] m' (.bool B1)) (hA:∀m',ae m m' ->aJ 142 [.v (.slice b l2 cp2),.v (.bool false)] m' (.bool B2)) (iz:B=(B1&&B2))
  (e0:V=((B&&dn nm&&dw ty.dim ty.base ty.name)&&dh (St.mk 8 nm ty tg ex body alt) (St.mk 8 nm ty zE zE body alt))):aJ 201 [.v (.agg ⟨Sd.cs ⟨8,nm,ty,tN,eN,a,l,cp,b,l2,cp2⟩⟩)] m (.bool V):=by
 have hQ:∀m',ae m m' ->aJ 236 [.v (.agg ⟨Sd.cs ⟨8,nm,ty,tN,eN,a,l,cp,b,l2,cp2⟩⟩),.v (.agg ⟨Sd.cs ⟨8,nm,ty,bk,bk,a,l,cp,b,l2,cp2⟩⟩)] m' (.bool (dh (St.mk 8 nm ty tg ex body alt) (St.mk 8 nm ty zE zE body alt))):=fun m' hle=>
  pf _ _ _ _ _ m' (au _) (kd (m:=m') (⟨8,nm,ty,tN,eN,a,l,cp,b,l2,cp2⟩:Sd) (bw hle df) (bw hle hex) hl bg ck ea ar (ax hle r1) (ax hle r2) (dp hle s1) (dp hle s2))
   (kd (m:=m') (⟨8,nm,ty,bk,bk,a,l,cp,b,l2,cp2⟩:Sd) iC iC hl bg ck ea ⟨ar.k,ar.nm,ar.ty,ar.l,ar.l2⟩ (ax hle r1) (ax hle r2) (dp hle s1) (dp hle s2))
 have Gk:BL nm:=cZ ar.nm (by decide);have Gj:BL ty.name:=cZ ar.ty.2.2 (by decide);clear s1 s2 r1 r2;refine enter pX pP Tryz.func201 rfl rfl (by kernel_rfl) rfl ?_ ?_
 ·simp only[go_sem,Sd.cs,Nd.cs,bk,ai,Int.reduceEq,ao,aq]
 ·simp only[go_sem,Sd.cs,Nd.cs,bk,ai,Int.reduceEq,ao,aq];refine ab ((hB m (.inl rfl)).mono ?_);clear hB;rintro r H' m1 aN ⟨l1,rfl,rfl⟩;simp only[go_sem,Sd.cs,Nd.cs,bk,ai,Int.reduceEq,ao,aq];refine⟨fun b1=>ab ((hA m1 l1).mono ?_),fun b1=> ?_⟩
  ·clear hA;rintro r H' m2 aH ⟨dS,rfl,rfl⟩;have cX:=aa l1 dS;simp only[go_sem,Sd.cs,Nd.cs,bk,ai,Int.reduceEq,ao,aq];refine⟨fun _=>Gk,fun _=>Gj,fun c=> ?_,fun c=> ?_⟩
   ·refine ab ((aQ (hQ m2 cX) (fun V=>rfl)).mono ?_);clear hQ;rintro r H' w1 tL ⟨eC,rfl,rfl⟩;simp only[go_sem,Sd.cs,Nd.cs,bk,ai,Int.reduceEq,ao,aq];refine⟨aa cX eC,?_⟩;rw[e0,iz,b1,c.1.1,c.1.2,c.2];rfl
   ·refine⟨cX,?_⟩;rw[e0,iz,b1];rcases c with (c |c) |c<;>simp [c]
  ·clear hA;refine⟨l1,?_⟩;rw[e0,iz,b1];rfl
theorem ahV (nm:List UInt8) (ty:Ty) (tN eN:Nd) (a:Option Addr) (l cp:Nat) (b:Option Addr) (l2 cp2:Nat) (tg ex:Ex) (body alt:List St) (xs ys:List Value) (m:Mem) (hg:Glob m)
  (df:bJ m tg tN.cs) (hex:bJ m ex eN.cs) (hl:l=body.length) (bg:l<=cp) (ck:l2=alt.length) (ea:l2<=cp2) (ar:StOk 9 nm ty body.length alt.length) (r1:aZ m a l 23 xs) (r2:aZ m b l2 23 ys) (s1:bZ m body xs) (s2:bZ m alt ys) (B1 B2 B V:Bool)
  (hB:∀m',ae m m' ->aJ 142 [.v (.slice a l cp),.v (.bool false)] m' (.bool B1)) (hA:∀m',ae m m' ->aJ 142 [.v (.slice b l2 cp2),.v (.bool false)] m' (.bool B2)) (iz:B=(B1&&B2))
  (e0:V=((B&&bG ex)&&dh (St.mk 9 nm ty tg ex body alt) (St.mk 9 [] ai zE ex body []))):aJ 201 [.v (.agg ⟨Sd.cs ⟨9,nm,ty,tN,eN,a,l,cp,b,l2,cp2⟩⟩)] m (.bool V):=by
 have hQ:∀m',ae m m' ->aJ 236 [.v (.agg ⟨Sd.cs ⟨9,nm,ty,tN,eN,a,l,cp,b,l2,cp2⟩⟩),.v (.agg ⟨Sd.cs ⟨9,[],ai,bk,eN,a,l,cp,none,0,0⟩⟩)] m' (.bool (dh (St.mk 9 nm ty tg ex body alt) (St.mk 9 [] ai zE ex body []))):=fun m' hle=>
  pf _ _ _ _ _ m' (au _) (kd (m:=m') (⟨9,nm,ty,tN,eN,a,l,cp,b,l2,cp2⟩:Sd) (bw hle df) (bw hle hex) hl bg ck ea ar (ax hle r1) (ax hle r2) (dp hle s1) (dp hle s2))
   (kd (m:=m') (⟨9,[],ai,bk,eN,a,l,cp,none,0,0⟩:Sd) iC (bw hle hex) hl bg rfl (au _) ⟨ar.k,aG _,tf,ar.l,aG _⟩ (ax hle r1) mT (dp hle s1) nA)
 have hX:=fun m' (hle:ae m m')=>p6 _ ex eN.cs m' (au _) (hg.upM hle) (bw hle hex)
 clear s1 s2 r1 r2;refine enter pX pP Tryz.func201 rfl rfl (by kernel_rfl) rfl ?_ ?_
 ·simp only[go_sem,Sd.cs,Nd.cs,bk,ai,Int.reduceEq,ao,aq]
 ·simp only[go_sem,Sd.cs,Nd.cs,bk,ai,Int.reduceEq,ao,aq];refine ab ((hB m (.inl rfl)).mono ?_);clear hB;rintro r H' m1 aN ⟨l1,rfl,rfl⟩;simp only[go_sem,Sd.cs,Nd.cs,bk,ai,Int.reduceEq,ao,aq];refine⟨fun b1=>ab ((hA m1 l1).mono ?_),fun b1=> ?_⟩
  ·clear hA;rintro r H' m2 aH ⟨dS,rfl,rfl⟩;have cX:=aa l1 dS;simp only[go_sem,Sd.cs,Nd.cs,bk,ai,Int.reduceEq,ao,aq];refine⟨fun b2=> ?_,fun b2=> ?_⟩
   ·refine ab ((aQ (hX m2 cX) (fun V=>rfl)).mono ?_);clear hX;rintro r H' w1 tL ⟨eC,rfl,rfl⟩;simp only[go_sem,Sd.cs,Nd.cs,bk,ai,Int.reduceEq,ao,aq];refine⟨fun c1=> ?_,fun c1=> ?_⟩
    ·refine ab ((aQ (hQ w1 (aa cX eC)) (fun V=>rfl)).mono ?_);clear hQ;rintro r H' w2 tK ⟨kH,rfl,rfl⟩;simp only[go_sem,Sd.cs,Nd.cs,bk,ai,Int.reduceEq,ao,aq];refine⟨aa (aa cX eC) kH,?_⟩;rw[e0,iz,b1,b2,c1];rfl
    ·refine⟨(aa cX eC),?_⟩;rw[e0,iz,b1,b2,c1];rfl
   ·refine⟨cX,?_⟩;rw[e0,iz,b1,b2];rfl
  ·clear hA;refine⟨l1,?_⟩;rw[e0,iz,b1];rfl
theorem afh (nm:List UInt8) (ty:Ty) (tN eN:Nd) (a:Option Addr) (l cp:Nat) (b:Option Addr) (l2 cp2:Nat) (tg ex:Ex) (body alt:List St) (xs ys:List Value) (m:Mem) (hg:Glob m)
  (df:bJ m tg tN.cs) (hex:bJ m ex eN.cs) (hl:l=body.length) (bg:l<=cp) (ck:l2=alt.length) (ea:l2<=cp2) (ar:StOk 10 nm ty body.length alt.length) (r1:aZ m a l 23 xs) (r2:aZ m b l2 23 ys) (s1:bZ m body xs) (s2:bZ m alt ys) (B1 B2 B V:Bool)
  (hB:∀m',ae m m' ->aJ 142 [.v (.slice a l cp),.v (.bool false)] m' (.bool B1)) (hA:∀m',ae m m' ->aJ 142 [.v (.slice b l2 cp2),.v (.bool false)] m' (.bool B2)) (iz:B=(B1&&B2))
  (e0:V=(B&&dh (St.mk 10 nm ty tg ex body alt) (St.mk 10 [] ai zE zE body []))):aJ 201 [.v (.agg ⟨Sd.cs ⟨10,nm,ty,tN,eN,a,l,cp,b,l2,cp2⟩⟩)] m (.bool V):=by
 have hQ:∀m',ae m m' ->aJ 236 [.v (.agg ⟨Sd.cs ⟨10,nm,ty,tN,eN,a,l,cp,b,l2,cp2⟩⟩),.v (.agg ⟨Sd.cs ⟨10,[],ai,bk,bk,a,l,cp,none,0,0⟩⟩)] m' (.bool (dh (St.mk 10 nm ty tg ex body alt) (St.mk 10 [] ai zE zE body []))):=fun m' hle=>
  pf _ _ _ _ _ m' (au _) (kd (m:=m') (⟨10,nm,ty,tN,eN,a,l,cp,b,l2,cp2⟩:Sd) (bw hle df) (bw hle hex) hl bg ck ea ar (ax hle r1) (ax hle r2) (dp hle s1) (dp hle s2))
   (kd (m:=m') (⟨10,[],ai,bk,bk,a,l,cp,none,0,0⟩:Sd) iC iC hl bg rfl (au _) ⟨ar.k,aG _,tf,ar.l,aG _⟩ (ax hle r1) mT (dp hle s1) nA)
 clear s1 s2 r1 r2;refine enter pX pP Tryz.func201 rfl rfl (by kernel_rfl) rfl ?_ ?_
 ·simp only[go_sem,Sd.cs,Nd.cs,bk,ai,Int.reduceEq,ao,aq]
 ·simp only[go_sem,Sd.cs,Nd.cs,bk,ai,Int.reduceEq,ao,aq];refine ab ((hB m (.inl rfl)).mono ?_);clear hB;rintro r H' m1 aN ⟨l1,rfl,rfl⟩;simp only[go_sem,Sd.cs,Nd.cs,bk,ai,Int.reduceEq,ao,aq];refine⟨fun b1=>ab ((hA m1 l1).mono ?_),fun b1=> ?_⟩
  ·clear hA;rintro r H' m2 aH ⟨dS,rfl,rfl⟩;have cX:=aa l1 dS;simp only[go_sem,Sd.cs,Nd.cs,bk,ai,Int.reduceEq,ao,aq];refine⟨fun b2=> ?_,fun b2=> ?_⟩
   ·refine ab ((aQ (hQ m2 cX) (fun V=>rfl)).mono ?_);clear hQ;rintro r H' w1 tL ⟨eC,rfl,rfl⟩;simp only[go_sem,Sd.cs,Nd.cs,bk,ai,Int.reduceEq,ao,aq];refine⟨aa cX eC,?_⟩;rw[e0,iz,b1,b2];rfl
   ·refine⟨cX,?_⟩;rw[e0,iz,b1,b2];rfl
  ·clear hA;refine⟨l1,?_⟩;rw[e0,iz,b1];rfl
theorem afg (nm:List UInt8) (ty:Ty) (tN eN:Nd) (a:Option Addr) (l cp:Nat) (b:Option Addr) (l2 cp2:Nat) (tg ex:Ex) (body alt:List St) (xs ys:List Value) (m:Mem) (hg:Glob m)
  (df:bJ m tg tN.cs) (hex:bJ m ex eN.cs) (hl:l=body.length) (bg:l<=cp) (ck:l2=alt.length) (ea:l2<=cp2) (ar:StOk 11 nm ty body.length alt.length) (r1:aZ m a l 23 xs) (r2:aZ m b l2 23 ys) (s1:bZ m body xs) (s2:bZ m alt ys) (B1 B2 B V:Bool)
  (hB:∀m',ae m m' ->aJ 142 [.v (.slice a l cp),.v (.bool false)] m' (.bool B1)) (hA:∀m',ae m m' ->aJ 142 [.v (.slice b l2 cp2),.v (.bool false)] m' (.bool B2)) (iz:B=(B1&&B2))
  (e0:V=(mW ex&&dh (St.mk 11 nm ty tg ex body alt) (St.mk 11 [] ai zE ex [] []))):aJ 201 [.v (.agg ⟨Sd.cs ⟨11,nm,ty,tN,eN,a,l,cp,b,l2,cp2⟩⟩)] m (.bool V):=by
 have hQ:∀m',ae m m' ->aJ 236 [.v (.agg ⟨Sd.cs ⟨11,nm,ty,tN,eN,a,l,cp,b,l2,cp2⟩⟩),.v (.agg ⟨Sd.cs ⟨11,[],ai,bk,eN,none,0,0,none,0,0⟩⟩)] m' (.bool (dh (St.mk 11 nm ty tg ex body alt) (St.mk 11 [] ai zE ex [] []))):=fun m' hle=>
  pf _ _ _ _ _ m' (au _) (kd (m:=m') (⟨11,nm,ty,tN,eN,a,l,cp,b,l2,cp2⟩:Sd) (bw hle df) (bw hle hex) hl bg ck ea ar (ax hle r1) (ax hle r2) (dp hle s1) (dp hle s2))
   (kd (m:=m') (⟨11,[],ai,bk,eN,none,0,0,none,0,0⟩:Sd) iC (bw hle hex) rfl (au _) rfl (au _) ⟨ar.k,aG _,tf,aG _,aG _⟩ mT mT nA nA)
 have hX:=fun m' (hle:ae m m')=>WR ex eN.cs m' (hg.upM hle) (bw hle hex)
 clear s1 s2 r1 r2;refine enter pX pP Tryz.func201 rfl rfl (by kernel_rfl) rfl ?_ ?_
 ·simp only[go_sem,Sd.cs,Nd.cs,bk,ai,Int.reduceEq,ao,aq]
 ·simp only[go_sem,Sd.cs,Nd.cs,bk,ai,Int.reduceEq,ao,aq];refine ab ((hB m (.inl rfl)).mono ?_);clear hB;rintro r H' m1 aN ⟨l1,rfl,rfl⟩;simp only[go_sem,Sd.cs,Nd.cs,bk,ai,Int.reduceEq,ao,aq];refine⟨fun b1=>ab ((hA m1 l1).mono ?_),fun b1=> ?_⟩
  ·clear hA;rintro r H' m2 aH ⟨dS,rfl,rfl⟩;have cX:=aa l1 dS;simp only[go_sem,Sd.cs,Nd.cs,bk,ai,Int.reduceEq,ao,aq];refine ab ((aQ (hX m2 cX) (fun V=>rfl)).mono ?_);clear hX;rintro r H' w1 tL ⟨eC,rfl,rfl⟩;simp only[go_sem,Sd.cs,Nd.cs,bk,ai,Int.reduceEq,ao,aq];refine⟨fun c1=> ?_,fun c1=> ?_⟩
   ·refine ab ((aQ (hQ w1 (aa cX eC)) (fun V=>rfl)).mono ?_);clear hQ;rintro r H' w2 tK ⟨kH,rfl,rfl⟩;simp only[go_sem,Sd.cs,Nd.cs,bk,ai,Int.reduceEq,ao,aq];refine⟨aa (aa cX eC) kH,?_⟩;rw[e0,c1];rfl
   ·refine⟨(aa cX eC),?_⟩;rw[e0,c1];rfl
  ·clear hA;refine ab ((aQ (hX m1 l1) (fun V=>rfl)).mono ?_);clear hX;rintro r H' w3 mL ⟨lz,rfl,rfl⟩;simp only[go_sem,Sd.cs,Nd.cs,bk,ai,Int.reduceEq,ao,aq];refine⟨fun c3=> ?_,fun c3=> ?_⟩
   ·refine ab ((aQ (hQ w3 (aa l1 lz)) (fun V=>rfl)).mono ?_);clear hQ;rintro r H' w4 kr ⟨n7,rfl,rfl⟩;simp only[go_sem,Sd.cs,Nd.cs,bk,ai,Int.reduceEq,ao,aq];refine⟨aa (aa l1 lz) n7,?_⟩;rw[e0,c3];rfl
   ·refine⟨(aa l1 lz),?_⟩;rw[e0,c3];rfl
theorem ah4 (k:Int) (nm:List UInt8) (ty:Ty) (tN eN:Nd) (a:Option Addr) (l cp:Nat) (b:Option Addr) (l2 cp2:Nat) (m:Mem) (B1 B2:Bool) (e:∀j:Int,1<=j->j<=11->(k=j)=False)
  (hB:∀m',ae m m' ->aJ 142 [.v (.slice a l cp),.v (.bool false)] m' (.bool B1)) (hA:∀m',ae m m' ->aJ 142 [.v (.slice b l2 cp2),.v (.bool false)] m' (.bool B2)):
  aJ 201 [.v (.agg ⟨Sd.cs ⟨k,nm,ty,tN,eN,a,l,cp,b,l2,cp2⟩⟩)] m (.bool false):=by
 have e1:=e 1 (by decide) (by decide);have e2:=e 2 (by decide) (by decide);have e3:=e 3 (by decide) (by decide);have e4:=e 4 (by decide) (by decide);have e5:=e 5 (by decide) (by decide);have e6:=e 6 (by decide) (by decide);have e7:=e 7 (by decide) (by decide);have e8:=e 8 (by decide) (by decide);have e9:=e 9 (by decide) (by decide);have jc:=e 10 (by decide) (by decide);have lW:=e 11 (by decide) (by decide);refine enter pX pP Tryz.func201 rfl rfl (by kernel_rfl) rfl ?_ ?_
 ·simp only[go_sem,Sd.cs,Nd.cs]
 ·simp only[go_sem,Sd.cs,Nd.cs];refine ab ((hB m (.inl rfl)).mono ?_);clear hB;rintro r H' m1 aN ⟨l1,rfl,rfl⟩;simp only[go_sem,Sd.cs,Nd.cs,e1,e2,e3,e4,e5,e6,e7,e8,e9,jc,lW,aq];refine⟨fun b1=>ab ((hA m1 l1).mono ?_),fun b1=>l1⟩;clear hA;rintro r H' m2 aH ⟨dS,rfl,rfl⟩;simp only[go_sem,Sd.cs,Nd.cs,e1,e2,e3,e4,e5,e6,e7,e8,e9,jc,lW,aq];exact aa l1 dS
theorem P2 {k:Int}:(k=1\/k=2\/k=3\/k=4\/k=5\/k=6\/k=7\/k=8\/k=9\/k=10\/k=11)\/∀j:Int,1<=j->j<=11->(k=j)=False:=by
 by_cases h:1<=k/\k<=11
 ·left;omega
 ·right;intro j h1 h2;exact eq_false fun e=>h (by omega)
theorem HE:∀(h:Nat) (e:St) (cs:List Value) (m:Mem),eQ e<=h->Glob m->fK m e cs->aJ 201 [.v (.agg ⟨cs⟩)] m (.bool (fv e))
 |0,.mk k nm ty tg ex body alt,cs,m,hd,_,_=>by simp [eQ] at hd
 |h+1,.mk k nm ty tg ex body alt,cs,m,hd,hg,he=>by
  obtain⟨⟨k,nm,ty,tN,eN,a,l,cp,b,l2,cp2⟩,rfl,rfl,rfl,rfl,df,hex,hl,bg,ck,ea,ar,xs,ys,r1,r2,s1,s2⟩:=qX he;simp only[eQ] at hd;simp only at df hex hl bg ck ea ar r1 r2;have hB:=fun m' (hle:ae m m')=>HS false body a l cp xs m' hl (ax hle r1) (dp hle s1) (by rw[hl];exact ar.l) fun e he cs m2 aY aT=>HE h e cs m2 (by have:=lY he;omega) (hg.upM (aa hle aY)) aT
  have hA:=fun m' (hle:ae m m')=>HS false alt b l2 cp2 ys m' ck (ax hle r2) (dp hle s2) (by rw[ck];exact ar.l2) fun e he cs m2 aY aT=>HE h e cs m2 (by have:=lY he;omega) (hg.upM (aa hle aY)) aT
  simp only;rcases P2 (k:=k) with hk |hk
  ·rcases hk with rfl |rfl |rfl |rfl |rfl |rfl |rfl |rfl |rfl |rfl |rfl
   ·exact ah3 nm ty tN eN a l cp b l2 cp2 tg ex body alt xs ys m hg df hex hl bg ck ea ar r1 r2 s1 s2 _ _ _ _ hB hA rfl (by simp only[fv,iq,jR,Int.reduceEq,or_false,or_true,false_or,true_or,if_true,if_false])
   ·exact ah2 nm ty tN eN a l cp b l2 cp2 tg ex body alt xs ys m hg df hex hl bg ck ea ar r1 r2 s1 s2 _ _ _ _ hB hA rfl (by simp only[fv,iq,jR,Int.reduceEq,or_false,or_true,false_or,true_or,if_true,if_false])
   ·exact ah1 nm ty tN eN a l cp b l2 cp2 tg ex body alt xs ys m hg df hex hl bg ck ea ar r1 r2 s1 s2 _ _ _ _ hB hA rfl (by simp only[fv,iq,jR,Int.reduceEq,or_false,or_true,false_or,true_or,if_true,if_false])
   ·exact ah0 nm ty tN eN a l cp b l2 cp2 tg ex body alt xs ys m hg df hex hl bg ck ea ar r1 r2 s1 s2 _ _ _ _ hB hA rfl (by simp only[fv,iq,jR,Int.reduceEq,or_false,or_true,false_or,true_or,if_true,if_false])
   ·exact ahZ nm ty tN eN a l cp b l2 cp2 tg ex body alt xs ys m hg df hex hl bg ck ea ar r1 r2 s1 s2 _ _ _ _ hB hA rfl (by simp only[fv,iq,jR,Int.reduceEq,or_false,or_true,false_or,true_or,if_true,if_false])
   ·exact ahY nm ty tN eN a l cp b l2 cp2 tg ex body alt xs ys m hg df hex hl bg ck ea ar r1 r2 s1 s2 _ _ _ _ hB hA rfl (by simp only[fv,iq,jR,Int.reduceEq,or_false,or_true,false_or,true_or,if_true,if_false])
   ·exact ahX nm ty tN eN a l cp b l2 cp2 tg ex body alt xs ys m hg df hex hl bg ck ea ar r1 r2 s1 s2 _ _ _ _ hB hA rfl (by simp only[fv,iq,jR,Int.reduceEq,or_false,or_true,false_or,true_or,if_true,if_false])
   ·exact ahW nm ty tN eN a l cp b l2 cp2 tg ex body alt xs ys m hg df hex hl bg ck ea ar r1 r2 s1 s2 _ _ _ _ hB hA rfl (by simp only[fv,iq,jR,Int.reduceEq,or_false,or_true,false_or,true_or,if_true,if_false])
   ·exact ahV nm ty tN eN a l cp b l2 cp2 tg ex body alt xs ys m hg df hex hl bg ck ea ar r1 r2 s1 s2 _ _ _ _ hB hA rfl (by simp only[fv,iq,jR,Int.reduceEq,or_false,or_true,false_or,true_or,if_true,if_false])
   ·exact afh nm ty tN eN a l cp b l2 cp2 tg ex body alt xs ys m hg df hex hl bg ck ea ar r1 r2 s1 s2 _ _ _ _ hB hA rfl (by simp only[fv,iq,jR,Int.reduceEq,or_false,or_true,false_or,true_or,if_true,if_false])
   ·exact afg nm ty tN eN a l cp b l2 cp2 tg ex body alt xs ys m hg df hex hl bg ck ea ar r1 r2 s1 s2 _ _ _ _ hB hA rfl (by simp only[fv,iq,jR,Int.reduceEq,or_false,or_true,false_or,true_or,if_true,if_false])
  ·have hv:=ah4 k nm ty tN eN a l cp b l2 cp2 m _ _ hk hB hA;have:fv (.mk k nm ty tg ex body alt)=false:=by
    have e:∀j:Int,1<=j->j<=11->¬k=j:=fun j h1 h2 h3=>by have:=hk j h1 h2;rw[this] at h3;exact h3
    simp only[fv,iq,hk 1 (by decide) (by decide),hk 2 (by decide) (by decide),hk 3 (by decide) (by decide),hk 4 (by decide) (by decide),hk 5 (by decide) (by decide),hk 6 (by decide) (by decide),hk 7 (by decide) (by decide),hk 8 (by decide) (by decide),hk 9 (by decide) (by decide),hk 10 (by decide) (by decide),hk 11 (by decide) (by decide),or_false,if_false,Bool.false_and]
   rw[this];exact hv
theorem OQ (sup:Bool) (l:List St) (a:Option Addr) (n c:Nat) (xs:List Value) (m:Mem) (hg:Glob m) (hl:n=l.length) (hr:aZ m a n 23 xs) (hs:bZ m l xs) (hn:n<=av):
  aJ 142 [.v (.slice a n c),.v (.bool sup)] m (.bool (eB sup l)):=
 HS sup l a n c xs m hl hr hs hn fun e _ cs m' hle aT=>HE _ e cs m' (au _) (hg.upM hle) aT
def hasB (fl m:Int):Bool:= !decide (bits .and .i64 fl m=0)
def kS (fl:Int):Bool:=decide (bits .and .i64 fl 7=0)||decide (bits .and .i64 fl 7=1)||decide (bits .and .i64 fl 7=2)||decide (bits .and .i64 fl 7=4)
def fx (fl al:Int):Bool:=decide (bits .andNot .i64 fl al=0)
def om (fl:Int):Bool:=kS fl&&fx fl 1087&& !(hasB fl 1024&&hasB fl 58)&&(!hasB fl 32|| !hasB fl 8)
def jQ (f:Fc):Bool:=dw f.ty.dim f.ty.base f.ty.name&&dn f.name&&kS f.fl&&fx f.fl 31
def gR (p:Pc):Bool:=dw p.ty.dim p.ty.base p.ty.name&&dn p.name
def mU (t:Ty):Bool:=decide (t.dim=0)&&(decide (t.base=86)&&decide (t.name=[]))
def nf (m:Md):Bool:=if m.name=eI then mU m.res&&m.hb&&fx m.fl 7 else dn m.name&&(mU m.res||dw m.res.dim m.res.base m.res.name)
def rF (m:Md):Bool:=om m.fl&& !(m.hb==hasB m.fl 1024)&&(m.hb||decide (m.body.length=0))&&decide (m.params.length<=16)
def gh (m:Md):Bool:=nf m&&rF m&& !(m.params.any fun p=> !gR p)&&eB (decide (m.name=eI)) m.body
def lv:List UInt8:=[108,97,110,103,47,79,98,106,101,99,116]
def va (m:Md):Bool:= !decide (m.fl=1)&& !decide (m.fl=1025)||decide (m.name=eI)
def zO (d:Cd):Bool:=fx d.fl 1537&&hasB d.fl 1024&&decide (d.super=lv)&&decide (d.fields.length+d.init.length=0)&& !(d.methods.any va)
def oF (d:Cd):Bool:=if hasB d.fl 512=true then zO d else fx d.fl 1041&& !(hasB d.fl 16&&hasB d.fl 1024)
def mg (d:Cd):Bool:=dd d.name&&dd d.super&&decide (d.ifs.length<=8)
def pE (d:Cd):Bool:=decide (d.fields.length<=64)&&decide (d.methods.length<=64)
def im (d:Cd):Bool:=oF d&&(mg d&& !(d.ifs.any fun s=> !dd s)&&pE d&& !(d.fields.any fun f=> !jQ f)&& !(d.methods.any fun f=> !gh f)&&eB false d.init)
def wI (F:Int->Bool):List Value->Option (Prop×Value)
 |[.int .i64 c]=>some (True,.bool (F c))
 |_=>none
theorem BX {P:Program} {f:FuncId} {F:Int->Bool} (h:∀c m,FnH P f [.v (.int .i64 c)] ⟨[],[]⟩ m fun r H' _=>r= .v (.bool (F c))/\H' =⟨[],[]⟩):qp P f (wI F):=fun fe y hy _ m=>by
 unfold wI at hy;split at hy
 ·cases hy;exact h _ m
 ·cases hy
def wH (F:Int->Int->Bool):List Value->Option (Prop×Value)
 |[.int .i64 c,.int .i64 d]=>some (True,.bool (F c d))
 |_=>none
theorem BW {P:Program} {f:FuncId} {F:Int->Int->Bool} (h:∀c d m,FnH P f [.v (.int .i64 c),.v (.int .i64 d)] ⟨[],[]⟩ m fun r H' _=>r= .v (.bool (F c d))/\H' =⟨[],[]⟩):qp P f (wH F):=fun fe y hy _ m=>by
 unfold wH at hy;split at hy
 ·cases hy;exact h _ _ m
 ·cases hy
attribute [go_sem] wI wH
theorem Y9 (fl:Int) (m:Mem):FnH Tryz.prog 194 [.v (.int .i64 fl)] ⟨[],[]⟩ m fun r H' _=>r= .v (.bool (kS fl))/\H' =⟨[],[]⟩:=by
 refine aR aB Tryz.func194 ?_
 ·simp only[go_sem];refine⟨fun a=>⟨fun _=>by simp [kS,a],fun n=>absurd a n⟩,fun a=>⟨fun b=>⟨fun _=>by simp [kS,b],fun n=>absurd b n⟩,fun b=>⟨fun c=>⟨fun _=>by simp [kS,c],fun n=>absurd c n⟩,fun c=>⟨fun d=>by simp [kS,d],fun d=>by simp [kS,a,b,c,d]⟩⟩⟩⟩
theorem Od (fl al:Int) (m:Mem):FnH Tryz.prog 132 [.v (.int .i64 fl),.v (.int .i64 al)] ⟨[],[]⟩ m fun r H' _=>r= .v (.bool (fx fl al))/\H' =⟨[],[]⟩:=by
 refine aR aB Tryz.func132 ?_
 ·simp only[go_sem];rfl
abbrev yH:Cfg:=gC (fun _=>false) [(194,wI kS),(132,wH fx),(155,fr BL fun s=> .bool (dn s)),(157,rX dw),(134,fr BL fun s=> .bool (dd s))]
theorem wF:dt yH Tryz.prog:=pure_cons (by kernel_rfl) (BX Y9) (pure_cons (by kernel_rfl) (BW Od) (pure_cons (by kernel_rfl) (fL HO) (pure_cons (by kernel_rfl) (vI HD) (pure_cons (by kernel_rfl) (fL A5) pure_nil))))
theorem Wx (fl:Int) (m:Mem):FnH Tryz.prog 195 [.v (.int .i64 fl)] ⟨[],[]⟩ m fun r H' _=>r= .v (.bool (om fl))/\H' =⟨[],[]⟩:=by
 refine aR wF Tryz.func195 ?_
 ·simp only[go_sem];refine⟨fun h=> ?_,fun h=>⟨fun g=> ?_,fun g=> ?_⟩⟩
  ·rcases h with h |h<;>simp [om,h]
  ·simp [om,hasB,g.1,g.2]
  ·rcases g with g |g<;>simp [om,hasB,h.1,h.2,g]
theorem XF (f:Fc) (m:Mem) (h:FcOk f):aJ 136 [.v (.agg ⟨f.cs⟩)] m (.bool (jQ f)):=by
 have h1:BL f.name:=cZ h.name (by decide);have h2:BL f.ty.name:=cZ h.ty.2.2 (by decide);refine enter yH wF Tryz.func136 rfl rfl (by kernel_rfl) rfl ?_ ?_
 ·simp only[go_sem,Fc.cs]
 ·simp only[go_sem,Fc.cs];exact⟨h2,fun _=>h1,rfl⟩
theorem YZ (f:Fc) (m:Mem) (h:FcOk f):aJ 135 [.v (.agg ⟨f.cs⟩)] m (.bool (!jQ f)):=by
 have hF:=XF f m h;refine enter yH wF Tryz.func135 rfl rfl (by kernel_rfl) rfl ?_ ?_
 ·simp only[go_sem,Fc.cs]
 ·simp only[go_sem,Fc.cs];refine ab ((aQ hF (fun V=>rfl)).mono ?_);rintro r H' m2 aH ⟨aY,rfl,rfl⟩;simp only[go_sem];exact aY
theorem YU (s:List UInt8) (m:Mem) (h:BL s):aJ 133 [.v (.string (bs s))] m (.bool (!dd s)):=by
 refine aR wF Tryz.func133 ?_
 ·simp only[go_sem];exact h
theorem YV (f:Pc) (m:Mem) (h:PcOk f):aJ 196 [.v (.agg ⟨f.cs⟩)] m (.bool (!gR f)):=by
 have h1:BL f.name:=cZ h.name (by decide);have h2:BL f.ty.name:=cZ h.ty.2.2 (by decide);refine enter yH wF Tryz.func196 rfl rfl (by kernel_rfl) rfl ?_ ?_
 ·simp only[go_sem,Pc.cs]
 ·simp only[go_sem,Pc.cs];exact⟨h2,fun _=>h1,by rw[gR,Bool.not_and]⟩
theorem YY (x:Mc) (m:Mem):aJ 191 [.v (.agg ⟨x.cs⟩)] m (.bool (!decide (x.fl=1)&& !decide (x.fl=1025)||decide (x.name=eI))):=by
 refine enter yH wF Tryz.func191 rfl rfl (by kernel_rfl) rfl ?_ ?_
 ·simp only[go_sem,Mc.cs]
 ·simp only[go_sem,Mc.cs];rfl
theorem Fy {α:Type} {p:α->Bool} {l:List α} {n:Nat} (hn:n=l.length) {B:Nat->Bool} (h:∀i (hi:i<l.length),B i=p l[i]):kX n B=l.any p:=by
 subst hn;exact OS p l B h
def AP {α:Type} (p:α->Bool) (l:List α) (i:Nat):Bool:=match l[i]? with |some a=>p a |none=>false
theorem vR {α:Type} {p:α->Bool} {l:List α} {i:Nat} (h:i<l.length):AP p l i=p l[i]:=by simp only[AP,List.getElem?_eq_getElem h]
theorem aaa {m:Mem} {d:Md} {cs:List Value} (h:gS m d cs):∃x:Mc,(cs=x.cs/\x.fl=d.fl/\x.res=d.res/\x.name=d.name/\x.hb=d.hb)/\(x.pl=d.params.length/\x.pl<=x.pc/\x.l=d.body.length/\x.l<=x.cp)/\MdOk d/\aZ m x.pa x.pl 4 (flat Pc.cs d.params)/\∃xs,aZ m x.a x.l 23 xs/\bZ m d.body xs:=h
theorem Wy (d:Md) (cs:List Value) (m:Mem) (hg:Glob m) (h:gS m d cs):aJ 138 [.v (.agg ⟨cs⟩)] m (.bool (gh d)):=by
 obtain⟨fl,res,name,params,hb,body⟩:=d;obtain⟨x,⟨rfl,rfl,rfl,rfl,rfl⟩,⟨j2,wO,hl,bg⟩,ar,r1,xs,r2,s2⟩:=h;simp only at j2 hl r1 s2;have h1:BL x.name:=cZ ar.name (by decide);have h2:BL x.res.name:=cZ ar.res.2.2 (by decide);have hP:∀m',ae m m' ->aJ 197 [.v (.slice x.pa x.pl x.pc),.v (.func (.func 196) ⟨[]⟩ ⟨[]⟩)] m' (.bool (params.any fun p=> !gR p)):=fun m' hle=>by
  have:=ahc 196 (AP (fun p=> !gR p) params) x.pa x.pl x.pc _ m' (ax hle r1) (by rw[j2];exact ar.pl) (by kernel_rfl) fun i hi=>⟨params[i]'(by omega),pd (f:=Pc.cs) (sz:=4) (fun _=>rfl) (by omega),fun m2 _=>by
   rw[vR (by omega)];exact YV _ m2 (ar.ps _ (List.getElem_mem _))⟩
  rw[Fy j2 (p:=fun p=> !gR p) fun i hi=>vR hi] at this;exact this
 have hB:=fun m' (hle:ae m m')=>OQ (decide (x.name=eI)) body x.a x.l x.cp xs m' (hg.upM hle) hl (ax hle r2) (dp hle s2) (by rw[hl];exact ar.l)
 clear s2;refine enter (gC (fun _=>false) [(195,wI om),(132,wH fx),(155,fr BL fun s=> .bool (dn s)),(157,rX dw)])
  (pure_cons (by kernel_rfl) (BX Wx) (pure_cons (by kernel_rfl) (BW Od) (pure_cons (by kernel_rfl) (fL HO) (pure_cons (by kernel_rfl) (vI HD) pure_nil)))) Tryz.func138 rfl rfl (by kernel_rfl) rfl ?_ ?_
 ·simp only[go_sem,Mc.cs]
 ·simp only[go_sem,Mc.cs,qn];have e1:∀(d:Md),nf d=true->rF d=true->gh d=(!(d.params.any fun p=> !gR p)&&eB (decide (d.name=eI)) d.body):=fun d a b=>by rw[gh,a,b];rfl
  have g0:∀(d:Md),((om d.fl=false\/(d.hb== !decide (bits .and .i64 d.fl 1024=0))=true)\/d.hb=false/\0<d.body.length)\/16<d.params.length->false=gh d:=fun d g=>by
   have:rF d=false:=by
    rcases g with ((g |g) |g) |g
    ·simp [rF,g]
    ·simp only[rF,hasB,g,Bool.not_true,Bool.and_false,Bool.false_and]
    ·simp only[rF,g.1,Bool.false_or,di (by omega:¬d.body.length=0),Bool.and_false,Bool.false_and]
    ·simp only[rF,di (by omega:¬d.params.length<=16),Bool.and_false]
   rw[gh,this,Bool.and_false];rfl
  have g1:∀(d:Md),((om d.fl=true/\(d.hb== !decide (bits .and .i64 d.fl 1024=0))=false)/\(d.hb=true\/¬0<d.body.length))/\¬16<d.params.length->rF d=true:=fun d g=>by
   simp only[rF,hasB,g.1.1.1,g.1.1.2,eF (by omega:d.params.length<=16),Bool.not_false,Bool.and_true,Bool.true_and];rcases g.1.2 with h |h
   ·rw[h];rfl
   ·rw[eF (by omega:d.body.length=0),Bool.or_true]
  have LZ:=g0 ⟨x.fl,x.res,x.name,params,x.hb,body⟩;have LY:=g1 ⟨x.fl,x.res,x.name,params,x.hb,body⟩;have Mo:=e1 ⟨x.fl,x.res,x.name,params,x.hb,body⟩;clear g0 g1 e1;simp only at LZ LY Mo;have gx:∀{A B:Prop},(A\/B/\0<(x.l:Int))\/16<(x.pl:Int)->(A\/B/\0<body.length)\/16<params.length:=fun g=>by
   clear hP hB;rcases g with (g |g) |g
   ·exact .inl (.inl g)
   ·exact .inl (.inr ⟨g.1,by omega⟩)
   ·exact .inr (by omega)
  have gy:∀{A B:Prop},(A/\(B\/¬0<(x.l:Int)))/\¬16<(x.pl:Int)->(A/\(B\/¬0<body.length))/\¬16<params.length:=fun g=>by
   clear hP hB;refine⟨⟨g.1.1,?_⟩,by omega⟩;rcases g.1.2 with h |h
   ·exact .inl h
   ·exact .inr (by omega)
  refine⟨fun hn=>⟨fun c=> ?_,fun c=>⟨by kernel_rfl,fun g=>LZ (gx g),fun g=>ab ((hP m (.inl rfl)).mono ?_)⟩⟩,
   fun hn=>⟨h1,fun _=>h2,fun c=> ?_,fun c=>⟨by kernel_rfl,fun g=>LZ (gx g),fun g=>ab ((hP m (.inl rfl)).mono ?_)⟩⟩⟩
  ·clear hP hB;have:nf ⟨x.fl,x.res,x.name,params,x.hb,body⟩=false:=by
    simp only[nf,mU];rw[ah (show x.name=eI from hn)];rcases c with ((c |c |c) |c) |c<;>simp [c]
   rw[gh,this];rfl
  ·have g2:=LY (gy g);have hh:nf ⟨x.fl,x.res,x.name,params,x.hb,body⟩=true:=by
    clear hP hB;simp only[nf,mU];rw[ah (show x.name=eI from hn)];simp [c.1.1.1,c.1.1.2.1,c.1.1.2.2,c.1.2,c.2]
   have e2:=Mo hh g2;clear hP;rintro r H' m2 aH ⟨aY,rfl,rfl⟩;simp only[go_sem,Mc.cs];refine⟨fun b1=>ab ((hB m2 aY).mono ?_),fun b1=> ?_⟩
   ·clear hB;rintro r H' m3 bI ⟨lx,rfl,rfl⟩;simp only[go_sem,Mc.cs];refine⟨aa aY lx,?_⟩;rw[e2,b1];rfl
   ·refine⟨aY,?_⟩;rw[e2,b1];rfl
  ·clear hP hB;have:nf ⟨x.fl,x.res,x.name,params,x.hb,body⟩=false:=by
    simp only[nf,mU];rw[af (show ¬x.name=eI from hn)];rcases c with c |c
    ·simp [c]
    ·rw[c.2];rcases c.1 with c |c |c<;>simp [c]
   rw[gh,this];rfl
  ·have g2:=LY (gy g);have hh:nf ⟨x.fl,x.res,x.name,params,x.hb,body⟩=true:=by
    clear hP hB;simp only[nf,mU];rw[af (show ¬x.name=eI from hn),c.1];rcases c.2 with c |c<;>simp [c]
   have e2:=Mo hh g2;clear hP;rintro r H' m2 aH ⟨aY,rfl,rfl⟩;simp only[go_sem,Mc.cs];refine⟨fun b1=>ab ((hB m2 aY).mono ?_),fun b1=> ?_⟩
   ·clear hB;rintro r H' m3 bI ⟨lx,rfl,rfl⟩;simp only[go_sem,Mc.cs];refine⟨aa aY lx,?_⟩;rw[e2,b1];rfl
   ·refine⟨aY,?_⟩;rw[e2,b1];rfl
theorem YX (d:Md) (cs:List Value) (m:Mem) (hg:Glob m) (h:gS m d cs):aJ 137 [.v (.agg ⟨cs⟩)] m (.bool (!gh d)):=by
 have hM:=Wy d cs m hg h;obtain⟨x,rfl⟩:=Bt h;refine enter gP aB Tryz.func137 rfl rfl (by kernel_rfl) rfl ?_ ?_
 ·simp only[go_sem,Mc.cs]
 ·simp only[go_sem,Mc.cs];refine ab ((aQ hM (fun V=>rfl)).mono ?_);rintro r H' m2 aH ⟨aY,rfl,rfl⟩;simp only[go_sem];exact aY
theorem adl (d:Md) (cs:List Value) (m m' :Mem) (h:gS m d cs):aJ 191 [.v (.agg ⟨cs⟩)] m' (.bool (va d)):=by
 obtain⟨x,⟨rfl,h1,h2,h3,h4⟩,_⟩:=h;have:=YY x m';rw[h1,h3] at this;exact this
theorem Vr (f:FuncId) (p:Md->Bool) (l:List Md) (a:Option Addr) (n c:Nat) (xs:List Value) (m:Mem) (hl:n=l.length) (hr:aZ m a n 8 xs) (hs:nJ (gS m) 8 l xs) (hn:n<=av) (ar:iY Tryz.prog f=true)
  (hf:∀d∈l,∀cs m',ae m m' ->gS m' d cs->aJ f [.v (.agg ⟨cs⟩)] m' (.bool (p d))):
  aJ 141 [.v (.slice a n c),.v (.func (.func f) ⟨[]⟩ ⟨[]⟩)] m (.bool (l.any p)):=by
 have:=ahd f (AP p l) a n c xs m hr hn ar fun i hi=>by
  have dG:i<l.length:=by omega
  have aT:=nI hs dG;obtain⟨X,hX⟩:=Bt aT;rw[hX] at aT;refine⟨X,hX,fun m' hle=> ?_⟩;rw[vR dG];exact hf _ (List.getElem_mem dG) _ m' hle (p8 hle aT)
 rw[Fy hl (p:=p) fun i hi=>vR hi] at this;exact this
theorem ctF (f:FuncId) (p:Fc->Bool) (l:List Fc) (a:Option Addr) (n c:Nat) (m:Mem) (hl:n=l.length) (hr:aZ m a n 5 (flat Fc.cs l)) (hn:n<=av) (ar:iY Tryz.prog f=true)
  (hf:∀d∈l,∀m',ae m m' ->aJ f [.v (.agg ⟨d.cs⟩)] m' (.bool (p d))):
  aJ 140 [.v (.slice a n c),.v (.func (.func f) ⟨[]⟩ ⟨[]⟩)] m (.bool (l.any p)):=by
 have:=ahe f (AP p l) a n c _ m hr hn ar fun i hi=>by
  have dG:i<l.length:=by omega
  refine⟨l[i],pd (f:=Fc.cs) (sz:=5) (fun _=>rfl) dG,fun m' hle=> ?_⟩;rw[vR dG];exact hf _ (List.getElem_mem dG) m' hle
 rw[Fy hl (p:=p) fun i hi=>vR hi] at this;exact this
theorem ctS (f:FuncId) (p:List UInt8->Bool) (l:List (List UInt8)) (a:Option Addr) (n c:Nat) (m:Mem) (hl:n=l.length) (hr:aZ m a n 1 (strs l)) (hn:n<=av) (ar:iY Tryz.prog f=true)
  (hf:∀d∈l,∀m',ae m m' ->aJ f [.v (.string (bs d))] m' (.bool (p d))):
  aJ 139 [.v (.slice a n c),.v (.func (.func f) ⟨[]⟩ ⟨[]⟩)] m (.bool (l.any p)):=by
 have:=aki f (AP p l) a n c _ m hr hn ar fun i hi=>by
  have dG:i<l.length:=by omega
  refine⟨l[i],?_,fun m' hle=> ?_⟩
  ·rw[strs,List.getElem?_map,List.getElem?_eq_getElem dG];rfl
  ·rw[vR dG];exact hf _ (List.getElem_mem dG) m' hle
 rw[Fy hl (p:=p) fun i hi=>vR hi] at this;exact this
theorem XB (d:Cd) (cs:List Value) (m:Mem) (h:ki m d cs):aJ 131 [.v (.agg ⟨cs⟩)] m (.bool (zO d)):=by
 obtain⟨fl,name,super,ifs,fields,methods,init⟩:=d;obtain⟨x,⟨rfl,rfl,rfl,rfl⟩,⟨dG,hic,fU,hfc,hml,hmc,fF,hsc⟩,ar,r1,r2,xs,ys,r3,s3,r4,s4⟩:=h;simp only at dG fU hml fF r1 r2 s3 s4;have hM:=Vr 191 va methods x.ma x.ml x.mc xs m hml r3 s3 (by rw[hml];exact ar.ml) (by kernel_rfl) fun d _ cs m' hle aT=>adl d cs m' m' aT
 have b1:=ar.fn;have b2:=ar.l;clear s3 s4;refine enter yH wF Tryz.func131 rfl rfl (by kernel_rfl) rfl ?_ ?_
 ·simp only[go_sem,Cc.cs]
 ·simp only[go_sem,Cc.cs];have e0:zO ⟨x.fl,x.name,x.super,ifs,fields,methods,init⟩=(fx x.fl 1537&&hasB x.fl 1024&&decide (x.super=lv)&&decide (fields.length+init.length=0)&& !(methods.any va)):=rfl;simp only at b1 b2;refine⟨fun _=>by clear hM;unfold aF;simp only[av] at b1 b2;omega,fun c=>ab (hM.mono ?_),fun c=> ?_⟩
  ·have g:fields.length+init.length=0:=by clear hM;omega
   clear hM;rintro r H' m2 aH ⟨aY,rfl,rfl⟩;simp only[go_sem,Cc.cs];refine⟨aY,?_⟩;rw[e0,c.1.1.1,hasB,di c.1.1.2,eF (show x.super=lv from c.1.2),eF g];rfl
  ·clear hM;rw[e0];rcases c with ((c |c) |c) |c
   ·simp [c]
   ·simp [hasB,c]
   ·rw[di (show ¬x.super=lv from c)];simp
   ·rw[di (by omega:¬fields.length+init.length=0)];simp
theorem WH (d:Cd) (cs:List Value) (m:Mem) (hg:Glob m) (h:ki m d cs):aJ 54 [.v (.agg ⟨cs⟩)] m (.bool (im d)):=by
 have hI:=XB d cs m h;obtain⟨fl,name,super,ifs,fields,methods,init⟩:=d;obtain⟨x,⟨rfl,rfl,rfl,rfl⟩,⟨dG,hic,fU,hfc,hml,hmc,fF,hsc⟩,ar,r1,r2,xs,ys,r3,s3,r4,s4⟩:=h;simp only at dG fU hml fF r1 r2 s3 s4;have hM:=fun m' (hle:ae m m')=>Vr 137 (fun d=> !gh d) methods x.ma x.ml x.mc xs m' hml (ax hle r3) (vX (fun _ _=>p8 hle) s3) (by rw[hml];exact ar.ml) (by kernel_rfl) fun d _ cs m2 aY aT=>YX d cs m2 (hg.upM (aa hle aY)) aT
 have hF:=fun m' (hle:ae m m')=>ctF 135 (fun d=> !jQ d) fields x.fa x.fn x.fc m' fU (ax hle r2) (by rw[fU];exact ar.fn) (by kernel_rfl) fun d hd m2 aY=>YZ d m2 (ar.fs d hd)
 have hS:=fun m' (hle:ae m m')=>ctS 133 (fun d=> !dd d) ifs x.ia x.il x.ic m' dG (ax hle r1) (by rw[dG];exact ar.il) (by kernel_rfl) fun d hd m2 aY=>YU d m2 (cZ (ar.ifs d hd) (by decide))
 have hB:=fun m' (hle:ae m m')=>OQ false init x.sa x.sl x.sc ys m' (hg.upM hle) fF (ax hle r4) (dp hle s4) (by rw[fF];exact ar.l)
 have h1:BL x.name:=cZ ar.name (by decide);have h2:BL x.super:=cZ ar.super (by decide);clear s3 s4;refine enter yH wF Tryz.func54 rfl rfl (by kernel_rfl) rfl ?_ ?_
 ·simp only[go_sem,Cc.cs]
 ·simp only[go_sem,Cc.cs];have e0:oF ⟨x.fl,x.name,x.super,ifs,fields,methods,init⟩=true->im ⟨x.fl,x.name,x.super,ifs,fields,methods,init⟩=(mg ⟨x.fl,x.name,x.super,ifs,fields,methods,init⟩&& !(ifs.any fun s=> !dd s)&&pE ⟨x.fl,x.name,x.super,ifs,fields,methods,init⟩&& !(fields.any fun f=> !jQ f)&& !(methods.any fun f=> !gh f)&&eB false init):=fun h=>by rw[im,h];rfl
  refine⟨fun b=>ab ((aQ hI (fun V=>rfl)).mono ?_),fun b=>⟨fun c=> ?_,fun c=> ?_⟩⟩
  ·clear hI;rintro r H' m1 aN ⟨l1,rfl,rfl⟩;simp only[go_sem,Cc.cs];have g:hasB x.fl 512=true:=by rw[hasB,di b];rfl
   refine⟨fun c=> ?_,fun c=> ?_⟩
   ·refine⟨l1,?_⟩;rw[im,oF,ah g,c];rfl
   ·have hH:oF ⟨x.fl,x.name,x.super,ifs,fields,methods,init⟩=true:=by rw[oF,ah g,c]
    refine⟨h1,fun _=>h2,fun c=>ab ((hS m1 l1).mono ?_),fun c=> ?_⟩
    ·clear hS;rintro r H' n1 tQ ⟨k1,rfl,rfl⟩;simp only[go_sem,Cc.cs];have hN:mg ⟨x.fl,x.name,x.super,ifs,fields,methods,init⟩=true:=by clear hF hM hB;simp only[mg,c.1.1,c.1.2,eF (by omega:ifs.length<=8)];rfl
     refine⟨fun d=>ab ((hF n1 (aa l1 k1)).mono ?_),fun d=> ?_⟩
     ·clear hF;rintro r H' n2 GI ⟨k2,rfl,rfl⟩;simp only[go_sem,Cc.cs];have hL:pE ⟨x.fl,x.name,x.super,ifs,fields,methods,init⟩=true:=by clear hM hB;simp only[pE,eF (by omega:fields.length<=64),eF (by omega:methods.length<=64)];rfl
      refine⟨fun e=>ab ((hM n2 (aa (aa l1 k1) k2)).mono ?_),fun e=> ?_⟩
      ·clear hM;rintro r H' n3 UY ⟨k3,rfl,rfl⟩;simp only[go_sem,Cc.cs];refine⟨fun f=>ab ((hB n3 (aa (aa (aa l1 k1) k2) k3)).mono ?_),fun f=> ?_⟩
       ·clear hB;rintro r H' n4 UX ⟨k4,rfl,rfl⟩;simp only[go_sem,Cc.cs];refine⟨aa (aa (aa (aa l1 k1) k2) k3) k4,?_⟩;rw[e0 hH,hN,d.1.1,hL,e,f];rfl
       ·refine⟨aa (aa (aa l1 k1) k2) k3,?_⟩;rw[e0 hH,f];simp
      ·refine⟨aa (aa l1 k1) k2,?_⟩;rw[e0 hH,e];simp
     ·refine⟨aa l1 k1,?_⟩;clear hF hM hB;rw[e0 hH];rcases d with (d |d) |d
      ·rw[d];simp
      ·simp only[pE,di (by omega:¬fields.length<=64),Bool.false_and,Bool.and_false]
      ·simp only[pE,di (by omega:¬methods.length<=64),Bool.false_and,Bool.and_false]
    ·clear hS hF hM hB;refine⟨l1,?_⟩;rw[e0 hH];rcases c with (c |c) |c
     ·simp only[mg,c,Bool.false_and]
     ·simp only[mg,c,Bool.false_and,Bool.and_false]
     ·simp only[mg,di (by omega:¬ifs.length<=8),Bool.false_and,Bool.and_false]
  ·clear hI hM hF hS hB;have g:¬hasB x.fl 512=true:=by rw[hasB,eF b];decide
   have:oF ⟨x.fl,x.name,x.super,ifs,fields,methods,init⟩=false:=by
    rw[oF,af g];rcases c with c |c
    ·simp [c]
    ·simp [hasB,c]
   rw[im,this];rfl
  ·clear hI;have g:¬hasB x.fl 512=true:=by rw[hasB,eF b];decide
   have hH:oF ⟨x.fl,x.name,x.super,ifs,fields,methods,init⟩=true:=by
    clear hM hF hS hB;rw[oF,af g];rcases c with ⟨c1,c |c⟩<;>simp [hasB,c1,c]
   clear c;refine⟨h1,fun _=>h2,fun c=>ab ((hS m (.inl rfl:ae m m)).mono ?_),fun c=> ?_⟩
   ·clear hS;rintro r H' n1 tQ ⟨k1,rfl,rfl⟩;simp only[go_sem,Cc.cs];have hN:mg ⟨x.fl,x.name,x.super,ifs,fields,methods,init⟩=true:=by clear hF hM hB;simp only[mg,c.1.1,c.1.2,eF (by omega:ifs.length<=8)];rfl
    refine⟨fun d=>ab ((hF n1 (aa (.inl rfl:ae m m) k1)).mono ?_),fun d=> ?_⟩
    ·clear hF;rintro r H' n2 GI ⟨k2,rfl,rfl⟩;simp only[go_sem,Cc.cs];have hL:pE ⟨x.fl,x.name,x.super,ifs,fields,methods,init⟩=true:=by clear hM hB;simp only[pE,eF (by omega:fields.length<=64),eF (by omega:methods.length<=64)];rfl
     refine⟨fun e=>ab ((hM n2 (aa (aa (.inl rfl:ae m m) k1) k2)).mono ?_),fun e=> ?_⟩
     ·clear hM;rintro r H' n3 UY ⟨k3,rfl,rfl⟩;simp only[go_sem,Cc.cs];refine⟨fun f=>ab ((hB n3 (aa (aa (aa (.inl rfl:ae m m) k1) k2) k3)).mono ?_),fun f=> ?_⟩
      ·clear hB;rintro r H' n4 UX ⟨k4,rfl,rfl⟩;simp only[go_sem,Cc.cs];refine⟨aa (aa (aa (aa (.inl rfl:ae m m) k1) k2) k3) k4,?_⟩;rw[e0 hH,hN,d.1.1,hL,e,f];rfl
      ·refine⟨aa (aa (aa (.inl rfl:ae m m) k1) k2) k3,?_⟩;rw[e0 hH,f];simp
     ·refine⟨aa (aa (.inl rfl:ae m m) k1) k2,?_⟩;rw[e0 hH,e];simp
    ·refine⟨aa (.inl rfl:ae m m) k1,?_⟩;clear hF hM hB;rw[e0 hH];rcases d with (d |d) |d
     ·rw[d];simp
     ·simp only[pE,di (by omega:¬fields.length<=64),Bool.false_and,Bool.and_false]
     ·simp only[pE,di (by omega:¬methods.length<=64),Bool.false_and,Bool.and_false]
   ·clear hS hF hM hB;rw[e0 hH];rcases c with (c |c) |c
    ·simp only[mg,c,Bool.false_and]
    ·simp only[mg,c,Bool.false_and,Bool.and_false]
    ·simp only[mg,di (by omega:¬ifs.length<=8),Bool.false_and,Bool.and_false]
def xP:Ex->Nat | .mk _ _ _ _ _ args=>kN args
mutual
def pC:St->Nat
 | .mk k _ _ tg ex body alt=>max (max (ee body) (ee alt)) (max (b6 tg) (if k=11 then xP ex else b6 ex))
def ee:List St->Nat
 |[]=>0
 |e::r=>max (pC e) (ee r)
end
theorem AV:∀{l:List St} {k:Nat} (hk:k<l.length),dq (l.take (k+1))=max (dq (l.take k)) (eQ l[k])
 |[],_,hk=>absurd hk (Nat.not_lt_zero _)
 |e::r,0,_=>by simp [dq]
 |e::r,k+1,hk=>by
  have:=AV (l:=r) (k:=k) (by simpa using hk);simp only[List.take_succ_cons,dq,this,List.getElem_cons_succ,Nat.max_assoc]
theorem M0:∀{l:List St} {k:Nat} (hk:k<l.length),ee (l.take (k+1))=max (ee (l.take k)) (pC l[k])
 |[],_,hk=>absurd hk (Nat.not_lt_zero _)
 |e::r,0,_=>by simp [ee]
 |e::r,k+1,hk=>by
  have:=M0 (l:=r) (k:=k) (by simpa using hk);simp only[List.take_succ_cons,ee,this,List.getElem_cons_succ,Nat.max_assoc]
theorem Eb:∀(l:List St) (k:Nat),dq (l.take k)<=dq l
 |[],k=>by simp
 |e::r,0=>by simp [dq]
 |e::r,k+1=>by
  have:=Eb r k;simp only[List.take_succ_cons,dq];omega
theorem Il:∀(l:List St) (k:Nat),ee (l.take k)<=ee l
 |[],k=>by simp
 |e::r,0=>by simp [ee]
 |e::r,k+1=>by
  have:=Il r k;simp only[List.take_succ_cons,ee];omega
theorem NG:∀{l:List St} {e:St},e∈l->pC e<=ee l
 |[],e,he=>by cases he
 |x::r,e,he=>by
  simp only[ee];rcases List.mem_cons.1 he with rfl |he
  ·omega
  ·have:=NG he;omega
def CY (args:List SV) (m:Mem) (v1 v2:Nat):Prop:=FnH Tryz.prog 143 args ⟨[],[]⟩ m fun r H' m' =>ae m m' /\H' =⟨[],[]⟩/\r= .tup [.v (.int .i64 v1),.v (.int .i64 v2)]
structure DepN where
 b1:Nat
 b2:Nat
 a1:Nat
 a2:Nat
 t:Nat
 x:Nat
 dl:Nat->Nat
structure DepIt (X:Sd) (N:DepN) (mm:Mem):Prop where
 body:∀m',ae mm m' ->CY [.v (.slice X.a X.l X.cp)] m' N.b1 N.b2
 alt:∀m',ae mm m' ->CY [.v (.slice X.b X.l2 X.cp2)] m' N.a1 N.a2
 tg:∀m',ae mm m' ->aJ 34 [.v (.agg ⟨X.tg.cs⟩)] m' (.int .i64 N.t)
 ex:¬X.k=11->∀m',ae mm m' ->aJ 34 [.v (.agg ⟨X.ex.cs⟩)] m' (.int .i64 N.x)
 arg:X.k=11->∀m',ae mm m' ->∀j,j<X.ex.l->∃(Y:Nd) (d:Nat),(Rd m' (cM X.ex.a (j * 8)) Y.cs/\X.ex.a≠none)/\aJ 34 [.v (.agg ⟨Y.cs⟩)] m' (.int .i64 d)/\N.dl (j+1)=max (N.dl j) d
 dl0:N.dl 0=0
 ln:X.ex.l<=av
theorem aeX {h:Nat} (ih:∀h',h' <h->∀(l:List St) (a:Option Addr) (n c:Nat) (xs:List Value) (m:Mem),dq l<=h' ->h' <=av->ee l<=av->n=l.length->n<=av->aZ m a n 23 xs->bZ m l xs->CY [.v (.slice a n c)] m (dq l) (ee l))
  {e:St} {cs:List Value} {mm:Mem} (hd:eQ e<=h) (hb:h<=av) (hx:pC e<=av) (aT:fK mm e cs):
  ∃(X:Sd) (N:DepN),cs=X.cs/\DepIt X N mm/\eQ e=max N.b1 N.a1+1/\pC e=max (max N.b2 N.a2) (max N.t (if X.k=11 then N.dl X.ex.l else N.x)):=by
 cases e with
 |mk k nm ty tg ex body alt=>
  obtain⟨X,rfl,rfl,rfl,rfl,df,hex,hl,bg,ck,ea,ar,xs,ys,r1,r2,s1,s2⟩:=qX aT;simp only[eQ] at hd;simp only[pC] at hx;cases ex with
  |mk xk xn xss xc xty args=>
   obtain⟨y,hy,h1,h2,h3,h4,h5,h6,h7,h8,zs,r3,s3⟩:=qZ hex;have hy:=zN hy;subst hy;refine⟨X,⟨dq body,ee body,dq alt,ee alt,b6 tg,b6 (.mk xk xn xss xc xty args),fun j=>kN (args.take j)⟩,rfl,⟨fun m' hle=> ?_,fun m' hle=> ?_,fun m' hle=> ?_,fun hk m' hle=> ?_,fun hk m' hle j hj=> ?_,by simp [kN],h8⟩,by simp only[eQ],?_⟩
   ·exact ih (dq body) (by omega) body X.a X.l X.cp xs m' (au _) (by omega) (by omega) hl (by rw[hl];exact ar.l) (ax hle r1) (dp hle s1)
   ·exact ih (dq alt) (by omega) alt X.b X.l2 X.cp2 ys m' (au _) (by omega) (by omega) ck (by rw[ck];exact ar.l2) (ax hle r2) (dp hle s2)
   ·exact Bi _ tg _ m' (au _) (by omega) (bw hle df)
   ·rw[af hk] at hx;exact Bi _ _ _ m' (au _) (by omega) (bw hle hex)
   ·rw[ah hk] at hx;simp only[xP] at hx;have LG:j<args.length:=by omega
    have J9:=bw hle (rv s3 LG);obtain⟨Y,hY⟩:=o5 J9;have bU:=dA (ax hle r3) hj;rw[hY] at bU J9;exact⟨Y,b6 args[j],bU,Bi _ _ _ m' (au _) (by have:=zh LG;omega) J9,Ea LG⟩
   ·simp only[pC,xP];rw[fi (by omega:args.length<=X.ex.l)]
theorem NI:∀(h:Nat) (l:List St) (a:Option Addr) (n c:Nat) (xs:List Value) (m:Mem),dq l<=h->h<=av->ee l<=av->n=l.length->n<=av->aZ m a n 23 xs->bZ m l xs->CY [.v (.slice a n c)] m (dq l) (ee l):=by
 intro h;induction h using Nat.strongRecOn with
 |ind h ih=>
  intro l a n c xs m hd hb hx hl hn hr hs;refine aR aB Tryz.func143 ?_
  ·simp only[go_sem];refine du aB (fun x:Nat×Int×Int×Mem=>⟨[⟨4,[],.v (.int .i64 x.2.1)⟩,⟨5,[],.v (.int .i64 x.2.2.1)⟩,⟨14,[],.v (.slice a n c)⟩,⟨15,[],.v (.int .i64 n)⟩,⟨16,[],.v (.int .i64 x.1)⟩],[],[],[],0,x.2.2.2⟩)
    (fun x=>ae m x.2.2.2/\x.1<=n/\x.2.1=dq (l.take x.1)/\x.2.2.1=ee (l.take x.1)) (fun x=>n - x.1) (0,0,0,m) (fun _ _=>au _) (fun x hx=>hx.1) ?_ ?_ ?_
   ·simp only[go_sem];rfl
   ·exact⟨.inl rfl,aG _,by simp [dq],by simp [ee]⟩
   ·rintro⟨k,s,e,mm⟩ ⟨h1,h2,h3,h4⟩;simp only at h1 h2 h3 h4;have hy:∀(hk:k<l.length),∃(X:Sd) (N:DepN),(Rd mm (cM a (k * 23)) X.cs/\a≠none)/\DepIt X N mm/\eQ l[k]=max N.b1 N.a1+1/\pC l[k]=max (max N.b2 N.a2) (max N.t (if X.k=11 then N.dl X.ex.l else N.x)):=fun hk=>by
     have aT:=sL h1 (qc hs hk);have q1:=lY (List.getElem_mem hk);have q2:=NG (List.getElem_mem hk);obtain⟨X,N,hX,hD,e1,e2⟩:=aeX ih (by omega) hb (by omega) aT;have bU:=dA (ax h1 hr) (by omega:k<n);rw[hX] at bU;exact⟨X,N,bU,hD,e1,e2⟩
    have dz:=Eb l k;have fQ:=Il l k;have mM:∀(hk:k<l.length),dq (l.take (k+1))=max (dq (l.take k)) (eQ l[k])/\dq (l.take (k+1))<=dq l:=fun hk=>⟨AV hk,Eb l _⟩
    have sn:∀(hk:k<l.length),ee (l.take (k+1))=max (ee (l.take k)) (pC l[k])/\ee (l.take (k+1))<=ee l:=fun hk=>⟨M0 hk,Il l _⟩
    clear ih;simp only[go_sem];refine⟨fun ay=> ?_,fun cg=> ?_⟩
    ·have hk:k<l.length:=by clear hy;omega
     have g3:=mM hk;have g4:=sn hk;refine Exists.elim (hy hk) fun X br=>Exists.elim br fun N jq=>⟨⟨by clear hy br jq;omega,ay,jq.1.2⟩,X.cs,⟨jq.1.1,rfl⟩,?_⟩
     clear hy br;have hD:=jq.2.1;have e1:=jq.2.2.1;have e2:=jq.2.2.2;rw[e1] at g3;rw[e2] at g4;clear jq e1 e2;simp only[go_sem,Sd.cs,Nd.cs];refine ab ((hD.body mm (.inl rfl)).mono ?_);rintro r H' n1 tQ ⟨k1,rfl,rfl⟩;simp only[go_sem,Sd.cs,Nd.cs];refine ab ((hD.alt n1 k1).mono ?_);rintro r H' n2 GI ⟨k2,rfl,rfl⟩;have UE:=aa k1 k2;simp only[go_sem,Sd.cs,Nd.cs];refine⟨by clear hD;unfold aF;simp only[av] at hb;split<;>omega,by kernel_rfl,bo ((aQ (hD.tg n2 UE) (fun V=>rfl)).mono ?_)⟩;rintro r H' n3 UY ⟨k3,rfl,rfl⟩;have Gx:=aa UE k3;simp only[go_sem,Sd.cs,Nd.cs];have hS:(if s<1+(if(N.b1:Int)<N.a1 then(N.a1:Int) else N.b1) then 1+(if(N.b1:Int)<N.a1 then(N.a1:Int) else N.b1) else s)=((dq (l.take (k+1)):Nat):Int):=by
      clear hD mM sn;rw[g3.1,h3];split<;>split<;>omega
     have jM:mx (mx (mx e N.b2) N.a2) N.t=((max (max (max (ee (l.take k)) N.b2) N.a2) N.t:Nat):Int):=by
      clear hD mM sn hS;simp only[mx,h4]
      (repeat' split)<;>omega
     refine Exists.elim (Exists.intro (max (max (max (ee (l.take k)) N.b2) N.a2) N.t) rfl:∃B0:Nat,max (max (max (ee (l.take k)) N.b2) N.a2) N.t=B0) fun B0 hB=> ?_
     rw[hB] at jM;refine⟨fun CS=> ?_,fun CS=> ?_⟩
     ·refine ab ((aQ (hD.ex CS n3 Gx) (fun V=>rfl)).mono ?_);clear hD;rintro r H' n4 UX ⟨k4,rfl,rfl⟩;simp only[go_sem,Sd.cs,Nd.cs];rw[af CS] at g4;refine⟨by unfold aF;simp only[av] at hn;omega,(k+1,((dq (l.take (k+1)):Nat):Int),((ee (l.take (k+1)):Nat):Int),n4),⟨⟨hS,?_,by simp⟩,.inl rfl⟩,⟨aa h1 (aa Gx k4),by simp only;omega,rfl,rfl⟩,by simp only;omega⟩;simp only;rw[jM,g4.1];clear hS jM mM sn g3 h3 h4;split<;>omega
     ·rw[ah CS] at g4;refine du aB (fun x' :Nat×Int×Mem=>⟨[⟨4,[],.v (.int .i64 (dq (l.take (k+1)):Nat))⟩,⟨5,[],.v (.int .i64 x'.2.1)⟩,⟨14,[],.v (.slice a n c)⟩,⟨15,[],.v (.int .i64 n)⟩,⟨16,[],.v (.int .i64 k)⟩,⟨55,[],.v (.slice X.ex.a X.ex.l X.ex.cp)⟩,⟨56,[],.v (.int .i64 X.ex.l)⟩,⟨57,[],.v (.int .i64 x'.1)⟩],[],[],[],1,x'.2.2⟩)
       (fun x' =>ae n3 x'.2.2/\x'.1<=X.ex.l/\x'.2.1=((max B0 (N.dl x'.1):Nat):Int)) (fun x' =>X.ex.l - x'.1) (0,(B0:Int),n3) (fun _ _=>au _) (fun x hx=>hx.1) ?_ ?_ ?_
      ·simp only[go_sem];exact⟨hS,jM,rfl⟩
      ·exact⟨.inl rfl,aG _,by rw[hD.dl0,Nat.max_zero]⟩
      ·rintro⟨j,e',mj⟩ ⟨q1,q2,q3⟩;simp only at q1 q2 q3;have hz:=hD.arg CS mj (aa Gx q1) j;have Dp:=hD.ln;clear hD;simp only[go_sem];refine⟨fun KI=> ?_,fun aot=> ?_⟩
       ·refine Exists.elim (hz (by clear hz;omega)) fun Y tJ=>Exists.elim tJ fun dj vk=>⟨⟨by clear hz tJ vk;omega,KI,vk.1.2⟩,Y.cs,⟨vk.1.1,rfl⟩,?_⟩
        clear hz tJ;have Vf:=vk.2.1;have hdj:=vk.2.2;clear vk;simp only[go_sem,Nd.cs];refine ab ((aQ Vf (fun V=>rfl)).mono ?_);clear Vf;rintro r H' n5 hn5 ⟨k5,rfl,rfl⟩;simp only[go_sem];refine⟨by unfold aF;simp only[av] at Dp;omega,(j+1,((max B0 (N.dl (j+1)):Nat):Int),n5),⟨⟨?_,by simp⟩,.inl rfl⟩,⟨aa q1 k5,by simp only;omega,by simp only[Nat.max_def]⟩,by simp only;omega⟩;simp only;rw[hdj,q3];clear hS jM mM sn g3 g4 h3 h4 hB
        (repeat' split)<;>omega
       ·clear hz;have hj:j=X.ex.l:=by omega
        refine⟨by unfold aF;simp only[av] at hn;omega,(k+1,((dq (l.take (k+1)):Nat):Int),((ee (l.take (k+1)):Nat):Int),mj),⟨⟨rfl,?_,by simp⟩,.inl rfl⟩,⟨aa h1 (aa Gx q1),by simp only;omega,rfl,rfl⟩,by simp only;omega⟩;simp only;rw[q3,g4.1,hj];clear hS jM mM sn g3 h3 h4
        (repeat' split)<;>omega
    ·clear hy mM sn;have:l.take k=l:=fi (by omega);rw[this] at h3 h4;rw[h3,h4];exact⟨h1,rfl⟩
def kB:List Md->Nat
 |[]=>0
 |e::r=>max (dq e.body) (kB r)
def kC:List Md->Nat
 |[]=>0
 |e::r=>max (ee e.body) (kC r)
def tc (d:Cd):Bool:=decide (24<max (dq d.init) (kB d.methods))||decide (24<max (ee d.init) (kC d.methods))
structure CdB (d:Cd):Prop where
 s:dq d.init<=av
 e:ee d.init<=av
 ms:kB d.methods<=av
 me:kC d.methods<=av
theorem Oi:∀{l:List Md} {k:Nat} (hk:k<l.length),kB (l.take (k+1))=max (kB (l.take k)) (dq l[k].body)
 |[],_,hk=>absurd hk (Nat.not_lt_zero _)
 |e::r,0,_=>by simp [kB]
 |e::r,k+1,hk=>by
  have:=Oi (l:=r) (k:=k) (by simpa using hk);simp only[List.take_succ_cons,kB,this,List.getElem_cons_succ,Nat.max_assoc]
theorem Oj:∀{l:List Md} {k:Nat} (hk:k<l.length),kC (l.take (k+1))=max (kC (l.take k)) (ee l[k].body)
 |[],_,hk=>absurd hk (Nat.not_lt_zero _)
 |e::r,0,_=>by simp [kC]
 |e::r,k+1,hk=>by
  have:=Oj (l:=r) (k:=k) (by simpa using hk);simp only[List.take_succ_cons,kC,this,List.getElem_cons_succ,Nat.max_assoc]
theorem PV:∀{l:List Md} {e:Md},e∈l->dq e.body<=kB l
 |[],e,he=>by cases he
 |x::r,e,he=>by
  simp only[kB];rcases List.mem_cons.1 he with rfl |he
  ·omega
  ·have:=PV he;omega
theorem PW:∀{l:List Md} {e:Md},e∈l->ee e.body<=kC l
 |[],e,he=>by cases he
 |x::r,e,he=>by
  simp only[kC];rcases List.mem_cons.1 he with rfl |he
  ·omega
  ·have:=PW he;omega
theorem YN (d:Cd) (cs:List Value) (m:Mem) (hB:CdB d) (h:ki m d cs):aJ 55 [.v (.agg ⟨cs⟩)] m (.bool (tc d)):=by
 obtain⟨fl,name,super,ifs,fields,methods,init⟩:=d;obtain⟨x,⟨rfl,rfl,rfl,rfl⟩,⟨dG,hic,fU,hfc,hml,hmc,fF,hsc⟩,ar,r1,r2,xs,ys,r3,s3,r4,s4⟩:=h;simp only at dG fU hml fF r1 r2 s3 s4;obtain⟨b1,b2,b3,b4⟩:=hB;simp only at b1 b2 b3 b4;have hI:=NI (dq init) init x.sa x.sl x.sc ys m (au _) b1 b2 fF (by rw[fF];exact ar.l) r4 s4;have LA:x.ml<=av:=by rw[hml];exact ar.ml
 refine enter gP aB Tryz.func55 rfl rfl (by kernel_rfl) rfl ?_ ?_
 ·simp only[go_sem,Cc.cs]
 ·simp only[go_sem,Cc.cs];refine ab (hI.mono ?_);clear hI;rintro r H' m1 aN ⟨l1,rfl,rfl⟩;simp only[go_sem,Cc.cs];refine du aB (fun x' :Nat×Int×Int×Mem=>⟨[⟨3,[],.v (.int .i64 x'.2.1)⟩,⟨4,[],.v (.int .i64 x'.2.2.1)⟩,⟨16,[],.v (.slice x.ma x.ml x.mc)⟩,⟨17,[],.v (.int .i64 x.ml)⟩,⟨18,[],.v (.int .i64 x'.1)⟩],[],[],[],1,x'.2.2.2⟩)
   (fun x' =>ae m1 x'.2.2.2/\x'.1<=x.ml/\x'.2.1=max (dq init) (kB (methods.take x'.1))/\x'.2.2.1=max (ee init) (kC (methods.take x'.1))) (fun x' =>x.ml - x'.1) (0,dq init,ee init,m1) (fun _ _=>au _) (fun x hx=>hx.1) ?_ ?_ ?_
  ·simp only[go_sem];rfl
  ·exact⟨.inl rfl,aG _,by simp [kB],by simp [kC]⟩
  ·rintro⟨k,s,e,mm⟩ ⟨h1,h2,h3,h4⟩;simp only at h1 h2 h3 h4;have hy:∀(hk:k<methods.length),∃(X:Mc) (v1 v2:Nat),(Rd mm (cM x.ma (k * 8)) X.cs/\x.ma≠none)/\CY [.v (.slice X.a X.l X.cp)] mm v1 v2/\(kB (methods.take (k+1))=max (kB (methods.take k)) v1/\kC (methods.take (k+1))=max (kC (methods.take k)) v2)/\v1<=av/\v2<=av:=fun hk=>by
    have aT:=p8 (aa l1 h1) (nI s3 hk);have q1:=PV (List.getElem_mem hk);have q2:=PW (List.getElem_mem hk);have bU:=dA (ax (aa l1 h1) r3) (by omega:k<x.ml);have t1:=Oi hk;have t2:=Oj hk;obtain⟨X,⟨e1,_⟩,⟨e2,e3,e4,e5⟩,vl,_,zs,r5,s5⟩:=aaa aT;rw[e1] at bU;exact⟨X,_,_,bU,NI _ _ X.a X.l X.cp zs mm (au _) (by omega) (by omega) e4 (by rw[e4];exact vl.l) r5 s5,⟨t1,t2⟩,by omega,by omega⟩
   simp only[go_sem];refine⟨fun ay=> ?_,fun cg=> ?_⟩
   ·have hk:k<methods.length:=by clear hy;omega
    refine Exists.elim (hy hk) fun X fT=>Exists.elim fT fun v1 fE=>Exists.elim fE fun v2 wK=>⟨⟨by clear hy fT fE wK;omega,ay,wK.1.2⟩,X.cs,⟨wK.1.1,rfl⟩,?_⟩
    clear hy fT fE;have hD:=wK.2.1;have e1:=wK.2.2.1.1;have e2:=wK.2.2.1.2;clear wK;simp only[go_sem,Mc.cs];refine ab (hD.mono ?_);clear hD;rintro r H' m2 aH ⟨l2,rfl,rfl⟩;simp only[go_sem];refine⟨by unfold aF;simp only[av] at LA;omega,(k+1,((max (dq init) (kB (methods.take (k+1))):Nat):Int),((max (ee init) (kC (methods.take (k+1))):Nat):Int),m2),⟨⟨?_,?_,by simp⟩,.inl rfl⟩,⟨aa h1 l2,by simp only;omega,by simp only[Nat.max_def],by simp only[Nat.max_def]⟩,by simp only;omega⟩
    ·simp only;rw[e1,h3];clear h3 h4 e1 e2
     (repeat' split)<;>omega
    ·simp only;rw[e2,h4];clear h3 h4 e1 e2
     (repeat' split)<;>omega
   ·clear hy;have:methods.take k=methods:=fi (by omega);rw[this] at h3 h4;have e0:tc ⟨x.fl,x.name,x.super,ifs,fields,methods,init⟩=(decide (24<max (dq init) (kB methods))||decide (24<max (ee init) (kC methods))):=rfl;refine⟨aa l1 h1,?_⟩;rw[e0];congr 1
    ·rw[decide_eq_decide];omega
    ·rw[decide_eq_decide];omega
def js {α:Type} [BEq α]:List α->List α->Bool
 |_,[]=>false
 |seen,a::r=>seen.contains a||js (seen++[a]) r
def ns (d:Cd):Bool:=js [] d.ifs||js [] (d.fields.map (·.name))||js [] (d.methods.map fun m=>(m.name,m.params.length))
def u9 (l:List (List UInt8)):List Value:=(l.map fun s=>[.string (bs s),.bool true]).flatten
theorem A3:∀(l:List Value),mX (l.map .v)=some l
 |[]=>rfl
 |x::r=>by simp [mX,plain,A3 r]
theorem E3 {n:Nat} {vc:List Vc}:∀(l:List Value),fO n vc (l.map .v)=True
 |[]=>rfl
 |x::r=>by simp [fO,lS,E3 r]
theorem R9 {a b:List UInt8}:(Value.string (bs a)=Value.string (bs b))=(a=b):=propext ⟨fun h=>zQ (Value.string.inj h),fun h=>by rw[h]⟩
theorem D9 (s:List UInt8):∀(l:List (List UInt8)),Db (my (u9 l) (.string (bs s)))=l.contains s
 |[]=>rfl
 |a::r=>by
  have e:u9 (a::r)= .string (bs a):: .bool true::u9 r:=rfl;rw[e,my,R9,List.contains_cons];by_cases h:a=s
  ·rw[ah h];subst h;simp [Db]
  ·rw[af h,D9 s r,(beq_eq_false_iff_ne.2 fun e=>h e.symm:(s==a)=false),Bool.false_or]
theorem IF (s:List UInt8):∀(l:List (List UInt8)),l.contains s=false->wh (u9 l) (.string (bs s)) (.bool true)=u9 (l++[s])
 |[],_=>rfl
 |a::r,h=>by
  have e:u9 (a::r)= .string (bs a):: .bool true::u9 r:=rfl;rw[List.contains_cons,Bool.or_eq_false_iff] at h;have hn:¬a=s:=fun e=>(beq_eq_false_iff_ne.1 h.1) e.symm
  rw[e,wh,R9,af hn,IF s r h.2];rfl
abbrev wz:=List UInt8×Nat
def tv (k:wz):Value:= .agg ⟨[.string (bs k.1),.int .i64 k.2]⟩
theorem aed (k:wz):gM 1000001 (tv k)=True:=SD _ _
def wx (l:List wz):List Value:=(l.map fun k=>[tv k,.bool true]).flatten
theorem Rs {a b:wz}:(tv a=tv b)=(a=b):=propext ⟨fun h=>by
 obtain⟨a1,a2⟩:=a;obtain⟨b1,b2⟩:=b;simp only[tv,Value.agg.injEq,Array.mk.injEq,List.cons.injEq,Value.string.injEq,Value.int.injEq,true_and,and_true] at h
 rw[zQ h.1,show a2=b2 by omega],fun h=>by rw[h]⟩
theorem ND (k:wz):∀(l:List wz),Db (my (wx l) (tv k))=l.contains k
 |[]=>rfl
 |a::r=>by
  have e:wx (a::r)=tv a:: .bool true::wx r:=rfl;rw[e,my,Rs,List.contains_cons];by_cases h:a=k
  ·rw[ah h];subst h;simp [Db]
  ·rw[af h,ND k r,(beq_eq_false_iff_ne.2 fun e=>h e.symm:(k==a)=false),Bool.false_or]
theorem N4 (k:wz):∀(l:List wz),l.contains k=false->wh (wx l) (tv k) (.bool true)=wx (l++[k])
 |[],_=>rfl
 |a::r,h=>by
  have e:wx (a::r)=tv a:: .bool true::wx r:=rfl;rw[List.contains_cons,Bool.or_eq_false_iff] at h;have hn:¬a=k:=fun e=>(beq_eq_false_iff_ne.1 h.1) e.symm
  rw[e,wh,Rs,af hn,N4 k r h.2];rfl
theorem abh {m:Mem} {a:Option Addr} {n k c:Nat} {l:List (List UInt8)} (h:aZ m a n 1 (strs l)) (hk:k<=n):aZ m (if c=0 then a else a.map (·.add (0 * 1))) (k - 0) 1 (strs (l.take k)):=by
 have hl:=h.1;simp only[strs,List.length_map,Nat.mul_one] at hl;refine⟨by simp [strs];omega,fun h0=> ?_⟩;obtain⟨ad,rfl,hs,jE⟩:=h.2 (by omega);have e:(if c=0 then some ad else(some ad).map (·.add (0 * 1)))=some ad:=by
  by_cases hc:c=0
  ·rw[ah hc]
  ·rw[af hc];rfl
 refine⟨ad,e,hs,fun j hj=> ?_⟩;obtain⟨h1,h2⟩:=jE j (by omega);refine⟨?_,h2⟩;rw[h1];simp only[strs,List.getElem?_map,List.getElem?_take];rw[ah (by omega)]
theorem zo {α:Type} [BEq α] {l:List α} {k:Nat} (hk:k<l.length):js (l.take k) (l.drop k)=((l.take k).contains l[k]||js (l.take (k+1)) (l.drop (k+1))):=by
 rw[List.drop_eq_getElem_cons hk,js,List.take_succ_eq_append_getElem hk]
/-! The types of the maps. -/
theorem JC:jn Tryz.prog 90=(1000000,none):=by kernel_rfl
theorem B3:jn Tryz.prog 151=(1000001,none):=by kernel_rfl
theorem ace:v8 Tryz.prog 90:=
 Yz (k:=9) (e:=4) (by kernel_rfl) (by kernel_rfl) (by rw[JC];decide) fun w=>by
  rw[JC];exact NP (i:=(Tryz.prog.info? 4).getD default) (by kernel_rfl) (by kernel_rfl) w
theorem Ju:fB Tryz.prog 153=some [.v (.string (bs [])),.v (.int .i64 0)]:=by kernel_rfl
theorem ahE:eR Tryz.prog 153=some (some 2):=by kernel_rfl
theorem aic:bX Tryz.prog 153=2:=by kernel_rfl
theorem acx:da Tryz.prog 153 0=some (0,none,1):=by kernel_rfl
theorem acw:da Tryz.prog 153 1=some (1,none,1):=by kernel_rfl
theorem aht:nO Tryz.prog 153=true:=by kernel_rfl
theorem aeV:vb Tryz.prog 153:=RH Ju (by kernel_rfl) (by kernel_rfl) (by kernel_rfl) rfl (by kernel_rfl)
attribute [go_sem] JC B3 Ju ahE aic acx acw aht
theorem adJ {a b:ByteArray}:tl a=tl b↔a=b:=⟨fun h=>by have:=congrArg bs h;rwa [oG,oG] at this,fun h=>by rw[h]⟩
theorem RE {s:ByteArray} {n:Int} (w:World):∀(es:List MapEntry) (i:Nat),(∀x∈es,∃a k,x.key= .agg ⟨[.string a,.int .i64 k]⟩)->
  (Instr.findAsking 153 (.agg ⟨[.string s,.int .i64 n]⟩) es i).run Tryz.prog w= .ok (wJ es (.agg ⟨[.string s,.int .i64 n]⟩) i) w
 |[],_,_=>rfl
 |e::es,i,h=>by
  obtain⟨a,k,ha⟩:=h e (bY ..);have ih:=RE (s:=s) (n:=n) w es (i+1) fun x hx=>h x (bR _ hx)
  have he:=(aeV [.string s,.int .i64 n] [.string a,.int .i64 k] (decide (tl s=tl a)&&(decide (n=k)&&true)) w (.const undef) (.const undef) .eql rfl (by rw[Ju];rfl)).2;simp only[Instr.findAsking,Sem.run_bind,ha,wJ];rw[show(Array.mk [Value.string s,Value.int .i64 n])=[Value.string s,Value.int .i64 n].toArray from rfl,show(Array.mk [Value.string a,Value.int .i64 k])=[Value.string a,Value.int .i64 k].toArray from rfl,he];simp only[Result.andThen_ok];by_cases hk:(Value.agg [Value.string a,Value.int .i64 k].toArray=Value.agg [Value.string s,Value.int .i64 n].toArray)
  ·rw[ah (ha.trans hk)];simp only[Value.agg.injEq,Array.mk.injEq,List.cons.injEq,Value.string.injEq,Value.int.injEq,true_and,and_true] at hk;obtain⟨rfl,rfl⟩:=hk;simp
  ·rw[af fun e=>hk (ha.symm.trans e)];have:(decide (tl s=tl a)&&(decide (n=k)&&true))=false:=by
    simp only[Value.agg.injEq,Array.mk.injEq,List.cons.injEq,Value.string.injEq,Value.int.injEq,true_and,and_true] at hk;simp only[Bool.and_true,Bool.and_eq_false_iff,decide_eq_false_iff_not,adJ];by_cases h1:s=a
    ·exact .inr fun h2=>hk ⟨h1.symm,h2.symm⟩
    ·exact .inl h1
   rw[this];exact ih
theorem acd:v8 Tryz.prog 151:=by
 refine⟨by rw[B3];decide,153,4,by kernel_rfl,fun w key em n hk=> ?_,fun w key es hk eE=> ?_,fun w=> ?_⟩
 ·rw[B3] at hk;unfold gM at hk;rw[ah rfl] at hk;obtain⟨s,k,rfl⟩:=hk;have hu:Tryz.prog.underlying 153=some (.struct (Tryz.prog.fieldsOf 153)):=by kernel_rfl
  have pU:Tryz.prog.fieldsOf 153= #[(Tryz.prog.fieldsOf 153).getD 0 default,(Tryz.prog.fieldsOf 153).getD 1 default]:=by kernel_rfl
  rw[pU] at hu;have n0:((Tryz.prog.fieldsOf 153).getD 0 default).name= "name" :=by kernel_rfl
  have n1:((Tryz.prog.fieldsOf 153).getD 1 default).name= "params" :=by kernel_rfl
  have t0:((Tryz.prog.fieldsOf 153).getD 0 default).type=9:=by kernel_rfl
  have t1:((Tryz.prog.fieldsOf 153).getD 1 default).type=3:=by kernel_rfl
  have o0:((Tryz.prog.fieldsOf 153).getD 0 default).offset=0:=by kernel_rfl
  have o1:((Tryz.prog.fieldsOf 153).getD 1 default).offset=1:=by kernel_rfl
  have p0:=run_part_plain (P:=Tryz.prog) (w:=w) (e:=9) (by kernel_rfl) (xs:= #[.string s,.int .i64 k]) (off:=0) (v:= .string s) rfl;have p1:=run_part_plain (P:=Tryz.prog) (w:=w) (e:=3) (by kernel_rfl) (xs:= #[.string s,.int .i64 k]) (off:=1) (v:= .int .i64 k) rfl;have c0:=MapKept.run_checkKey (P:=Tryz.prog) (w:=w) (kt:=9) (d:= .string) (k:= .string s) (by kernel_rfl) (by simp [MapKept.IsKey]) em n;have c1:=MapKept.run_checkKey (P:=Tryz.prog) (w:=w) (kt:=3) (d:= .int .i64) (k:= .int .i64 k) (by kernel_rfl) (by simp [MapKept.IsKey]) em n;generalize (Tryz.prog.fieldsOf 153).getD 0 default=f0 at *
  generalize (Tryz.prog.fieldsOf 153).getD 1 default=f1 at *
  rw[Instr.checkKey];simp [run_underlying hu,Result.andThen,n0,n1,t0,t1,o0,o1,p0,p1,c0,c1]
 ·rw[B3] at hk eE;unfold gM at hk eE;simp only[if_true] at hk eE;obtain⟨s,k,rfl⟩:=hk;rw[run_findKey_eq w (by kernel_rfl)];exact RE w es 0 eE
 ·rw[B3];exact NP (i:=(Tryz.prog.info? 4).getD default) (by kernel_rfl) (by kernel_rfl) w
attribute [go_sem] ace acd
theorem aaQ (d:Cd) (cs:List Value) (m:Mem) (h:ki m d cs):aJ 56 [.v (.agg ⟨cs⟩)] m (.bool (ns d)):=by
 obtain⟨fl,name,super,ifs,fields,methods,init⟩:=d;obtain⟨x,⟨rfl,rfl,rfl,rfl⟩,⟨dG,hic,fU,hfc,hml,hmc,fF,hsc⟩,ar,r1,r2,xs,ys,r3,s3,r4,s4⟩:=h;simp only at dG fU hml fF r1 r2 r3 s3 r4 s4;have U1:x.il<=av:=by rw[dG];exact ar.il
 have hfb:x.fn<=av:=by rw[fU];exact ar.fn
 have LA:x.ml<=av:=by rw[hml];exact ar.ml
 clear r4 s4;refine enter gP aB Tryz.func56 rfl rfl (by kernel_rfl) rfl ?_ ?_
 ·simp only[go_sem,Cc.cs]
 ·simp only[go_sem,Cc.cs];refine ei aB (fun x' :Nat×Mem=>⟨[⟨1,[],.box 0 0⟩,⟨13,[],.v (.slice x.ia x.il x.ic)⟩,⟨14,[],.v (.int .i64 x.il)⟩,⟨15,[],.v (.int .i64 x'.1)⟩],[],[⟨0,59,x.cs.map .v⟩],[],1,x'.2⟩)
   (fun x' =>ae m x'.2/\x'.1<=x.il/\js [] ifs=js (ifs.take x'.1) (ifs.drop x'.1)) (fun x' =>x.il - x'.1) (0,m) (by kernel_rfl) (fun _ _=>au _) (fun x hx=>hx.1) (fun _=> ?_) ?_ ?_ ?_
  ·simp only[go_sem,Cc.cs]
  ·simp only[go_sem,Cc.cs];rfl
  ·exact⟨.inl rfl,aG _,rfl⟩
  ·rintro⟨k,mm⟩ ⟨h1,h2,h3⟩;simp only at h1 h2 h3;have hy:∀(hk:k<ifs.length),(Rd mm (cM x.ia k) [.string (bs ifs[k])]/\x.ia≠none)/\FnH Tryz.prog 144 [.v (Le x.ia x.ic 0 k 1),.v (.string (bs ifs[k]))] ⟨[],[]⟩ mm fun r H' _=>r= .v (.bool ((ifs.take k).contains ifs[k]))/\H' =⟨[],[]⟩:=fun hk=>
    ⟨zw (ax h1 r1) hk,yP (ifs.take k) ifs[k] _ (k - 0) (x.ic - 0) mm (abh (ax h1 r1) (by omega)) (by simp only[av] at U1;omega)⟩
   simp only[go_sem,Cc.cs];refine⟨fun ay=> ?_,fun cg=> ?_⟩
   ·have hk:k<ifs.length:=by clear hy;omega
    have br:=hy hk;clear hy;refine⟨⟨by clear br;omega,ay,br.1.2⟩,_,br.1.1,?_⟩;simp only[go_sem,Cc.cs];have kK:=zo hk;refine⟨⟨Int.le_refl _,by clear br;omega,by clear br;omega⟩,by kernel_rfl,bo (br.2.mono ?_)⟩;clear br;rintro r H' m2 aH ⟨rfl,rfl⟩;simp only[go_sem,Cc.cs];refine⟨fun hc=>⟨aa h1 (.inr aH),?_⟩,fun hc=>⟨by unfold aF;simp only[av] at U1;omega,(k+1,m2),⟨by simp,.inl rfl⟩,⟨aa h1 (.inr aH),by simp only;omega,?_⟩,by simp only;omega⟩⟩
    ·simp only[ns,h3,kK,hc,Bool.true_or]
    ·simp only;rw[h3,kK,hc,Bool.false_or]
   ·clear hy;have hI:js [] ifs=false:=by
     rw[h3,List.drop_of_length_le (by omega)];rfl
    refine ei aB (fun x' :Nat×Mem=>⟨[⟨1,[],.box 0 0⟩,⟨5,[],.mp 1⟩,⟨29,[],.v (.slice x.fa x.fn x.fc)⟩,⟨30,[],.v (.int .i64 x.fn)⟩,⟨31,[],.v (.int .i64 x'.1)⟩],[],[⟨1,1000000,(u9 ((fields.map (·.name)).take x'.1)).map .v⟩,⟨0,59,x.cs.map .v⟩],[],2,x'.2⟩)
     (fun x' =>ae mm x'.2/\x'.1<=x.fn/\js [] (fields.map (·.name))=js ((fields.map (·.name)).take x'.1) ((fields.map (·.name)).drop x'.1)) (fun x' =>x.fn - x'.1) (0,mm) (by kernel_rfl) (fun _ _=>au _) (fun x hx=> ?_) (fun _=> ?_) ?_ ?_ ?_
    ·exact hx.1
    ·simp only[go_sem,Cc.cs,E3]
    ·simp only[go_sem,Cc.cs];exact⟨rfl,rfl⟩
    ·exact⟨.inl rfl,aG _,rfl⟩
    ·rintro⟨j,mj⟩ ⟨q1,q2,q3⟩;simp only at q1 q2 q3;have hy:∀(hj:j<fields.length),Rd mj (cM x.fa (j * 5)) (fields[j]).cs/\x.fa≠none:=fun hj=>by
      have:=dA (ax (aa h1 q1) r2) (by omega:j<x.fn);rw[pd (f:=Fc.cs) (sz:=5) (fun _=>rfl) hj] at this;exact this
     simp only[go_sem,Cc.cs];refine⟨fun ay=> ?_,fun cg=> ?_⟩
     ·have hj:j<fields.length:=by omega
      refine⟨⟨by omega,ay,(hy hj).2⟩,(fields[j]).cs,⟨(hy hj).1,rfl⟩,?_⟩;simp only[go_sem,Cc.cs,Fc.cs,A3,D9];have n9:j<(fields.map (·.name)).length:=by simpa using hj
      have kK:=zo n9;have CT:(fields.map (·.name))[j]=fields[j].name:=by simp
      rw[CT] at kK;refine⟨fun hc=>⟨aa h1 q1,?_⟩,fun hc=>⟨by unfold aF;simp only[av] at hfb;omega,(j+1,mj),⟨by simp,?_,.inl rfl⟩,⟨q1,by simp only;omega,?_⟩,by simp only;omega⟩⟩
      ·simp only[ns,q3,kK,hc,Bool.true_or,Bool.or_true]
      ·simp only;rw[IF _ _ hc,List.take_succ_eq_append_getElem n9,CT]
      ·simp only;rw[q3,kK,hc,Bool.false_or]
     ·have hF:js [] (fields.map (·.name))=false:=by
       rw[q3,List.drop_of_length_le (by simp;omega)];rfl
      refine ei aB (fun x' :Nat×Mem=>⟨[⟨1,[],.box 0 0⟩,⟨8,[],.mp 2⟩,⟨45,[],.v (.slice x.ma x.ml x.mc)⟩,⟨46,[],.v (.int .i64 x.ml)⟩,⟨47,[],.v (.int .i64 x'.1)⟩],[],[⟨2,1000001,(wx ((methods.map fun m=>(m.name,m.params.length)).take x'.1)).map .v⟩,⟨0,59,x.cs.map .v⟩],[],3,x'.2⟩)
       (fun x' =>ae mj x'.2/\x'.1<=x.ml/\js [] (methods.map fun m=>(m.name,m.params.length))=js ((methods.map fun m=>(m.name,m.params.length)).take x'.1) ((methods.map fun m=>(m.name,m.params.length)).drop x'.1)) (fun x' =>x.ml - x'.1) (0,mj) (by kernel_rfl) (fun _ _=>au _) (fun x hx=>hx.1) (fun _=> ?_) ?_ ?_ ?_
      ·simp only[go_sem,Cc.cs,E3]
      ·simp only[go_sem,Cc.cs];exact⟨rfl,rfl⟩
      ·exact⟨.inl rfl,aG _,rfl⟩
      ·rintro⟨k,mk⟩ ⟨p1,p2,p3⟩;simp only at p1 p2 p3;have hy:∀(hj:k<methods.length),∃X:Mc,(Rd mk (cM x.ma (k * 8)) X.cs/\x.ma≠none)/\X.name=methods[k].name/\X.pl=methods[k].params.length:=fun hj=>by
        have aT:=p8 (aa h1 (aa q1 p1)) (nI s3 hj);have bU:=dA (ax (aa h1 (aa q1 p1)) r3) (by omega:k<x.ml);obtain⟨X,e1,e2,_⟩:=aT;rw[e1.1] at bU;exact⟨X,bU,e1.2.2.2.1,e2.1⟩
       simp only[go_sem,Cc.cs];refine⟨fun ay=> ?_,fun cg=> ?_⟩
       ·have hj:k<methods.length:=by omega
        refine Exists.elim (hy hj) fun X hX=>⟨⟨by clear hX hy;omega,ay,hX.1.2⟩,X.cs,⟨hX.1.1,rfl⟩,?_⟩
        clear hy;have sq:=hX.2.1;have j2:=hX.2.2;clear hX;have hkv:Value.agg ⟨[.string (bs X.name),.int .i64 X.pl]⟩=tv (X.name,X.pl):=rfl;simp only[go_sem,Cc.cs,Mc.cs,A3,hkv,aed,ND];have n9:k<(methods.map fun m=>(m.name,m.params.length)).length:=by simpa using hj
        have kK:=zo n9;have CT:(methods.map fun m=>(m.name,m.params.length))[k]=(X.name,X.pl):=by simp [sq,j2]
        rw[CT] at kK;refine⟨fun hc=>⟨aa h1 (aa q1 p1),?_⟩,fun hc=>⟨by unfold aF;simp only[av] at LA;omega,(k+1,mk),⟨by simp,?_,.inl rfl⟩,⟨p1,by simp only;omega,?_⟩,by simp only;omega⟩⟩
        ·simp only[ns,p3,kK,hc,Bool.true_or,Bool.or_true]
        ·simp only;rw[N4 _ _ hc,List.take_succ_eq_append_getElem n9,CT]
        ·simp only;rw[p3,kK,hc,Bool.false_or]
       ·have hM:js [] (methods.map fun m=>(m.name,m.params.length))=false:=by
         rw[p3,List.drop_of_length_le (by simp;omega)];rfl
        exact⟨aa h1 (aa q1 p1),by simp only[ns,hI,hF,hM,Bool.or_false]⟩
def eZ:List (List UInt8)->List Cd->List UInt8×Int
 |_,[]=>([],0)
 |seen,d::r=>if im d=true then(if tc d=true then(d.name,9) else if(seen.contains d.name||ns d)=true then(d.name,6) else eZ (seen++[d.name]) r) else(d.name,4)
theorem NM (l:List Cd) (p:Option Addr) (n c:Nat) (m:Mem) (hg:Glob m) (hC:∀d∈l,CdB d) (h:qk m l p n c):
  FnH Tryz.prog 27 [.v (.slice p n c)] ⟨[],[]⟩ m fun r H' m' =>ae m m' /\H' =⟨[],[]⟩/\r= .tup [.v (.string (bs (eZ [] l).1)),.v (.int .i64 (eZ [] l).2)]:=by
 obtain⟨hl,bg,hn,xs,r1,s1⟩:=h;refine aR aB Tryz.func27 ?_
 ·simp only[go_sem];refine ei aB (fun x:Nat×Mem=>⟨[⟨4,[],.mp 0⟩,⟨8,[],.v (.slice p n c)⟩,⟨9,[],.v (.int .i64 n)⟩,⟨10,[],.v (.int .i64 x.1)⟩],[],[⟨0,1000000,(u9 ((l.map (·.name)).take x.1)).map .v⟩],[],1,x.2⟩)
   (fun x=>ae m x.2/\x.1<=n/\eZ [] l=eZ ((l.map (·.name)).take x.1) (l.drop x.1)) (fun x=>n - x.1) (0,m) (by kernel_rfl) (fun _ _=>au _) (fun x hx=>hx.1) (fun _=> ?_) ?_ ?_ ?_
  ·simp only[go_sem,E3]
  ·simp only[go_sem];exact⟨rfl,rfl⟩
  ·exact⟨.inl rfl,aG _,rfl⟩
  ·rintro⟨k,mm⟩ ⟨h1,h2,h3⟩;simp only at h1 h2 h3;have hy:∀(hk:k<l.length),∃X:Cc,(Rd mm (cM p (k * 7)) X.cs/\p≠none)/\X.name=l[k].name/\
     (aJ 54 [.v (.agg ⟨X.cs⟩)] mm (.bool (im l[k])))/\(∀m',ae mm m' ->aJ 55 [.v (.agg ⟨X.cs⟩)] m' (.bool (tc l[k])))/\(∀m',ae mm m' ->aJ 56 [.v (.agg ⟨X.cs⟩)] m' (.bool (ns l[k]))):=fun hk=>by
    have aT:=qa h1 (nI s1 hk);have bU:=dA (ax h1 r1) (by omega:k<n);have hX:∃X:Cc,(xs.drop (k * 7)).take 7=X.cs/\X.name=l[k].name:=by
     obtain⟨X,e1,_⟩:=aT;exact⟨X,e1.1,e1.2.2.1⟩
    obtain⟨X,e1,e2⟩:=hX;rw[e1] at bU aT;have ar:=hC _ (List.getElem_mem hk);exact⟨X,bU,e2,WH _ _ mm (hg.upM h1) aT,fun m' hle=>YN _ _ m' ar (qa hle aT),fun m' hle=>aaQ _ _ m' (qa hle aT)⟩
   have jb:∀(hk:k<l.length),eZ [] l=(if im l[k]=true then(if tc l[k]=true then(l[k].name,9) else if(((l.map (·.name)).take k).contains l[k].name||ns l[k])=true then(l[k].name,6) else eZ ((l.map (·.name)).take (k+1)) (l.drop (k+1))) else(l[k].name,4)):=fun hk=>by
    rw[h3,List.drop_eq_getElem_cons hk,eZ];have:(l.map (·.name)).take (k+1)=(l.map (·.name)).take k++[l[k].name]:=by
     rw[List.take_succ_eq_append_getElem (by simpa using hk)];simp
    rw[this]
   clear hC;simp only[go_sem];refine⟨fun ay=> ?_,fun cg=> ?_⟩
   ·have hk:k<l.length:=by clear hy;omega
    have mD:=jb hk;clear jb;refine Exists.elim (hy hk) fun X br=>⟨⟨by clear hy br;omega,ay,br.1.2⟩,X.cs,⟨br.1.1,rfl⟩,?_⟩
    clear hy;have sq:=br.2.1;have hV:=br.2.2.1;have LV:=br.2.2.2.1;have Dz:=br.2.2.2.2;clear br;simp only[go_sem,Cc.cs];refine ab ((aQ hV (fun V=>rfl)).mono ?_);clear hV;rintro r H' m2 aH ⟨l2,rfl,rfl⟩;simp only[go_sem,Cc.cs];refine⟨fun b1=>⟨aa h1 l2,?_⟩,fun b1=>ab ((aQ (LV m2 l2) (fun V=>rfl)).mono ?_)⟩
    ·clear LV Dz;rw[mD,af (by rw[b1];decide),sq]
    ·clear LV;rw[ah b1] at mD;rintro r H' m3 bI ⟨l3,rfl,rfl⟩;have Gw:=aa l2 l3;simp only[go_sem,Cc.cs,A3,D9];refine⟨fun b2=>⟨aa h1 Gw,?_⟩,fun b2=> ?_⟩
     ·clear Dz;rw[mD,ah b2,sq]
     ·rw[af (by rw[b2];decide)] at mD;refine⟨fun b3=>ab ((aQ (Dz m3 Gw) (fun V=>rfl)).mono ?_),fun b3=>⟨aa h1 Gw,?_⟩⟩
      ·clear Dz;rw[<- sq,b3,Bool.false_or] at mD;rintro r H' m4 cT ⟨l4,rfl,rfl⟩;have UD:=aa Gw l4;simp only[go_sem,Cc.cs,A3,D9];refine⟨fun b4=>⟨aa h1 UD,?_⟩,fun b4=>⟨by unfold aF;simp only[av] at hn;omega,(k+1,m4),⟨by simp,?_,.inl rfl⟩,⟨aa h1 UD,by simp only;omega,?_⟩,by simp only;omega⟩⟩
       ·rw[mD,ah b4]
       ·have cB:k<(l.map (·.name)).length:=by simpa using hk
        simp only;rw[IF _ _ b3,List.take_succ_eq_append_getElem cB,sq];simp
       ·simp only;rw[mD,af (by rw[b4];decide)]
      ·clear Dz;rw[mD,<- sq,b3,ah (by simp)]
   ·clear hy;rw[h3,List.drop_of_length_le (by omega),eZ];exact⟨h1,rfl⟩
def bH:List (Int×List UInt8):=[(1,[112,117,98,108,105,99]),(2,[112,114,105,118,97,116,101]),(4,[112,114,111,116,101,99,116,101,100]),(8,[115,116,97,116,105,99]),(16,[102,105,110,97,108]),(32,[115,121,110,99]),(1024,[97,98,115,116,114,97,99,116])]
def cP (fl:Int):List Tk:=(bH.filter fun p=>hasB fl p.1).map fun p=>kw p.2
def gD (w:List UInt8):List (List UInt8)->List Tk
 |[]=>[]
 |s::r=>kw w::aM s::(r.map fun t=>[sg [44],aM t]).flatten
theorem Z7 (fl:Int) {k:Nat} (hk:k<7):((bH.take (k+1)).filter fun p=>hasB fl p.1).map (fun p=>kw p.2)=((bH.take k).filter fun p=>hasB fl p.1).map (fun p=>kw p.2)++(if hasB fl (bH[k]'hk).1=true then[kw (bH[k]'hk).2] else[]):=by
 rw[List.take_succ_eq_append_getElem hk,List.filter_append,List.map_append];congr 1
 cases h:hasB fl (bH[k]'hk).1<;>simp [h]
theorem Rj (fl:Int) (k:Nat):(((bH.take k).filter fun p=>hasB fl p.1).map (fun p=>kw p.2)).length<=7:=by
 rw[List.length_map];refine cZ (List.length_filter_le _ _) ?_;rw[List.length_take];exact Nat.min_le_right _ _
theorem xj (fl:Int):(cP fl).length<=7:=Rj fl 7
theorem aam (w:List UInt8):∀{l:List (List UInt8)} {k:Nat} (hk:k<l.length),gD w (l.take (k+1))=gD w (l.take k)++(if k=0 then[kw w] else[sg [44]])++[aM l[k]]
 |[],_,hk=>absurd hk (Nat.not_lt_zero _)
 |s::r,0,_=>by simp [gD]
 |s::r,k+1,hk=>by
  have fm:k<r.length:=by simpa using hk
  simp only[List.take_succ_cons,gD,List.getElem_cons_succ,Nat.add_one_ne_zero,if_false];rw[List.take_succ_eq_append_getElem fm,List.map_append,List.flatten_append];simp only[bN,List.map_nil,List.flatten_cons,List.flatten_nil,List.append_nil,dW,List.nil_append,List.append_assoc]
theorem BF (w:List UInt8):∀(l:List (List UInt8)),(gD w l).length=l.length * 2
 |[]=>rfl
 |s::r=>by
  simp only[gD,aL]
  rw[show((r.map fun t=>[sg [44],aM t]).flatten).length=r.length * 2 by
   induction r with
   |nil=>rfl
   |cons a r ih=>simp only[bN,List.flatten_cons,aI,aL,bh,ih];omega]
  omega
def pr (f:Fc):List Tk:=cP f.fl++b5 f.ty.dim f.ty.base f.ty.name++[aM f.name]++[sg [59]]
def pA (d:Cd):List Tk:=
 if hasB d.fl 512=true then cP (bits .andNot .i64 d.fl 1024)++[kw [105,110,116,101,114,102,97,99,101]]++[aM d.name]++gD [101,120,116,101,110,100,115] d.ifs
 else cP d.fl++[kw [99,108,97,115,115]]++[aM d.name]++[kw [101,120,116,101,110,100,115]]++[aM d.super]++gD [105,109,112,108,101,109,101,110,116,115] d.ifs
def Fw (IT:List Tk) (MT:Md->List Tk) (d:Cd):List Tk:=
 pA d++[sg [123]]++(d.fields.map pr).flatten++(if 0<d.init.length then[kw [115,116,97,116,105,99]]++IT else[])++(d.methods.map MT).flatten++[sg [125]]
theorem D8 {α:Type} {f:α->List Tk}:∀{l:List α} {k:Nat} (hk:k<l.length),((l.take (k+1)).map f).flatten=((l.take k).map f).flatten++f l[k]:=fun{l k} hk=>by
 rw[List.take_succ_eq_append_getElem hk,List.map_append,List.flatten_append];simp
theorem zB {α:Type} {f:α->List Tk}:∀(l:List α) (k:Nat),((l.take k).map f).flatten.length<=((l.map f).flatten).length
 |[],k=>by simp
 |x::r,0=>by simp
 |x::r,k+1=>by
  have:=zB (f:=f) r k;simp only[List.take_succ_cons,bN,List.flatten_cons,aI];omega
def bl (l:List Tk):List Tk:=sg [123]::(l++[sg [125]])
def Ex.args:Ex->List Ex | .mk _ _ _ _ _ args=>args
def oQ (k:Int) (nm:List UInt8) (ty:Ty) (tg ex:Ex) (B A:List Tk) (al:Nat):List Tk:=
 if k=4 then[kw [105,102]]++bj [aC ex]++bl B++(if 0<al then[kw [101,108,115,101]]++bl A else[])
 else if k=5 then[kw [119,104,105,108,101]]++bj [aC ex]++bl B
 else if k=8 then[kw [116,114,121]]++bl B++[kw [99,97,116,99,104]]++[sg [40]]++b5 ty.dim ty.base ty.name++[aM nm]++[sg [41]]++bl A
 else if k=9 then[kw [115,121,110,99]]++bj [aC ex]++bl B
 else if k=10 then bl B
 else(if k=1 then b5 ty.dim ty.base ty.name++[aM nm]++[sg [61]]++aC ex
  else if k=2 then aC tg++[sg [61]]++aC ex
  else if k=3 then aC ex
  else if k=6 then[kw [114,101,116,117,114,110]]++(if ex.k≠0 then aC ex else[])
  else if k=7 then[kw [116,104,114,111,119]]++aC ex
  else if k=11 then[kw [115,117,112,101,114]]++bj (ex.args.map aC)
  else[])++[sg [59]]
mutual
def cS:St->List Tk
 | .mk k nm ty tg ex body alt=>oQ k nm ty tg ex (be body) (be alt) alt.length
def be:List St->List Tk
 |[]=>[]
 |e::r=>cS e++be r
end
def cR (p:Pc):List Tk:=b5 p.ty.dim p.ty.base p.ty.name++[aM p.name]
def eO (d:Md):List Tk:=
 cP d.fl++(if d.name=eI then[kw [110,101,119]] else b5 d.res.dim d.res.base d.res.name++[aM d.name])++bj (d.params.map cR)++(if d.hb=true then bl (be d.body) else[sg [59]])
def jt (d:Cd):List Tk:=Fw (bl (be d.init)) eO d
def mh (l:List Cd):List Tk:=(l.map jt).flatten
def oN (l:List Cd):List UInt8×Int:=if(eZ [] l).2=0 then lM (mh l) else([],(eZ [] l).2)
theorem Nf:∀(l:List St),be l=(l.map cS).flatten
 |[]=>by simp [be]
 |s::r=>by simp [be,Nf r]
theorem qT:∀{sup:Bool} {l:List St},b9 sup l=true->∀e∈l,fv e=true
 |_,[],_,e,he=>by cases he
 |sup,x::r,h,e,he=>by
  simp only[b9,aD] at h;rcases List.mem_cons.1 he with rfl |he
  ·exact h.1.2
  ·exact qT h.2 e he
theorem A4 {k:Int} {nm:List UInt8} {ty:Ty} {tg ex:Ex} {B:Bool} (h:iq k nm ty tg ex B=true):k=1\/k=2\/k=3\/k=4\/k=5\/k=6\/k=7\/k=8\/k=9\/k=10\/k=11:=by
 by_cases hk:k=1\/k=2\/k=3\/k=4\/k=5\/k=6\/k=7\/k=8\/k=9\/k=10\/k=11
 ·exact hk
 ·simp only[not_or] at hk;simp only[iq,hk,or_self,if_false] at h;cases h
theorem uj {d b:Int} {nm:List UInt8} (h:dw d b nm=true):d<=8:=by
 simp only[dw,aD] at h;have:=h.1.1;unfold o7 at this;split at this
 ·cases this
 ·omega
theorem yQ {e:Ex} (h:mR e=true):bG e=true:=by
 simp only[mR,aD] at h;exact h.2
theorem za {e:Ex} (h:nh e=true):bG e=true:=by
 simp only[nh,aD] at h;exact h.2
theorem QC {e:Ex} (h:bG e=true):e.k≠0:=by
 cases e with
 |mk k n s c ty args=>
  simp only[bG,aD] at h;obtain⟨hk,_,_⟩:=zf h.1;intro h0;simp only[Ex.k] at h0;subst h0;cases hk
theorem Jo {e:Ex} (h:jj e=true):e.k=0:=by
 cases e with
 |mk k n s c ty args=>
  simp only[jj,ji,aD,bt] at h;exact h.1.1.1.1.2
theorem DZ {e:Ex} (h:mW e=true):gg e.args=true:=by
 cases e with
 |mk k n s c ty args=>
  simp only[mW,aD] at h;exact h.2
theorem XH {m:Mem} {e:Ex} {x:Nd} (h:bJ m e x.cs):x.k=e.k/\x.l=e.args.length/\x.l<=x.cp/\x.l<=av/\∃xs,aZ m x.a x.l 8 xs/\dY m e.args xs:=by
 cases e with
 |mk k n s c ty args=>
  obtain⟨y,hy,h1,h2,h3,h4,h5,h6,h7,h8,h9⟩:=qZ h;rw[zN hy];exact⟨h1,h6,h7,h8,h9⟩
def ajC:Ex:= .mk 1 1 [] [] ai []
def afc:Ex:= .mk 1 0 [] [] ai []
def ah8:Ex:= .mk 1 2 [] [] ai []
def aE:Ex:= .mk 6 0 [97] [] ai []
def aiq:Ex:= .mk 16 0 [43] [] ai [ajC,ajD aE]
def akN:Ex:= .mk 14 0 [] [] ⟨1,73,[]⟩ [ah8]
def ajL:Ex:= .mk 9 0 [] [] ai [akN,afc]
set_option maxRecDepth 100000 in
theorem Vo:Uf aiq=([49,32,43,32,40,32,45,32,97,32,41],0):=by decide+kernel
set_option maxRecDepth 100000 in
theorem Vn:Uf ajL=([110,101,119,32,105,110,116,32,91,32,93,32,91,32,50,32,93,32,91,32,48,32,93],0):=by decide+kernel
end Go.Proofs.YtimddhkipjedcaaGreatDoor.E
namespace Go.Proofs.YtimddhkipjedcaaGreatDoor.E
open Go Go.ChangeShapes Go.WideShapes Go.ChangeAt Go.RowKit
mutual
theorem yY:∀(e:Ex),b6 e<=dM e
 | .mk _ _ _ _ _ args=>by
  have:=M2 args;simp only[b6,dM];omega
theorem M2:∀(l:List Ex),kN l<=fb l
 |[]=>by simp [kN]
 |e::r=>by
  have h1:=yY e;have h2:=M2 r;simp only[kN,fb];omega
end
section
variable {H:Type} {lF:TypeId×Value->H} {W:World}
end
theorem abc (ad:Addr) (i j:Nat) (h:ad.spot=none):(ad.add i).add j=ad.add (i+j):=by
 obtain⟨e1,e2,e3⟩:=mQ ad i h;obtain⟨f1,f2,f3⟩:=mQ (ad.add i) j e3;obtain⟨g1,g2,g3⟩:=mQ ad (i+j) h;rcases hx:(ad.add i).add j with ⟨b,o,s⟩
 rcases hy:ad.add (i+j) with ⟨b',o',s'⟩
 rw[hx] at f1 f2 f3;rw[hy] at g1 g2 g3;simp only at f1 f2 f3 g1 g2 g3;subst f3 g3;have h1:b=b' :=by omega
 have h2:o=o' :=by omega
 rw[h1,h2]
theorem iT {m:Mem} {x:Value} {cs:List Value} (h:Rd m x cs):J2 x:=by
 obtain⟨ad,e,_⟩:=h;exact⟨ad,e⟩
theorem gK {m:Mem} {x:Value} {cs:List Value} (h:Rd m x cs) (o n:Nat) (hn:o+n<=cs.length):Rd m (vJ x o) ((cs.drop o).take n):=by
 obtain⟨ad,rfl,hs,hc⟩:=h;obtain⟨e1,e2,e3⟩:=mQ ad o hs;refine⟨ad.add o,rfl,e3,fun j hj=> ?_⟩;have hl:((cs.drop o).take n).length=n:=by rw[List.length_take,dI];omega
 rw[hl] at hj;obtain⟨h1,h2⟩:=hc (o+j) (by omega);refine⟨by rw[abc ad o j hs,h1,List.getElem?_take,ah hj,List.getElem?_drop],by rw[e1,e2];omega⟩
theorem IB:∀(h:Nat) (a b:Ex) (ca cb:List Value) (m:Mem),b6 a<=h->bJ m a ca->bJ m b cb->aJ 17 [.v (.agg ⟨ca⟩),.v (.agg ⟨cb⟩)] m (.bool (iA a b))
 |0,.mk k n s c ty args,b,ca,cb,m,hd,_,_=>by simp [b6] at hd
 |h+1,.mk k n s c ty args,.mk k' n' s' c' dQ jT,ca,cb,m,hd,ha,hb=>by
  obtain⟨x,rfl,rfl,rfl,rfl,rfl,rfl,hl,bg,hn,xs,hr,eE⟩:=qZ ha;obtain⟨x',rfl,rfl,rfl,rfl,rfl,rfl,kY,hcp',yy,xs',hr',hes'⟩:=qZ hb;simp only[b6] at hd;have hE:=fun m' (hle:ae m m')=>Qi (uh hle eE) (uh hle hes') (f:=17) fun y hy z hz cy cz kq aY r1 r2=>IB h y z cy cz kq (by have:=A8 hy;omega) r1 r2
  refine enter gP aB Tryz.func17 rfl rfl (by kernel_rfl) rfl ?_ ?_
  ·simp only[go_sem,Nd.cs]
  ·simp only[go_sem,Nd.cs,qn];have hX:iA (Ex.mk x.k x.n x.s x.c x.ty args) (Ex.mk x'.k x'.n x'.s x'.c x'.ty jT)=(decide (x.k=x'.k)&&decide (x.n=x'.n)&&decide (x.s=x'.s)&&decide (x.c=x'.c)&&Ty.eq x.ty x'.ty&&(decide (args.length=jT.length)&&gp args.length (fz iA args jT))):=by rw[iA,Im,qW]
   refine⟨fun h=> ?_,fun h=> ?_⟩
   ·clear hE;rw[hX];simp only[Ty.eq];rcases h with ((((h |h) |h) |h) |h |h |h) |h
    ·simp [h]
    ·simp [h]
    ·simp [h]
    ·simp [h]
    ·simp [h]
    ·simp [h]
    ·simp [h]
    ·rw[di (by omega:¬args.length=jT.length)];simp
   ·have pT:args.length=jT.length:=by clear hE;omega
    have qO:iA (Ex.mk x.k x.n x.s x.c x.ty args) (Ex.mk x'.k x'.n x'.s x'.c x'.ty jT)=gp args.length (fz iA args jT):=by rw[hX];simp only[Ty.eq,h,pT,ao,Bool.true_and]
    clear hX;refine ei aB (fun y:Nat×Mem=>⟨[⟨2,[],.box 0 0⟩,⟨3,[],.box 1 0⟩,⟨5,[],.v (.int .i64 y.1)⟩],[],[⟨0,33,x.cs.map .v⟩,⟨1,33,x'.cs.map .v⟩],[],2,y.2⟩)
     (fun y=>ae m y.2/\y.1<=x.l/\gp y.1 (fz iA args jT)=true) (fun y=>x.l - y.1) (0,m) (by kernel_rfl) (fun _ _=>au _) (fun y hy=>hy.1) (fun _=> ?_) ?_ ?_ ?_
    ·simp only[go_sem,Nd.cs]
    ·simp only[go_sem,Nd.cs];rfl
    ·exact⟨.inl rfl,aG _,rfl⟩
    ·rintro⟨k,mm⟩ ⟨h1,h2,h3⟩;simp only at h1 h2 h3;have hy:∀(hk:k<args.length),∃X Y:Nd,(Rd mm (cM x.a (k * 8)) X.cs/\x.a≠none)/\(Rd mm (cM x'.a (k * 8)) Y.cs/\x'.a≠none)/\aJ 17 [.v (.agg ⟨X.cs⟩),.v (.agg ⟨Y.cs⟩)] mm (.bool (fz iA args jT k)):=fun hk=>by
      obtain⟨X,Y,e1,e2,e3⟩:=hE mm h1 k hk pT;have r1:=dA (ax h1 hr) (by omega:k<x.l);have r2:=dA (ax h1 hr') (by omega:k<x'.l);rw[e1] at r1;rw[e2] at r2;exact⟨X,Y,r1,r2,e3 mm (.inl rfl)⟩
     clear hE;simp only[go_sem,Nd.cs];refine⟨fun ay=> ?_,fun cg=> ?_⟩
     ·have hk:k<args.length:=by clear hy;omega
      refine bO (.hoist 0 (.hoist 1 (.hoist 2 (.hoist 3 (.hoist 4 (.hoist 5 (.hoist 6 (.hoist 7 (.hoist 8 (.hoist 9 (.alt 10 [] (.hoist 11 .done) .stop))))))))))) aB (by kernel_rfl) (by kernel_rfl) ?_;simp only[go_sem,Nd.cs];refine Exists.elim (hy hk) fun X fT=>Exists.elim fT fun Y fE=>⟨⟨by clear hy fT fE;omega,ay,fE.1.2⟩,X.cs,⟨fE.1.1,rfl⟩,?_⟩
      clear hy fT;have ha:=fE.2.2;simp only[go_sem,Nd.cs];refine⟨⟨by clear fE ha;omega,by clear fE ha;omega,fE.2.1.2⟩,Y.cs,⟨fE.2.1.1,rfl⟩,?_⟩;clear fE;simp only[go_sem,Nd.cs];refine ab ((aQ ha (fun V=>rfl)).mono ?_);clear ha;rintro r H' m2 aH ⟨aY,rfl,rfl⟩;simp only[go_sem,Nd.cs];refine⟨fun hb=>⟨aa h1 aY,?_⟩,fun hb=>⟨by unfold aF;simp only[av] at hn;omega,(k+1,m2),⟨by simp,.inl rfl⟩,⟨aa h1 aY,by simp only;omega,?_⟩,by simp only;omega⟩⟩
      ·rw[qO,lK hk hb]
      ·simp only;rw[sM,h3,hb];rfl
     ·have:k=args.length:=by clear hy;omega
      refine⟨h1,?_⟩;rw[qO,<- this,h3]
structure SbIt (X Y:Sd) (e e2:St) (mm:Mem) (bT bE bB bA:Bool):Prop where
 tg:∀m',ae mm m' ->aJ 17 [.v (.agg ⟨X.tg.cs⟩),.v (.agg ⟨Y.tg.cs⟩)] m' (.bool bT)
 ex:∀m',ae mm m' ->aJ 17 [.v (.agg ⟨X.ex.cs⟩),.v (.agg ⟨Y.ex.cs⟩)] m' (.bool bE)
 body:∀m',ae mm m' ->aJ 18 [.v (.slice X.a X.l X.cp),.v (.slice Y.a Y.l Y.cp)] m' (.bool bB)
 alt:∀m',ae mm m' ->aJ 18 [.v (.slice X.b X.l2 X.cp2),.v (.slice Y.b Y.l2 Y.cp2)] m' (.bool bA)
 eq:dh e e2=(decide (X.k=Y.k)&&decide (X.name=Y.name)&&Ty.eq X.ty Y.ty&&bT&&bE&&bB&&bA)
set_option maxHeartbeats 8000000 in
theorem N0:∀(h:Nat) (l l2:List St) (a:Option Addr) (n c:Nat) (a2:Option Addr) (n2 c2:Nat) (xs ys:List Value) (m:Mem),dq l<=h->n=l.length->n2=l2.length->n<=av->n2<=av->aZ m a n 23 xs->aZ m a2 n2 23 ys->bZ m l xs->bZ m l2 ys->
  aJ 18 [.v (.slice a n c),.v (.slice a2 n2 c2)] m (.bool (gn l l2)):=by
 intro h;induction h using Nat.strongRecOn with
 |ind h ih=>
  intro l l2 a n c a2 n2 c2 xs ys m hd hl ck hn GI hr lC hs tM;have hX:gn l l2=(decide (l.length=l2.length)&&gp l.length (fz dh l l2)):=by rw[Em,qW]
  refine aR aB Tryz.func18 ?_
  ·simp only[go_sem];refine⟨fun cQ=> ?_,fun heq=> ?_⟩
   ·rw[hX,di (by clear ih;omega:¬l.length=l2.length)];rfl
   ·have pT:l.length=l2.length:=by clear ih;omega
    rw[eF pT,Bool.true_and] at hX;refine du aB (fun y:Nat×Mem=>⟨[⟨0,[],.v (.slice a n c)⟩,⟨1,[],.v (.slice a2 n2 c2)⟩,⟨5,[],.v (.int .i64 y.1)⟩],[],[],[],0,y.2⟩)
     (fun y=>ae m y.2/\y.1<=n/\gp y.1 (fz dh l l2)=true) (fun y=>n - y.1) (0,m) (fun _ _=>au _) (fun y hy=>hy.1) ?_ ?_ ?_
    ·simp only[go_sem];rfl
    ·exact⟨.inl rfl,aG _,rfl⟩
    ·rintro⟨k,mm⟩ ⟨h1,h2,h3⟩;simp only at h1 h2 h3;have hy:∀(hk:k<l.length),∃(X Y:Sd) (bT bE bB bA:Bool) (e e2:St),(Rd mm (cM a (k * 23)) X.cs/\a≠none)/\(Rd mm (cM a2 (k * 23)) Y.cs/\a2≠none)/\SbIt X Y e e2 mm bT bE bB bA/\fz dh l l2 k=dh e e2:=fun hk=>by
      have vl:k<l2.length:=by omega
      have aT:=sL h1 (qc hs hk);have TE:=sL h1 (qc tM vl);have bU:=dA (ax h1 hr) (by omega:k<n);have T0:=dA (ax h1 lC) (by omega:k<n2);have q1:=lY (List.getElem_mem hk);have iy:fz dh l l2 k=dh l[k] l2[k]:=zR hk vl;cases he:l[k] with
      |mk k1 aM ty1 tg1 Vo body1 alt1=>
       cases he2:l2[k] with
       |mk k2 nm2 ty2 tg2 Vn body2 alt2=>
        rw[he] at aT q1 iy;rw[he2] at TE iy;simp only[eQ] at q1;obtain⟨X,hX,rfl,rfl,rfl,df,hex,oV,bg,hl2',ea,ar,zs,ws,r1,r2,s1,s2⟩:=qX aT;obtain⟨Y,hY,rfl,rfl,rfl,htg',xY,hl1',hcp',hl2'',hcp2',hok',zs',ws',r1',r2',s1',s2'⟩:=qX TE;rw[hX] at bU;rw[hY] at T0;refine⟨X,Y,_,_,_,_,_,_,bU,T0,⟨fun m' hle=>IB _ tg1 tg2 _ _ m' (au _) (bw hle df) (bw hle htg'),fun m' hle=>IB _ Vo Vn _ _ m' (au _) (bw hle hex) (bw hle xY),fun m' hle=> ?_,fun m' hle=> ?_,rfl⟩,iy⟩
        ·exact ih (dq body1) (by omega) body1 body2 X.a X.l X.cp Y.a Y.l Y.cp zs zs' m' (au _) oV hl1' (by rw[oV];exact ar.l) (by rw[hl1'];exact hok'.l) (ax hle r1) (ax hle r1') (dp hle s1) (dp hle s1')
        ·exact ih (dq alt1) (by omega) alt1 alt2 X.b X.l2 X.cp2 Y.b Y.l2 Y.cp2 ws ws' m' (au _) hl2' hl2'' (by rw[hl2'];exact ar.l2) (by rw[hl2''];exact hok'.l2) (ax hle r2) (ax hle r2') (dp hle s2) (dp hle s2')
     clear ih;simp only[go_sem];refine⟨fun ay=> ?_,fun cg=> ?_⟩
     ·have hk:k<l.length:=by clear hy;omega
      refine bO (.hoist 0 (.hoist 1 (.hoist 2 (.hoist 3 (.hoist 4 (.hoist 5 (.hoist 6 (.hoist 7 (.alt 8 [7,6,5,4,3,2,1,0] (.alt 9 [7,6,5,4,3,2,1,0] (.alt 10 [7,6,5,4] (.alt 11 [] .done .stop) .stop) .stop) (.alt 9 [7,6,5,4,3,2,1,0] (.alt 8 [7,6,5,4,3,2,1,0] (.alt 10 [7,6,5,4] (.alt 11 [] .done .stop) .stop) .stop) .stop)))))))))) aB (by kernel_rfl) (by kernel_rfl) ?_;simp only[go_sem];refine Exists.elim (hy hk) fun X y1=>Exists.elim y1 fun Y y2=>Exists.elim y2 fun bT y3=>Exists.elim y3 fun bE y4=>Exists.elim y4 fun bB y5=>Exists.elim y5 fun bA y6=>Exists.elim y6 fun e y7=>Exists.elim y7 fun e2 y8=>⟨⟨by clear hy y1 y2 y3 y4 y5 y6 y7 y8;omega,ay,y8.1.2⟩,X.cs,⟨y8.1.1,rfl⟩,⟨by clear hy y1 y2 y3 y4 y5 y6 y7 y8;omega,by clear hy y1 y2 y3 y4 y5 y6 y7 y8;omega,y8.2.1.2⟩,Y.cs,⟨y8.2.1.1,rfl⟩,?_⟩
      clear hy y1 y2 y3 y4 y5 y6 y7;have hS:=y8.2.2.1;have iy:=y8.2.2.2;clear y8;simp only[go_sem,Sd.cs,Nd.cs,qn];refine⟨?_,?_⟩
      ·refine⟨fun he=>ab ((aQ (hS.tg mm (.inl rfl)) (fun V=>rfl)).mono ?_),fun cQ=>⟨h1,?_⟩⟩
       ·have e0:dh e e2=(bT&&bE&&bB&&bA):=by rw[hS.eq];simp only[Ty.eq,he,ao,Bool.true_and]
        rintro r H' m2 aH ⟨dS,rfl,rfl⟩;simp only[go_sem,Sd.cs,Nd.cs];refine⟨fun b1=>ab ((aQ (hS.ex m2 dS) (fun V=>rfl)).mono ?_),fun b1=>⟨aa h1 dS,?_⟩⟩
        ·rintro r H' m3 bI ⟨l3,rfl,rfl⟩;have k3:=aa dS l3;simp only[go_sem,Sd.cs,Nd.cs];refine⟨fun b2=>ab ((hS.body m3 k3).mono ?_),fun b2=>⟨aa h1 k3,?_⟩⟩
         ·rintro r H' m4 cT ⟨l4,rfl,rfl⟩;have k4:=aa k3 l4;simp only[go_sem,Sd.cs,Nd.cs];refine⟨fun b3=>ab ((hS.alt m4 k4).mono ?_),fun b3=>⟨aa h1 k4,?_⟩⟩
          ·rintro r H' m5 cO ⟨l5,rfl,rfl⟩;have k5:=aa k4 l5;simp only[go_sem,Sd.cs,Nd.cs];refine⟨fun b4=>⟨aa h1 k5,?_⟩,fun b4=>⟨by unfold aF;simp only[av] at hn;omega,(k+1,m5),⟨by simp,.inl rfl⟩,⟨aa h1 k5,by simp only;omega,?_⟩,by simp only;omega⟩⟩
           ·rw[hX,lK hk (by rw[iy,e0,b4,Bool.and_false])]
           ·simp only;rw[sM,h3,iy,e0,b1,b2,b3,b4];rfl
          ·rw[hX,lK hk (by rw[iy,e0,b3,Bool.and_false];rfl)]
         ·rw[hX,lK hk (by rw[iy,e0,b2,Bool.and_false];rfl)]
        ·rw[hX,lK hk (by rw[iy,e0,b1];rfl)]
       ·rw[hX,lK hk];rw[iy,hS.eq];simp only[Ty.eq];clear hS;rcases cQ with (h |h) |h |h |h<;>simp [h]
      ·refine⟨fun he=>ab ((aQ (hS.tg mm (.inl rfl)) (fun V=>rfl)).mono ?_),fun cQ=>⟨h1,?_⟩⟩
       ·have e0:dh e e2=(bT&&bE&&bB&&bA):=by rw[hS.eq];simp only[Ty.eq,he,ao,Bool.true_and]
        rintro r H' m2 aH ⟨dS,rfl,rfl⟩;simp only[go_sem,Sd.cs,Nd.cs];refine⟨fun b1=>ab ((aQ (hS.ex m2 dS) (fun V=>rfl)).mono ?_),fun b1=>⟨aa h1 dS,?_⟩⟩
        ·rintro r H' m3 bI ⟨l3,rfl,rfl⟩;have k3:=aa dS l3;simp only[go_sem,Sd.cs,Nd.cs];refine⟨fun b2=>ab ((hS.body m3 k3).mono ?_),fun b2=>⟨aa h1 k3,?_⟩⟩
         ·rintro r H' m4 cT ⟨l4,rfl,rfl⟩;have k4:=aa k3 l4;simp only[go_sem,Sd.cs,Nd.cs];refine⟨fun b3=>ab ((hS.alt m4 k4).mono ?_),fun b3=>⟨aa h1 k4,?_⟩⟩
          ·rintro r H' m5 cO ⟨l5,rfl,rfl⟩;have k5:=aa k4 l5;simp only[go_sem,Sd.cs,Nd.cs];refine⟨fun b4=>⟨aa h1 k5,?_⟩,fun b4=>⟨by unfold aF;simp only[av] at hn;omega,(k+1,m5),⟨by simp,.inl rfl⟩,⟨aa h1 k5,by simp only;omega,?_⟩,by simp only;omega⟩⟩
           ·rw[hX,lK hk (by rw[iy,e0,b4,Bool.and_false])]
           ·simp only;rw[sM,h3,iy,e0,b1,b2,b3,b4];rfl
          ·rw[hX,lK hk (by rw[iy,e0,b3,Bool.and_false];rfl)]
         ·rw[hX,lK hk (by rw[iy,e0,b2,Bool.and_false];rfl)]
        ·rw[hX,lK hk (by rw[iy,e0,b1];rfl)]
       ·rw[hX,lK hk];rw[iy,hS.eq];simp only[Ty.eq];clear hS;rcases cQ with (h |h) |h |h |h<;>simp [h]
     ·have:k=l.length:=by clear hy;omega
      refine⟨h1,?_⟩;rw[hX,<- this,h3]
mutual
def iD:St->Nat
 | .mk _ _ _ tg ex body alt=>1+dM ex+dM tg+dD body+dD alt
def dD:List St->Nat
 |[]=>0
 |e::r=>iD e+dD r
end
theorem ue:∀{l:List St} {e:St},e∈l->iD e<=dD l
 |[],e,he=>by cases he
 |x::r,e,he=>by
  simp only[dD];rcases List.mem_cons.1 he with rfl |he
  ·omega
  ·have:=ue he;omega
end Go.Proofs.YtimddhkipjedcaaGreatDoor.E
namespace Go.Proofs.YtimddhkipjedcaaGreatDoor.E
open Go Go.ChangeShapes Go.WideShapes Go.ChangeAt Go.RowKit
section
variable {H:Type} {lF:TypeId×Value->H} {W:World}
end
end Go.Proofs.YtimddhkipjedcaaGreatDoor.E
namespace Go.Proofs.YtimddhkipjedcaaGreatDoor.E
open Go Go.ChangeShapes Go.WideShapes Go.ChangeAt Go.RowKit
def nb (d:Md):Nat:=1+d.params.length+dD d.body
def eH (d:Cd):Nat:=1+d.fields.length+d.ifs.length+dD d.init+(d.methods.map nb).sum
section
variable {H:Type} {lF:TypeId×Value->H} {W:World}
end
/-! What lies in memory is of bounded size. -/
mutual
def CZ:St->Prop
 | .mk _ nm ty tg ex body alt=>nm.length<=av/\nY ty/\rM tg/\rM ex/\rD body/\rD alt
def rD:List St->Prop
 |[]=>True
 |e::r=>CZ e/\rD r
end
mutual
theorem abn {m:Mem}:∀(e:St) (cs:List Value),fK m e cs->CZ e
 | .mk k nm ty tg ex body alt,cs,h=>by
  obtain⟨x,_,_,_,_,h5,h6,_,_,_,_,tX,xs,ys,_,_,h14,h15⟩:=qX h;simp only[CZ];exact⟨tX.nm,tX.ty,I3 _ _ h5,I3 _ _ h6,Bo _ _ h14,Bo _ _ h15⟩
theorem Bo {m:Mem}:∀(l:List St) (xs:List Value),bZ m l xs->rD l
 |[],_,_=>by simp only[rD]
 |e::r,xs,h=>by
  simp only[bZ] at h;simp only[rD];exact⟨abn e _ h.1,Bo r _ h.2⟩
end
def wA (d:Cd):Prop:=CdOk d/\rD d.init/\∀e∈d.methods,MdOk e/\rD e.body
theorem JE {α:Type} {R:α->List Value->Prop} {sz:Nat}:∀{l:List α} {xs:List Value},nJ R sz l xs->∀e∈l,∃cs,R e cs
 |[],_,_,e,he=>by cases he
 |x::r,xs,h,e,he=>by
  rcases List.mem_cons.1 he with rfl |he
  ·exact⟨_,h.1⟩
  ·exact JE h.2 e he
theorem abo {m:Mem} {d:Cd} {cs:List Value} (h:ki m d cs):wA d:=by
 obtain⟨x,_,_,ar,_,_,xs,ys,_,s3,_,s4⟩:=h;refine⟨ar,Bo _ _ s4,fun e he=> ?_⟩;obtain⟨cs,x,_,_,h1,_,zs,_,h2⟩:=JE s3 e he;exact⟨h1,Bo _ _ h2⟩
theorem QA {m:Mem} {l:List Cd} {a:Option Addr} {n c:Nat} (h:qk m l a n c):∀d∈l,wA d:=fun d hd=>by
 obtain⟨_,_,_,xs,_,s⟩:=h;obtain⟨cs,h⟩:=JE s d hd;exact abo h
structure SsOk (p:Tk->Prop):Prop where
 b:SgOk p
 lc:p (sg [123])
 rc:p (sg [125])
 semi:p (sg [59])
 eq:p (sg [61])
 kif:p (kw [105,102])
 kelse:p (kw [101,108,115,101])
 kwhile:p (kw [119,104,105,108,101])
 ktry:p (kw [116,114,121])
 kcatch:p (kw [99,97,116,99,104])
 ksync:p (kw [115,121,110,99])
 kret:p (kw [114,101,116,117,114,110])
 kthrow:p (kw [116,104,114,111,119])
 kstat:p (kw [115,116,97,116,105,99])
 kclass:p (kw [99,108,97,115,115])
 kiface:p (kw [105,110,116,101,114,102,97,99,101])
 kext:p (kw [101,120,116,101,110,100,115])
 kimpl:p (kw [105,109,112,108,101,109,101,110,116,115])
 mods:∀x∈bH,p (kw x.2)
structure TkP (p:Tk->Prop):Prop where
 s:SsOk p
 nm:∀s,(dn s=true\/dd s=true)->s.length<=av->p (aM s)
 int:∀n:Int,0<=n->n<=2147483647->p ⟨3,[],n,0⟩
 long:∀n:Int,0<=n->aF n->p ⟨4,[],n,0⟩
 str:∀s,nC s=true->p ⟨5,s,0,0⟩
 op:∀s∈opsL,p (sg s)
 neg:p (sg [45])
 not:p (sg [33])
theorem adL:TkP qA where
 s:=by
  refine⟨abE,xM (by decide),xM (by decide),xM (by decide),xM (by decide),oC (by decide),oC (by decide),oC (by decide),oC (by decide),oC (by decide),oC (by decide),oC (by decide),oC (by decide),oC (by decide),oC (by decide),oC (by decide),oC (by decide),oC (by decide),fun x hx=>oC ?_⟩;have:bH.all fun x=>decide (x.2.length<=2000000):=by decide
  simpa using List.all_eq_true.1 this x hx
 nm:=fun s _ h=>agb h
 int:=fun n h1 h2=>⟨aG _,by unfold aF;simp only;omega⟩
 long:=fun n _ h=>⟨aG _,h⟩
 str:=fun s h=>by
  simp only[nC,aD,bt] at h;exact⟨by simp only;omega,(by unfold aF;decide:aF 0)⟩
 op:=fun s h=>by
  have:opsL.all fun x=>decide (x.length<=2000000):=by decide
  exact xM (by simpa using List.all_eq_true.1 this s h)
 neg:=xM (by decide)
 not:=xM (by decide)
theorem zU {p:Tk->Prop} (hp:TkP p) {t:Ty} (hw:nY t) (h:dw t.dim t.base t.name=true):eT p (b5 t.dim t.base t.name):=by
 refine By hp.s.b _ _ fun h1 h2 h3=>hp.nm _ (.inr ?_) hw.2.2
 simp only[dw,aD,bt,Bool.or_eq_true] at h;rcases h.2 with g |g
 ·have hv:=h.1.1;exfalso;simp [o7,h1,h2,h3,g] at hv
 ·exact g
mutual
theorem uI {p:Tk->Prop} (hp:TkP p):∀(e:Ex),rM e->bG e=true->eT p (aC e)
 | .mk k n s c ty args,h,hv=>by
  simp only[rM] at h;obtain⟨⟨h1,h2,h3,h4,h5,h6⟩,h7⟩:=h;simp only[bG,aD] at hv;obtain⟨hn,gu⟩:=hv;simp only[aC];have GI:=hn;simp only[mu,aD,bt] at hn;obtain⟨⟨⟨⟨⟨_,_⟩,_⟩,hi⟩,hc⟩,ht⟩:=hn;refine Z4 hp.s.b (R6 hp args h7 gu) (fun hk=> ?_) (fun hk=> ?_) (fun hk=> ?_) (fun hk=> ?_) (fun hk=> ?_) (fun hk=> ?_) (fun hk g1 g2 g3=> ?_)
  ·subst hk;have hi:nR 1 n s=true:=hi;simp only[nR,if_true,aD,bt] at hi;exact hp.int n hi.1.1 hi.1.2
  ·subst hk;have hi:nR 2 n s=true:=hi;have hi:(decide (0<=n)&&decide (s=[]))=true:=hi;simp only[aD,bt] at hi;exact hp.long n hi.1 h2
  ·subst hk;have hi:(decide (n=0)&&nC s)=true:=hi;simp only[aD,bt] at hi;exact hp.str s hi.2
  ·rw[ah hk] at hi;simp only[aD] at hi;exact hp.nm s (.inl hi.1) h3
  ·rw[ah hk] at hc;exact hp.nm c (.inr hc) h4
  ·rcases hk with rfl |rfl
   ·have hi:(decide (n=0)&&(decide (s=[45])||decide (s=[33])))=true:=hi;simp only[aD,Bool.or_eq_true,bt] at hi;rcases hi.2 with rfl |rfl
    ·exact hp.neg
    ·exact hp.not
   ·have hi:(decide (n=0)&&opsL.contains s)=true:=hi;simp only[aD,bt,List.contains_iff_mem] at hi;exact hp.op s hi.2
  ·rw[ah hk] at ht;simp only[aD] at ht;have:=zU hp (t:=ty) h5 ht.1;have h0:=this (iW ty.base ty.name) (bY ..);unfold iW at h0;rwa [af g1,af g2,af g3] at h0
theorem R6 {p:Tk->Prop} (hp:TkP p):∀(l:List Ex),rE l->gg l=true->∀x∈aS l,eT p x.2
 |[],_,_=>fun x hx=>by simp only[aS] at hx;cases hx
 |e::r,h,hv=>by
  simp only[rE] at h;simp only[gg,aD] at hv;intro x hx;simp only[aS] at hx;rcases List.mem_cons.1 hx with rfl |hx
  ·exact uI hp e h.1 hv.1
  ·exact R6 hp r h.2 hv.2 x hx
end
theorem OW:∀{l:List Ex},rE l->∀e∈l,rM e
 |[],_,e,he=>by cases he
 |x::r,h,e,he=>by
  simp only[rE] at h;rcases List.mem_cons.1 he with rfl |he
  ·exact h.1
  ·exact OW h.2 e he
theorem Y8 {e:Ex} (h:rM e):rE e.args:=by
 cases e with
 |mk k n s c ty args=>simp only[rM] at h;exact h.2
theorem Gn {p:Tk->Prop} (hp:SsOk p) {t:List Tk} (h:eT p t):eT p (bl t):=vA hp.lc (bQ h (dK hp.rc))
theorem ae2 {p:Tk->Prop} (hp:TkP p) {l:List Ex} (h:rE l) (hv:gg l=true):eT p (bj (l.map aC)):=
 zi hp.s.b fun t ht=>by
  obtain⟨e,he,rfl⟩:=List.mem_map.1 ht;exact uI hp e (OW h e he) (xa hv e he)
theorem JU {p:Tk->Prop} (hp:TkP p) {e:Ex} (h:rM e) (hv:bG e=true):eT p (bj [aC e]):=
 zi hp.s.b fun t ht=>by rw[List.mem_singleton.1 ht];exact uI hp e h hv
mutual
theorem afq {p:Tk->Prop} (hp:TkP p):∀(s:St),CZ s->fv s=true->eT p (cS s)
 | .mk k nm ty tg ex body alt,h,hv=>by
  simp only[CZ] at h;obtain⟨w1,w2,w3,w4,w5,w6⟩:=h;simp only[fv,aD] at hv;have aW:=hv.1;clear hv;have one:=fun{t:Tk} (h:p t)=>dK h
  have hB:∀{q:Bool},(decide (body.length<=32)&&b9 false body&&q)=true->eT p (bl (be body)):=fun iJ=>by
   simp only[aD] at iJ;exact Gn hp.s (BT hp false body w5 iJ.1.2)
  have hA:∀{q:Bool},(q&&(decide (alt.length<=32)&&b9 false alt))=true->eT p (bl (be alt)):=fun iJ=>by
   simp only[aD] at iJ;exact Gn hp.s (BT hp false alt w6 iJ.2.2)
  rcases A4 aW with rfl |rfl |rfl |rfl |rfl |rfl |rfl |rfl |rfl |rfl |rfl
  ·have aA:(dn nm&&dw ty.dim ty.base ty.name&&bG ex)=true:=aW;simp only[aD] at aA;exact bQ (bQ (bQ (bQ (zU hp w2 aA.1.2) (one (hp.nm nm (.inl aA.1.1) w1))) (one hp.s.eq)) (uI hp ex w4 aA.2)) (one hp.s.semi)
  ·have aA:(mR tg&&bG ex)=true:=aW;simp only[aD] at aA;exact bQ (bQ (bQ (uI hp tg w3 (yQ aA.1)) (one hp.s.eq)) (uI hp ex w4 aA.2)) (one hp.s.semi)
  ·have aA:nh ex=true:=aW;exact bQ (uI hp ex w4 (za aA)) (one hp.s.semi)
  ·have aA:((decide (body.length<=32)&&b9 false body&&(decide (alt.length<=32)&&b9 false alt))&&bG ex)=true:=aW;rw[aD] at aA;refine bQ (bQ (bQ (one hp.s.kif) (JU hp w4 aA.2)) (hB aA.1)) ?_;split
   ·exact bQ (one hp.s.kelse) (hA aA.1)
   ·exact sN
  ·have aA:((decide (body.length<=32)&&b9 false body&&(decide (alt.length<=32)&&b9 false alt))&&bG ex)=true:=aW;rw[aD] at aA;exact bQ (bQ (one hp.s.kwhile) (JU hp w4 aA.2)) (hB aA.1)
  ·have aA:(jj ex||bG ex)=true:=aW;refine bQ (bQ (one hp.s.kret) ?_) (one hp.s.semi);split
   ·rename_i h0;rw[Bool.or_eq_true] at aA;rcases aA with g |g
    ·exact absurd (Jo g) h0
    ·exact uI hp ex w4 g
   ·exact sN
  ·have aA:bG ex=true:=aW;exact bQ (bQ (one hp.s.kthrow) (uI hp ex w4 aA)) (one hp.s.semi)
  ·have aA:((decide (body.length<=32)&&b9 false body&&(decide (alt.length<=32)&&b9 false alt))&&dn nm&&dw ty.dim ty.base ty.name)=true:=aW;rw[aD,aD] at aA;exact bQ (bQ (bQ (bQ (bQ (bQ (bQ (one hp.s.ktry) (hB aA.1.1)) (one hp.s.kcatch)) (one hp.s.b.lp)) (zU hp w2 aA.2)) (one (hp.nm nm (.inl aA.1.2) w1))) (one hp.s.b.rp)) (hA aA.1.1)
  ·have aA:((decide (body.length<=32)&&b9 false body&&(decide (alt.length<=32)&&b9 false alt))&&bG ex)=true:=aW;rw[aD] at aA;exact bQ (bQ (one hp.s.ksync) (JU hp w4 aA.2)) (hB aA.1)
  ·have aA:(decide (body.length<=32)&&b9 false body&&(decide (alt.length<=32)&&b9 false alt))=true:=aW;exact hB aA
  ·have aA:mW ex=true:=aW;exact bQ (bQ (one hp.s.b.ksuper) (ae2 hp (Y8 w4) (DZ aA))) (one hp.s.semi)
theorem BT {p:Tk->Prop} (hp:TkP p):∀(sup:Bool) (l:List St),rD l->b9 sup l=true->eT p (be l)
 |_,[],_,_=>by simp only[be];exact sN
 |sup,e::r,h,hv=>by
  simp only[rD] at h;simp only[b9,aD] at hv;simp only[be];exact bQ (afq hp e h.1 hv.1.2) (BT hp false r h.2 hv.2)
end
theorem FF {p:Tk->Prop} (hp:SsOk p) (fl:Int):eT p (cP fl):=fun t ht=>by
 simp only[cP,List.mem_map,List.mem_filter] at ht;obtain⟨x,⟨hx,_⟩,rfl⟩:=ht;exact hp.mods x hx
theorem Tt {p:Tk->Prop} (hp:TkP p) {w:List UInt8} (hw:p (kw w)):∀{l:List (List UInt8)},(∀s∈l,dd s=true/\s.length<=av)->eT p (gD w l)
 |[],_=>sN
 |s::r,h=>by
  refine vA hw (vA (hp.nm s (.inr (h s (bY ..)).1) (h s (bY ..)).2) fun t ht=> ?_);obtain⟨l,hl,ht⟩:=List.mem_flatten.1 ht;obtain⟨x,hx,rfl⟩:=List.mem_map.1 hl;have:=h x (bR _ hx);rcases List.mem_cons.1 ht with rfl |ht
  ·exact hp.s.b.comma
  ·rw[List.mem_singleton.1 ht];exact hp.nm x (.inr this.1) this.2
theorem adA {p:Tk->Prop} (hp:TkP p) {t:Ty} (h:mU t=true):eT p (b5 t.dim t.base t.name):=by
 simp only[mU,aD,bt] at h;exact By hp.s.b _ _ fun _ _ h3=>absurd h.2.1 h3
theorem Z8 {p:Tk->Prop} (hp:TkP p) {d:Md} (hw:MdOk d) (hs:rD d.body) (hv:gh d=true):eT p (eO d):=by
 simp only[gh,aD] at hv;obtain⟨⟨⟨h1,h2⟩,h3⟩,h4⟩:=hv;have hP:∀q∈d.params,gR q=true:=fun q hq=>by
  rw[Bool.not_eq_true',List.any_eq_false] at h3;simpa using h3 q hq
 simp only[eB,aD] at h4;refine bQ (bQ (bQ (FF hp.s _) ?_) (zi hp.s.b fun t ht=> ?_)) ?_
 ·split
  ·exact dK hp.s.b.knew
  ·rename_i h0;rw[nf,af h0] at h1;simp only[aD,Bool.or_eq_true] at h1;refine bQ ?_ (dK (hp.nm _ (.inl h1.1) hw.name));rcases h1.2 with g |g
   ·exact adA hp g
   ·exact zU hp hw.res g
 ·obtain⟨q,hq,rfl⟩:=List.mem_map.1 ht;have:=hP q hq;simp only[gR,aD] at this;exact bQ (zU hp (hw.ps q hq).ty this.1) (dK (hp.nm _ (.inl this.2) (hw.ps q hq).name))
 ·split
  ·exact Gn hp.s (BT hp _ _ hs h4.2)
  ·exact dK hp.s.semi
theorem adk {p:Tk->Prop} (hp:TkP p) {d:Cd} (hw:wA d) (hv:im d=true):eT p (jt d):=by
 obtain⟨ar,hi,hm⟩:=hw;simp only[im,aD] at hv;obtain⟨_,⟨⟨⟨⟨⟨hn,wP⟩,_⟩,hF⟩,hM⟩,hI⟩⟩:=hv;simp only[mg,aD] at hn;have T9:∀s∈d.ifs,dd s=true/\s.length<=av:=fun s hs=>by
  rw[Bool.not_eq_true',List.any_eq_false] at wP;exact⟨by simpa using wP s hs,ar.ifs s hs⟩
 have vo:∀f∈d.fields,jQ f=true:=fun f hf=>by
  rw[Bool.not_eq_true',List.any_eq_false] at hF;simpa using hF f hf
 have GW:∀f∈d.methods,gh f=true:=fun f hf=>by
  rw[Bool.not_eq_true',List.any_eq_false] at hM;simpa using hM f hf
 simp only[eB,aD] at hI;refine bQ (bQ (bQ (bQ (bQ ?_ (dK hp.s.lc)) fun t ht=> ?_) ?_) fun t ht=> ?_) (dK hp.s.rc)
 ·unfold pA;split
  ·exact bQ (bQ (bQ (FF hp.s _) (dK hp.s.kiface)) (dK (hp.nm _ (.inr hn.1.1) ar.name))) (Tt hp hp.s.kext T9)
  ·exact bQ (bQ (bQ (bQ (bQ (FF hp.s _) (dK hp.s.kclass)) (dK (hp.nm _ (.inr hn.1.1) ar.name))) (dK hp.s.kext)) (dK (hp.nm _ (.inr hn.1.2) ar.super))) (Tt hp hp.s.kimpl T9)
 ·obtain⟨l,hl,ht⟩:=List.mem_flatten.1 ht;obtain⟨f,hf,rfl⟩:=List.mem_map.1 hl;have hv:=vo f hf;simp only[jQ,aD] at hv;exact(bQ (bQ (bQ (FF hp.s _) (zU hp (ar.fs f hf).ty hv.1.1.1)) (dK (hp.nm _ (.inl hv.1.1.2) (ar.fs f hf).name))) (dK hp.s.semi)) t ht
 ·split
  ·exact bQ (dK hp.s.kstat) (Gn hp.s (BT hp _ _ hi hI.2))
  ·exact sN
 ·obtain⟨l,hl,ht⟩:=List.mem_flatten.1 ht;obtain⟨f,hf,rfl⟩:=List.mem_map.1 hl;exact Z8 hp (hm f hf).1 (hm f hf).2 (GW f hf) t ht
theorem ad0 {p:Tk->Prop} (hp:TkP p) {l:List Cd} (hw:∀d∈l,wA d) (hv:∀d∈l,im d=true):eT p (mh l):=fun t ht=>by
 obtain⟨x,hx,ht⟩:=List.mem_flatten.1 ht;obtain⟨d,hd,rfl⟩:=List.mem_map.1 hx;exact adk hp (hw d hd) (hv d hd) t ht
theorem EM:∀{l:List Cd} {seen:List (List UInt8)},(eZ seen l).2=0->∀d∈l,im d=true/\tc d=false/\ns d=false
 |[],_,_,d,hd=>by cases hd
 |x::r,seen,h,d,hd=>by
  rw[eZ] at h;split at h
  ·rename_i h1;split at h
   ·cases h
   ·rename_i h2;split at h
    ·cases h
    ·rename_i h3;rcases List.mem_cons.1 hd with rfl |hd
     ·rw[Bool.not_eq_true,Bool.or_eq_false_iff] at h3;exact⟨h1,by simpa using h2,h3.2⟩
     ·exact EM h d hd
  ·cases h
/-! How many tokens. -/
theorem Qo {K:Nat}:∀{l:List (List Tk)} {f:Bool},(∀t∈l,t.length<=K)->(bF f l).length<=(K+1) * l.length
 |[],_,_=>by simp [bF]
 |t::r,f,h=>by
  have h1:=h t (bY ..);have h2:=Qo (l:=r) (f:=false) fun x hx=>h x (bR _ hx)
  simp only[bF,aI,aL,Nat.mul_add,Nat.mul_one];cases f
  ·simp only[Bool.false_eq_true,if_false,aL];omega
  ·simp only[if_true];omega
theorem aag {l:List Ex} (hv:gg l=true):(bj (l.map aC)).length<=28 * fb l+2:=by
 have h1:=IL (aS l);rw[BO] at h1;have h2:=Ih l hv;omega
theorem uE (t:List Tk):(bl t).length=t.length+2:=by simp [bl]
theorem HF (e:Ex):dM e=fb e.args+1:=by cases e;simp [dM,Ex.args]
mutual
theorem To:∀(s:St),fv s=true->(cS s).length<=30 * iD s
 | .mk k nm ty tg ex body alt,hv=>by
  simp only[fv,aD] at hv;have aW:=hv.1;clear hv;have hB:∀{q:Bool},(decide (body.length<=32)&&b9 false body&&q)=true->(bl (be body)).length<=30 * dD body+2:=fun iJ=>by
   simp only[aD] at iJ;have:=uF false body iJ.1.2;rw[uE];omega
  have hA:∀{q:Bool},(q&&(decide (alt.length<=32)&&b9 false alt))=true->(bl (be alt)).length<=30 * dD alt+2:=fun iJ=>by
   simp only[aD] at iJ;have:=uF false alt iJ.2.2;rw[uE];omega
  have hs1:=HF ex;have tM:=HF tg;have hX:bG ex=true->(aC ex).length+3<=28 * dM ex:=zn ex;have hR:bG ex=true->(bj [aC ex]).length+1<=28 * dM ex:=fun h=>by have:=zn ex h;rw[Q7];omega
  simp only[iD];rcases A4 aW with rfl |rfl |rfl |rfl |rfl |rfl |rfl |rfl |rfl |rfl |rfl
  ·have aA:(dn nm&&dw ty.dim ty.base ty.name&&bG ex)=true:=aW;simp only[aD] at aA;have h1:=zt ty.dim ty.base ty.name (uj aA.1.2);have h2:=hX aA.2;show((b5 ty.dim ty.base ty.name++[aM nm]++[sg [61]]++aC ex)++[sg [59]]).length<=_;simp only[aI,aL,bh];omega
  ·have aA:(mR tg&&bG ex)=true:=aW;simp only[aD] at aA;have h1:=zn tg (yQ aA.1);have h2:=hX aA.2;show((aC tg++[sg [61]]++aC ex)++[sg [59]]).length<=_;simp only[aI,aL,bh];omega
  ·have aA:nh ex=true:=aW;have h2:=hX (za aA);show((aC ex)++[sg [59]]).length<=_;simp only[aI,aL,bh];omega
  ·have aA:((decide (body.length<=32)&&b9 false body&&(decide (alt.length<=32)&&b9 false alt))&&bG ex)=true:=aW;rw[aD] at aA;have h1:=hR aA.2;have h2:=hB aA.1;have h3:=hA aA.1;have h4:(if 0<alt.length then[kw [101,108,115,101]]++bl (be alt) else[]).length<=30 * dD alt+3:=by
    split
    ·simp only[aI,aL,bh];omega
    ·simp
   show([kw [105,102]]++bj [aC ex]++bl (be body)++(if 0<alt.length then[kw [101,108,115,101]]++bl (be alt) else[])).length<=_;rw[aI];simp only[aI,aL,bh] at h4 ⊢;omega
  ·have aA:((decide (body.length<=32)&&b9 false body&&(decide (alt.length<=32)&&b9 false alt))&&bG ex)=true:=aW;rw[aD] at aA;have h1:=hR aA.2;have h2:=hB aA.1;show([kw [119,104,105,108,101]]++bj [aC ex]++bl (be body)).length<=_;simp only[aI,aL,bh];omega
  ·have aA:(jj ex||bG ex)=true:=aW;have h4:(if ex.k≠0 then aC ex else[]).length<=28 * dM ex:=by
    split
    ·rename_i h0;rw[Bool.or_eq_true] at aA;rcases aA with g |g
     ·exact absurd (Jo g) h0
     ·have:=hX g;omega
    ·simp
   show(([kw [114,101,116,117,114,110]]++(if ex.k≠0 then aC ex else[]))++[sg [59]]).length<=_;simp only[aI,aL,bh] at h4 ⊢;omega
  ·have aA:bG ex=true:=aW;have h2:=hX aA;show(([kw [116,104,114,111,119]]++aC ex)++[sg [59]]).length<=_;simp only[aI,aL,bh];omega
  ·have aA:((decide (body.length<=32)&&b9 false body&&(decide (alt.length<=32)&&b9 false alt))&&dn nm&&dw ty.dim ty.base ty.name)=true:=aW;rw[aD,aD] at aA;have h1:=zt ty.dim ty.base ty.name (uj aA.2);have h2:=hB aA.1.1;have h3:=hA aA.1.1;show([kw [116,114,121]]++bl (be body)++[kw [99,97,116,99,104]]++[sg [40]]++b5 ty.dim ty.base ty.name++[aM nm]++[sg [41]]++bl (be alt)).length<=_;simp only[aI,aL,bh];omega
  ·have aA:((decide (body.length<=32)&&b9 false body&&(decide (alt.length<=32)&&b9 false alt))&&bG ex)=true:=aW;rw[aD] at aA;have h1:=hR aA.2;have h2:=hB aA.1;show([kw [115,121,110,99]]++bj [aC ex]++bl (be body)).length<=_;simp only[aI,aL,bh];omega
  ·have aA:(decide (body.length<=32)&&b9 false body&&(decide (alt.length<=32)&&b9 false alt))=true:=aW;have h2:=hB aA;show(bl (be body)).length<=_;omega
  ·have aA:mW ex=true:=aW;have h2:=aag (DZ aA);show(([kw [115,117,112,101,114]]++bj (ex.args.map aC))++[sg [59]]).length<=_;simp only[aI,aL,bh];omega
theorem uF:∀(sup:Bool) (l:List St),b9 sup l=true->(be l).length<=30 * dD l
 |_,[],_=>by simp [be,dD]
 |sup,e::r,hv=>by
  simp only[b9,aD] at hv;have h1:=To e hv.1.2;have h2:=uF false r hv.2;simp only[be,dD,aI];omega
end
theorem QR {d:Md} (h1:nf d=true):d.res.dim<=8:=by
 simp only[nf] at h1;split at h1
 ·simp only[aD,mU,bt] at h1;omega
 ·simp only[aD,Bool.or_eq_true,mU,bt] at h1;rcases h1.2 with g |g
  ·omega
  ·exact uj g
theorem Tp {d:Md} (hv:gh d=true):(eO d).length<=60 * nb d:=by
 simp only[gh,aD] at hv;obtain⟨⟨⟨h1,h2⟩,h3⟩,h4⟩:=hv;simp only[eB,aD] at h4;have hb:=uF _ _ h4.2;have hm:=xj d.fl;have ht:=zt d.res.dim d.res.base d.res.name (QR h1);have hp:(bF true (d.params.map cR)).length<=(18+1) * (d.params.map cR).length:=Qo fun t ht=>by
  obtain⟨q,hq,rfl⟩:=List.mem_map.1 ht;rw[Bool.not_eq_true',List.any_eq_false] at h3;have fQ:gR q=true:=by simpa using h3 q hq
  simp only[gR,aD] at fQ;have:=zt q.ty.dim q.ty.base q.ty.name (uj fQ.1);simp only[cR,aI,aL,bh];omega
 rw[List.length_map] at hp;have e1:(if d.name=eI then[kw [110,101,119]] else b5 d.res.dim d.res.base d.res.name++[aM d.name]).length<=18:=by
  split
  ·simp
  ·simp only[aI,aL,bh];omega
 have e2:(if d.hb=true then bl (be d.body) else[sg [59]]).length<=30 * dD d.body+2:=by
  split
  ·rw[uE];omega
  ·simp
 simp only[eO,bj,nb];rw[aI,aI,aI];simp only[aI,aL,bh] at e1 e2 ⊢;omega
theorem Fg {α:Type} {f:α->List Tk} {g:α->Nat} {K:Nat}:∀{l:List α},(∀x∈l,(f x).length<=K * g x)->((l.map f).flatten).length<=K * (l.map g).sum
 |[],_=>by simp
 |x::r,h=>by
  have h1:=h x (bY ..);have h2:=Fg (l:=r) (K:=K) (g:=g) fun y hy=>h y (bR _ hy)
  simp only[bN,List.flatten_cons,aI,List.sum_cons,Nat.mul_add];omega
theorem Tq {d:Cd} (hv:im d=true):(jt d).length<=60 * eH d:=by
 simp only[im,aD] at hv;obtain⟨_,⟨⟨⟨⟨⟨hn,wP⟩,_⟩,hF⟩,hM⟩,hI⟩⟩:=hv;simp only[eB,aD] at hI;have hb:=uF _ _ hI.2;have hm:=xj d.fl;have aH:=xj (bits .andNot .i64 d.fl 1024);have GW:((d.methods.map eO).flatten).length<=60 * (d.methods.map nb).sum:=Fg fun f hf=>by
  rw[Bool.not_eq_true',List.any_eq_false] at hM;exact Tp (by simpa using hM f hf)
 have vo:((d.fields.map pr).flatten).length<=26 * (d.fields.map fun _=>1).sum:=Fg fun f hf=>by
  rw[Bool.not_eq_true',List.any_eq_false] at hF;have hv:jQ f=true:=by simpa using hF f hf
  simp only[jQ,aD] at hv;have h1:=zt f.ty.dim f.ty.base f.ty.name (uj hv.1.1.1);have h2:=xj f.fl;simp only[pr,aI,aL,bh];omega
 have hs:∀(l:List Fc),(l.map fun _=>1).sum=l.length:=fun l=>by
  induction l with
  |nil=>rfl
  |cons a r ih=>simp only[bN,List.sum_cons,aL,ih];omega
 rw[hs] at vo;have hH:(pA d).length<=11+d.ifs.length * 2:=by
  unfold pA;split
  ·simp only[aI,aL,bh,BF];omega
  ·simp only[aI,aL,bh,BF];omega
 have e2:(if 0<d.init.length then[kw [115,116,97,116,105,99]]++bl (be d.init) else[]).length<=30 * dD d.init+3:=by
  split
  ·rw[aI,uE];simp only[aL,bh];omega
  ·simp
 simp only[jt,Fw,eH];rw[aI,aI,aI,aI];simp only[aI,aL,bh] at e2 ⊢;omega
theorem agh {l:List Cd} (hv:∀d∈l,im d=true):(mh l).length<=60 * (l.map eH).sum:=Fg fun d hd=>Tq (hv d hd)
theorem QZ {l:List Cd} {seen:List (List UInt8)} (hw:∀d∈l,wA d) (hs:(l.map eH).sum<=1048576) (h0:(eZ seen l).2=0):(mh l).length<=cap/\eT qA (mh l):=by
 have hv:=fun d hd=>(EM h0 d hd).1
 have:=agh hv;exact⟨by simp only[cap];omega,ad0 adL hw hv⟩
end Go.Proofs.YtimddhkipjedcaaGreatDoor.E

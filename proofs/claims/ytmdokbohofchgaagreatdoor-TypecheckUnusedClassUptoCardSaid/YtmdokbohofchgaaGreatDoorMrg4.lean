/- Several texts in one. -/
import Derived.Test.YtmdokbohofchgaaGreatDoorMrg3
set_option linter.unusedSimpArgs false
set_option linter.unusedVariables false
set_option maxHeartbeats 4000000
set_option maxRecDepth 20000
namespace Go.Proofs.YtmdokbohofchgaaGreatDoor.E
open Go
/-! Descriptors. -/
def AS (t:Ty):Bool:=pN t.dim t.base t.name
def fO (s:Nm):Ty×Nm×Bool:=
  match s.drop (s.takeWhile (· ==91)).length with
  |[]=>(aj,[],false)
  |c::r=>if c=76 then(if Lib.indexByte r 59<0 then(aj,[],false)
    else(⟨(s.takeWhile (· ==91)).length,76,r.take (Lib.indexByte r 59).toNat⟩,r.drop ((Lib.indexByte r 59).toNat+1),AS ⟨(s.takeWhile (· ==91)).length,76,r.take (Lib.indexByte r 59).toNat⟩))
    else(⟨(s.takeWhile (· ==91)).length,c.toNat,[]⟩,r,AS ⟨(s.takeWhile (· ==91)).length,c.toNat,[]⟩)
def jK (s:Nm):Ty×Int:=if(fO s).2.2=true/\(fO s).2.1=[] then((fO s).1,0) else(aj,13)
def tw:Nat->List Ty->Nm->Option (List Ty×Nm)
 |0,_,_=>none
 |f+1,acc,s=>match s with
  |[]=>some (acc,[])
  |c::_=>if c=41 then some (acc,s) else if(fO s).2.2=true/\(fO s).1.base≠86 then tw f (acc++[(fO s).1]) (fO s).2.1 else none
def eX (s:Nm):(Ty×List Ty)×Int:=
  match s with
  |[]=>((aj,[]),13)
  |c::r=>if c=40 then(match tw (r.length+1) [] r with
    |none=>((aj,[]),13)
    |some (_,[])=>((aj,[]),13)
    |some (l,_::q)=>if(jK q).2=0 then(if 16<l.length then((aj,[]),5) else(((jK q).1,l),0)) else((aj,[]),(jK q).2)) else((aj,[]),13)
/-! The built-in classes: as the program builds them, and as declarations. -/
structure Mb where
 fl:Int
 name:Nm
 desc:Nm
structure Cm where
 fl:Int
 name:Nm
 super:Nm
 fields:List Mb
 methods:List Mb
def vL (f:Mb):Fc:=⟨f.fl,(jK f.desc).1,f.name⟩
def yq (m:Mb):Md:=⟨m.fl,(eX m.desc).1.1,m.name,(eX m.desc).1.2.map fun t=>⟨t,[]⟩,true,[]⟩
def rO (u:Cm):Cd:=⟨u.fl,u.name,u.super,[],u.fields.map vL,u.methods.map yq,[]⟩
def cZ:List Cm:=[
 ⟨1,[108,97,110,103,47,79,98,106,101,99,116],[],[],[⟨1,[60,105,110,105,116,62],[40,41,86]⟩,⟨273,[119,97,105,116],[40,41,86]⟩,⟨273,[110,111,116,105,102,121],[40,41,86]⟩,⟨273,[110,111,116,105,102,121,65,108,108],[40,41,86]⟩]⟩,
 ⟨17,[108,97,110,103,47,83,116,114,105,110,103],[108,97,110,103,47,79,98,106,101,99,116],[],[⟨257,[108,101,110,103,116,104],[40,41,73]⟩,⟨257,[97,116],[40,73,41,73]⟩]⟩,
 ⟨1,[108,97,110,103,47,84,104,114,111,119,97,98,108,101],[108,97,110,103,47,79,98,106,101,99,116],[],[⟨1,[60,105,110,105,116,62],[40,41,86]⟩]⟩,
 ⟨1,[108,97,110,103,47,69,114,114,111,114],[108,97,110,103,47,84,104,114,111,119,97,98,108,101],[],[⟨1,[60,105,110,105,116,62],[40,41,86]⟩]⟩,
 ⟨1,[108,97,110,103,47,78,117,108,108,80,111,105,110,116,101,114,69,120,99,101,112,116,105,111,110],[108,97,110,103,47,84,104,114,111,119,97,98,108,101],[],[⟨1,[60,105,110,105,116,62],[40,41,86]⟩]⟩,
 ⟨1,[108,97,110,103,47,73,110,100,101,120,79,117,116,79,102,66,111,117,110,100,115,69,120,99,101,112,116,105,111,110],[108,97,110,103,47,84,104,114,111,119,97,98,108,101],[],[⟨1,[60,105,110,105,116,62],[40,41,86]⟩]⟩,
 ⟨1,[108,97,110,103,47,65,114,105,116,104,109,101,116,105,99,69,120,99,101,112,116,105,111,110],[108,97,110,103,47,84,104,114,111,119,97,98,108,101],[],[⟨1,[60,105,110,105,116,62],[40,41,86]⟩]⟩,
 ⟨1,[108,97,110,103,47,65,114,114,97,121,83,116,111,114,101,69,120,99,101,112,116,105,111,110],[108,97,110,103,47,84,104,114,111,119,97,98,108,101],[],[⟨1,[60,105,110,105,116,62],[40,41,86]⟩]⟩,
 ⟨1,[108,97,110,103,47,67,108,97,115,115,67,97,115,116,69,120,99,101,112,116,105,111,110],[108,97,110,103,47,84,104,114,111,119,97,98,108,101],[],[⟨1,[60,105,110,105,116,62],[40,41,86]⟩]⟩,
 ⟨1,[108,97,110,103,47,65,114,114,97,121,83,105,122,101,69,120,99,101,112,116,105,111,110],[108,97,110,103,47,84,104,114,111,119,97,98,108,101],[],[⟨1,[60,105,110,105,116,62],[40,41,86]⟩]⟩,
 ⟨1,[108,97,110,103,47,73,108,108,101,103,97,108,77,111,110,105,116,111,114,83,116,97,116,101,69,120,99,101,112,116,105,111,110],[108,97,110,103,47,84,104,114,111,119,97,98,108,101],[],[⟨1,[60,105,110,105,116,62],[40,41,86]⟩]⟩,
 ⟨1,[108,97,110,103,47,76,105,110,107,97,103,101,69,114,114,111,114],[108,97,110,103,47,69,114,114,111,114],[],[⟨1,[60,105,110,105,116,62],[40,41,86]⟩]⟩,
 ⟨1,[108,97,110,103,47,73,110,105,116,105,97,108,105,122,101,114,69,114,114,111,114],[108,97,110,103,47,69,114,114,111,114],[],[⟨1,[60,105,110,105,116,62],[40,41,86]⟩]⟩,
 ⟨1,[108,97,110,103,47,79,117,116,79,102,77,101,109,111,114,121,69,114,114,111,114],[108,97,110,103,47,69,114,114,111,114],[],[⟨1,[60,105,110,105,116,62],[40,41,86]⟩]⟩,
 ⟨1,[108,97,110,103,47,83,116,97,99,107,79,118,101,114,102,108,111,119,69,114,114,111,114],[108,97,110,103,47,69,114,114,111,114],[],[⟨1,[60,105,110,105,116,62],[40,41,86]⟩]⟩,
 ⟨1,[108,97,110,103,47,84,104,114,101,97,100],[108,97,110,103,47,79,98,106,101,99,116],[],[⟨1,[60,105,110,105,116,62],[40,41,86]⟩,⟨1,[114,117,110],[40,41,86]⟩,⟨257,[115,116,97,114,116],[40,41,86]⟩]⟩,
 ⟨17,[108,97,110,103,47,67,111,110,115,111,108,101],[108,97,110,103,47,79,98,106,101,99,116],[],[⟨265,[112,114,105,110,116,73,110,116],[40,73,41,86]⟩,⟨265,[112,114,105,110,116,83,116,114,105,110,103],[40,76,108,97,110,103,47,83,116,114,105,110,103,59,41,86]⟩,⟨265,[112,114,105,110,116,76,111,110,103],[40,74,41,86]⟩]⟩,
 ⟨1025,[108,97,110,103,47,82,101,102,101,114,101,110,99,101],[108,97,110,103,47,79,98,106,101,99,116],[⟨1,[114,101,102,101,114,101,110,116],[76,108,97,110,103,47,79,98,106,101,99,116,59]⟩,⟨1,[99,108,101,97,114,101,100],[73]⟩],[⟨1,[60,105,110,105,116,62],[40,76,108,97,110,103,47,79,98,106,101,99,116,59,41,86]⟩]⟩,
 ⟨1,[108,97,110,103,47,83,111,102,116,82,101,102,101,114,101,110,99,101],[108,97,110,103,47,82,101,102,101,114,101,110,99,101],[],[⟨1,[60,105,110,105,116,62],[40,76,108,97,110,103,47,79,98,106,101,99,116,59,41,86]⟩]⟩,
 ⟨1,[108,97,110,103,47,87,101,97,107,82,101,102,101,114,101,110,99,101],[108,97,110,103,47,82,101,102,101,114,101,110,99,101],[],[⟨1,[60,105,110,105,116,62],[40,76,108,97,110,103,47,79,98,106,101,99,116,59,41,86]⟩]⟩,
 ⟨1,[108,97,110,103,47,80,104,97,110,116,111,109,82,101,102,101,114,101,110,99,101],[108,97,110,103,47,82,101,102,101,114,101,110,99,101],[],[⟨1,[60,105,110,105,116,62],[40,76,108,97,110,103,47,79,98,106,101,99,116,59,41,86]⟩]⟩]
def bb:List Cd:=cZ.map rO
def kO (L:List Cc):List Value:=(L.map fun X=>[Value.string (bs X.name),.agg ⟨X.cs⟩]).flatten
def fnd (L:List Cc) (s:Nm):Option Cc:=L.find? fun X=>decide (X.name=s)
theorem HJ (X:Cc) (L:List Cc):kO (X::L)= .string (bs X.name):: .agg ⟨X.cs⟩::kO L:=rfl
theorem Jm {a b:Nm}:(Value.string (bs a)= .string (bs b))=(a=b):=eq_iff_iff.2 ⟨fun h=>oM (Value.string.inj h),fun h=>by rw[h]⟩
theorem iN (s:Nm):∀L:List Cc,gK (kO L) (.string (bs s))=(fnd L s).map fun X=> .agg ⟨X.cs⟩
 |[]=>rfl
 |X::L=>by
  rw[HJ,gK,fnd,List.find?_cons];by_cases h:X.name=s
  ·rw[ai (by rw[h]),aP h];rfl
  ·rw[aa (by rw[Jm];exact h),ab h];exact iN s L
theorem Kn (s:Nm) (v:Cc) (hv:v.name=s):∀L:List Cc,fnd L s=none->oY (kO L) (.string (bs s)) (.agg ⟨v.cs⟩)=kO (L++[v])
 |[],_=>by subst hv;rfl
 |X::L,h=>by
  rw[fnd,List.find?_cons] at h;by_cases e:X.name=s
  ·rw[aP e] at h;cases h
  ·rw[ab e] at h;rw[HJ,oY,aa (by rw[Jm];exact e),Kn s v hv L h];rfl
def MpR (m:Mem) (E:List Cd) (L:List Cc):Prop:=∀s,match cls E s,fnd L s with
 |none,none=>True
 |some d,some X=>gY m d X.cs
 |_,_=>False
theorem MpR.nil (m:Mem):MpR m [] []:=fun _=>trivial
theorem MpR.up {m m' :Mem} {E:List Cd} {L:List Cc} (h:MpR m E L) (hle:ah m m'):MpR m' E L:=fun s=>by
 have:=h s;revert this;cases cls E s<;>cases fnd L s<;>intro h
 ·trivial
 ·exact h.elim
 ·exact h.elim
 ·exact vb hle h
theorem MpR.none {m:Mem} {E:List Cd} {L:List Cc} (h:MpR m E L) {s:Nm} (hc:cls E s= .none):fnd L s= .none:=by
 have:=h s;rw[hc] at this;cases hf:fnd L s with
 |none=>rfl
 |some X=>rw[hf] at this;exact this.elim
theorem MpR.some {m:Mem} {E:List Cd} {L:List Cc} (h:MpR m E L) {s:Nm} {d:Cd} (hc:cls E s= .some d):∃X,fnd L s= .some X/\gY m d X.cs:=by
 have:=h s;rw[hc] at this;cases hf:fnd L s with
 |none=>rw[hf] at this;exact this.elim
 |some X=>rw[hf] at this;exact⟨X,rfl,this⟩
theorem Kd (E:List Cd) (d:Cd) (s:Nm):cls (E++[d]) s=(match cls E s with | .some x=> .some x | .none=>if d.name=s then .some d else .none):=by
 unfold cls;rw[List.find?_append];cases E.find? fun d=>decide (d.name=s) with
 |some x=>rfl
 |none=>
  by_cases h:d.name=s
  ·simp [h]
  ·simp [h]
theorem Th (L:List Cc) (X:Cc) (s:Nm):fnd (L++[X]) s=(match fnd L s with | .some x=> .some x | .none=>if X.name=s then .some X else .none):=by
 unfold fnd;rw[List.find?_append];cases L.find? fun d=>decide (d.name=s) with
 |some x=>rfl
 |none=>
  by_cases h:X.name=s
  ·simp [h]
  ·simp [h]
theorem MpR.new {m:Mem} {E:List Cd} {L:List Cc} (h:MpR m E L) {d:Cd} {X:Cc} (hX:X.name=d.name) (hd:gY m d X.cs) (hn:cls E d.name= .none):MpR m (E++[d]) (L++[X]):=fun s=>by
 have hs:=h s;rw[Kd,Th];revert hs;cases hc:cls E s<;>cases hf:fnd L s<;>intro hs
 ·dsimp only;rw[hX];by_cases e:d.name=s
  ·rw[ai e,ai e];exact hd
  ·rw[aa e,aa e];trivial
 ·exact hs.elim
 ·exact hs.elim
 ·exact hs
theorem MpR.old {m:Mem} {E:List Cd} {L:List Cc} (h:MpR m E L) {d x:Cd} (hn:cls E d.name= .some x):MpR m (E++[d]) L:=fun s=>by
 have hs:=h s;rw[Kd];revert hs;cases hc:cls E s with
 |none=>
  dsimp only;rw[aa fun e=>by rw[e,hc] at hn;cases hn];exact id
 |some y=>exact id
section
variable {P:Program} {cfg:Cfg}
def lv (V:Vl) (b:Bx):Bx:=⟨b.id,b.ty,b.cs.map fun s=> .v (aH V s)⟩
theorem IU (V:Vl) (l:List SV):(l.map fun s=>SV.v (aH V s)).map (aH V)=l.map (aH V):=by
 induction l with
 |nil=>rfl
 |cons s r ih=>simp only[aG,ih];rfl
theorem Dy {nid:Nat} {vc:List Vc} {V:Vl}:∀l:List SV,cL nid vc (l.map fun s=>SV.v (aH V s))
 |[]=>trivial
 |s::r=>⟨trivial,Dy r⟩
theorem IS (V:Vl):∀l:List Bx,(l.map (lv V)).map (fun b=>V.β b.id)=l.map (fun b=>V.β b.id)
 |[]=>rfl
 |b::r=>by simp only[aG,IS V r];rfl
theorem Av (V:Vl) (H:Hp):aE V ⟨H.bx.map (lv V),H.vc⟩=aE V H:=by
 unfold aE;rw[IS]
theorem HW {V:Vl} {D:Nat->Nat} {w:World} {H:Hp} (h:HSat V D w H):HSat V D w ⟨H.bx.map (lv V),H.vc⟩:=by
 refine⟨fun b hb=> ?_,h.vc,?_,h.uniq⟩
 ·obtain⟨b0,h0,rfl⟩:=List.mem_map.1 hb;obtain⟨⟨o,h1,h2⟩,h3⟩:=h.bx b0 h0;refine⟨⟨o,h1,?_⟩,h3⟩;show gL b0.ty ((b0.cs.map fun s=>SV.v (aH V s)).map (aH V)) o;rw[IU];exact h2
 ·rw[Av];exact h.apart
theorem Gx {V:Vl} {D:Nat->Nat} {w:World} {H:Hp} (h:HSat V D w ⟨H.bx.map (lv V),H.vc⟩):HSat V D w H:=by
 refine⟨fun b hb=> ?_,h.vc,?_,h.uniq⟩
 ·obtain⟨⟨o,h1,h2⟩,h3⟩:=h.bx (lv V b) (List.mem_map.2 ⟨b,hb,rfl⟩);refine⟨⟨o,h1,?_⟩,h3⟩;have wN:gL b.ty ((b.cs.map fun s=>SV.v (aH V s)).map (aH V)) o:=h2;rw[IU] at wN;exact wN
 ·have:=h.apart;rw[Av] at this;exact this
theorem Au {V:Vl} {H H2:Hp} (hb:H2.bx.Sublist H.bx) (hv:H2.vc.Sublist H.vc):(aE V H2).Sublist (aE V H):=by
 unfold aE;exact(hb.map _).append (hv.filterMap _)
theorem Di {V:Vl} {D:Nat->Nat} {w:World} {H H2:Hp} (h:HSat V D w H) (hb:H2.bx.Sublist H.bx) (hv:H2.vc.Sublist H.vc):HSat V D w H2:=
 ⟨fun b h0=>h.bx b (hb.subset h0),fun b h0=>h.vc b (hv.subset h0),h.apart.sublist (Au hb hv),h.uniq.sublist (hv.map _)⟩
theorem UD {f:FuncId} {args:List SV} {H:Hp} {m:Mem} {R R' :SV->Hp->Mem->Prop} (h:FnH P f args H m R)
  (hR:∀r H' m',m.le m' ->R r H' m' ->R' r H' m' \/∃(g:SV->SV) (k u:Nat) (b:Vc) (H2:Hp),cq H'.vc k u=some b/\r=g (.vec k u)/\
   (∀(V:Vl) (v:Value),(V.γ k u).val=v->den V (g (.vec k u))=den V (g (.v v)))/\H2.bx.Sublist H'.bx/\H2.vc.Sublist H'.vc/\
   ∀(a:Option Addr) (c:Nat) (m1:Mem),m'.le m1->b.n<=c->ax m1 a b.n b.sz b.xs->R' (g (.v (.slice a b.n c))) H2 m1):FnH P f args H m R' :=by
 intro V w D dX hle hH;refine(h V w D dX hle hH).mono ?_;rintro e w' ⟨r,V',D',H',m',e1,e2,e3,e4,e5,e6,e7,e8,e9,bZ,cj⟩;rcases hR r H' m' e9 cj with hr |⟨g,k,u,b,H2,hb,rfl,hg,s1,s2,hK⟩
 ·exact⟨r,V',D',H',m',e1,e2,e3,e4,e5,e6,e7,e8,e9,bZ,hr⟩
 ·have hW:SatW ⟨w,D,(· ∈aE V H),⟨[],[]⟩,V',m⟩ (H'.bx.map (lv V')) H'.vc (max (jw (H'.bx.map (lv V'))) (jv H'.vc)) m' V' D' w' :=by
   refine⟨HW e3,e2,e6,fun x hx=> ?_,fun x hx=>(by cases hx),fun x hx=>(by cases hx),⟨fun x hx=>⟨?_,?_⟩,fun x hx=> ?_⟩,e8,e9,bZ⟩
   ·rw[Av] at hx;exact e7 x hx
   ·exact dm (xC hx) (Nat.le_max_left _ _)
   ·obtain⟨b0,_,rfl⟩:=List.mem_map.1 hx;exact Dy _
   ·exact dm (xB hx) (Nat.le_max_right _ _)
  obtain⟨a,c,m1,D2,q1,q2,q3,q4,q5⟩:=SatW.pub (st:=⟨[],[],H'.bx.map (lv V'),H'.vc,max (jw (H'.bx.map (lv V'))) (jv H'.vc),m'⟩) hW hb;have hS:=Di (Gx q5.heap) s1 s2;refine⟨g (.v (.slice a b.n c)),V',D2,H2,m1,?_,q5.wf,hS,e4,e5,q5.frm,fun x hx=>e7 x ((Au s1 s2).subset hx),q5.le0,q5.m0,q5.mle,hK a c m1 q1 q2 q3⟩;rw[e1,hg V' _ q4]
def sn (R' :SV->Hp->Mem->Prop) (r:SV) (H' :Hp) (m' :Mem):Prop:=R' r H' m' \/∃(g:SV->SV) (k u:Nat) (b:Vc) (H2:Hp),cq H'.vc k u=some b/\r=g (.vec k u)/\
 (∀(V:Vl) (v:Value),(V.γ k u).val=v->den V (g (.vec k u))=den V (g (.v v)))/\H2.bx.Sublist H'.bx/\H2.vc.Sublist H'.vc/\
 ∀(a:Option Addr) (c:Nat) (m1:Mem),m'.le m1->b.n<=c->ax m1 a b.n b.sz b.xs->R' (g (.v (.slice a b.n c))) H2 m1
theorem nL {f:FuncId} {args:List SV} {H:Hp} {m:Mem} {R' :SV->Hp->Mem->Prop} (h:FnH P f args H m (sn R')):FnH P f args H m R' :=
 UD h fun _ _ _ _ hr=>hr
theorem xE {R' :SV->Hp->Mem->Prop} {H' :Hp} {m' :Mem} {k u:Nat} {b:Vc} (hb:cq H'.vc k u=some b) (H2:Hp) (s1:H2.bx.Sublist H'.bx) (s2:H2.vc.Sublist H'.vc)
  (h:∀(a:Option Addr) (c:Nat) (m1:Mem),m'.le m1->b.n<=c->ax m1 a b.n b.sz b.xs->R' (.v (.slice a b.n c)) H2 m1):sn R' (.vec k u) H' m' :=
 .inr ⟨id,k,u,b,H2,hb,rfl,fun _ _ h=>h,s1,s2,h⟩
theorem DR {V:Vl} {v:Value}:∀{cs:List SV} {i k u:Nat},cs[i]? =some (.vec k u)->(V.γ k u).val=v->(cs.set i (.vec k u)).map (aH V)=(cs.set i (.v v)).map (aH V)
 |c::r,0,k,u,h,e=>by
  show aH V (.vec k u)::_=v::_;rw[<- e];rfl
 |c::r,i+1,k,u,h,e=>by
  simp only[List.set_cons_succ,aG];rw[DR (cs:=r) (i:=i) (by simpa using h) e]
theorem s8 {R' :SV->Hp->Mem->Prop} {H' :Hp} {m' :Mem} {cs:List SV} {k u:Nat} {b:Vc} (i:Nat) (hi:cs[i]? =some (.vec k u)) (hb:cq H'.vc k u=some b) (H2:Hp) (s1:H2.bx.Sublist H'.bx) (s2:H2.vc.Sublist H'.vc)
  (h:∀(a:Option Addr) (c:Nat) (m1:Mem),m'.le m1->b.n<=c->ax m1 a b.n b.sz b.xs->R' (.agg (cs.set i (.v (.slice a b.n c)))) H2 m1):sn R' (.agg cs) H' m' :=by
 refine .inr ⟨fun z=> .agg (cs.set i z),k,u,b,H2,hb,?_,fun V v e=> ?_,s1,s2,h⟩
 ·obtain⟨hl,he⟩:=List.getElem?_eq_some_iff.1 hi;simp only[<- he,List.set_getElem_self]
 ·show Value.agg ⟨_⟩=Value.agg ⟨_⟩;rw[DR hi e]
def vA (k:Nat) (K:LS->Prop) (st:LS):Prop:=
 az (.mk (k:=fun b:Bx=>fE (.mk (k:=fun bh af=>cL af.nid af.vc bh/\K ⟨af.env,af.rho,fS af.bx k bh,af.vc,af.nid,af.m⟩) (st,b.cs))) (dt st.bx k))
theorem oG {k:Nat} {K:LS->Prop} {st:LS}:vA k K st=
  az (.mk (k:=fun b:Bx=>fE (.mk (k:=fun bh af=>cL af.nid af.vc bh/\K ⟨af.env,af.rho,fS af.bx k bh,af.vc,af.nid,af.m⟩) (st,b.cs))) (dt st.bx k)):=rfl
theorem xt {k:Nat} {cs:List SV}:∀bx:List Bx,(fS bx k cs).map (·.id)=bx.map (·.id)
 |[]=>rfl
 |⟨k',t',bh⟩::r=>by
  simp only[fS];split
  ·rfl
  ·simp only[aG,xt r]
theorem xr {k:Nat} {cs:List SV}:∀{bx:List Bx} {b:Bx},b∈fS bx k cs->b∈bx\/∃b0,b0∈bx/\dt bx k=some b0/\b=⟨b0.id,b0.ty,cs⟩
 |⟨k',t',bh⟩::r,b,h=>by
  simp only[fS] at h;split at h
  ·rename_i e;rcases List.mem_cons.1 h with rfl |h
   ·refine .inr ⟨⟨k',t',bh⟩,bL ..,?_,rfl⟩;simp only[dt,ai e]
   ·exact .inl (bt _ h)
  ·rename_i e;rcases List.mem_cons.1 h with rfl |h
   ·exact .inl (bL ..)
   ·rcases xr h with h |⟨b0,h1,h2,h3⟩
    ·exact .inl (bt _ h)
    ·refine .inr ⟨b0,bt _ h1,?_,h3⟩;simp only[dt,aa e];exact h2
theorem SZ {V:Vl} {l l' :List Bx} (h:l'.map (·.id)=l.map (·.id)):l'.map (fun b=>V.β b.id)=l.map (fun b=>V.β b.id):=by
 have:=congrArg (List.map V.β) h;simpa only[List.map_map,Function.comp_def] using this
theorem AF {V:Vl} {bx eU:List Bx} {vc:List Vc} (h:eU.map (·.id)=bx.map (·.id)):aE V ⟨eU,vc⟩=aE V ⟨bx,vc⟩:=by
 unfold aE;simp only[SZ h]
theorem Gj {C:Ctx} {n:Nat} {st:LS} {a:Act} {w:World} {k:Nat} {K:LS->Prop} (hE:jg C n st a w) (h:vA k K st):∃af,jg C n af a w/\K af:=by
 obtain⟨ev,V,D,hS⟩:=hE;unfold vA at h;obtain⟨b,hb,h⟩:=ay h;obtain⟨bh,m1,D1,⟨ho,hK⟩,hW,hd,_⟩:=kC (st:=st) b.cs _ st.m D h hS.w;have cN:=(nG hb).2;refine⟨⟨st.env,st.rho,fS st.bx k bh,st.vc,st.nid,m1⟩,⟨ev,V,D1,⟨hS.f,hS.ids,⟨⟨fun x hx=> ?_,hW.heap.vc,?_,hW.heap.uniq⟩,hW.wf,hW.frm,?_,hW.baseB,hW.baseV,⟨fun x hx=> ?_,hW.ids.2⟩,hW.le0,hW.m0,hW.mle⟩⟩⟩,hK⟩
 ·rcases xr hx with hx |⟨b0,h1,h2,rfl⟩
  ·exact hW.heap.bx x hx
  ·have e:b0=b:=by rw[h2] at hb;exact Option.some.inj hb
   subst e;obtain⟨⟨o,q1,q2⟩,q3⟩:=hW.heap.bx b0 h1;refine⟨⟨o,q1,?_⟩,q3⟩;show gL b0.ty (bh.map (aH V)) o;rw[hd];exact q2
 ·rw[AF (xt st.bx)];exact hW.heap.apart
 ·rw[AF (xt st.bx)];exact hW.own
 ·rcases xr hx with hx |⟨b0,h1,h2,rfl⟩
  ·exact hW.ids.1 x hx
  ·exact⟨(hW.ids.1 b0 h1).1,ho⟩
theorem RZ (dE:cw cfg P) {n:Nat} {st:LS} {body:Code} {Q:Exit->LS->Prop} {X:Type} (T:(LS->Prop)->LS->Prop) (hT:∀(K:LS->Prop) (C:Ctx) (st:LS) (a:Act) (w:World),jg C n st a w->T K st->∃af,jg C n af a w/\K af) (S:X->LS) (I:X->Prop) (μ:X->Nat)
  (hd:jM n body=true) (hn:∀x,I x->st.nid<=(S x).nid) (hm:∀x,I x->ah st.m (S x).m) (ao:∀x,oZ (S x)) (h0:T (fun af=>∃x,Match af (S x)/\I x) st)
  (round:∀x,I x->cV (.mk (k:=(cfg,P,n,body,ix (T fun af=>∃x',Match af (S x')/\I x' /\μ x' <μ x) Q)) (S x))):jH (.mk (k:=(P,n,.loop body,Q)) st):=by
 rintro C a w ⟨ev,V,D,hS⟩;have hB:∀b∈C.H0.bx,b.id<st.nid:=fun b hb=>(hS.w.baseB b hb).2
 have hV:∀b∈C.H0.vc,b.id<st.nid:=fun b hb=>(hS.w.baseV b hb).2.1
 have Fw:∀x,I x->C.m0.le (S x).m:=fun x hx=>by
  rcases hm x hx with e |h
  ·rw[<- e];exact hS.w.m0
  ·exact Mem.le_trans hS.w.m0 h
 have yv:∀(kP:LS) (a1:Act) (w1:World) (x:X),jg C n kP a1 w1->Match kP (S x)->I x->jg C n (S x) a1 w1:=by
  rintro kP a1 w1 x ⟨_,V1,D1,jj⟩ hM hx;exact⟨hM.2.1,V1,D1,jj.weaken hM (ao x) (fun b hb=>dm (hB b hb) (hn x hx)) (fun b hb=>dm (hV b hb) (hn x hx)) (Fw x hx)⟩
 obtain⟨kP,hE1,x0,zF,hI0⟩:=hT _ _ _ _ _ ⟨ev,V,D,hS⟩ h0;refine wp_loop_ghost (fun k a w=>∃x,I x/\μ x=k/\jg C n (S x) a w) (μ x0) ⟨x0,hI0,rfl,yv _ _ _ _ hE1 zF hI0⟩ ?_;rintro k a1 w1 ⟨x,hx,rfl,hE⟩;refine wp_mono (gi dE hd (round x hx) C a1 w1 hE) ?_;rintro e a2 w2 ⟨cE,hE2,hq⟩;cases e with
 |normal=>
  obtain⟨st3,hE3,x',hM,cW,an⟩:=hT _ _ _ _ _ hE2 hq;exact⟨μ x',an,x',cW,rfl,yv _ _ _ _ hE3 hM cW⟩
 |exit id=>exact⟨cE,hE2,hq⟩
 |goto l=>exact⟨cE,hE2,hq⟩
 |ret=>exact⟨cE,hE2,hq⟩
 |panic ch=>exact⟨cE,hE2,hq⟩
 |outgrown=>exact⟨cE,hE2,hq⟩
end
section
variable {P:Program} {cfg:Cfg} {C:Ctx} {n:Nat} {st:LS} {V:Vl} {D:Nat->Nat} {w:World}
theorem SatW.reCells {bx:List Bx} {vc:List Vc} {nid:Nat} {m:Mem} (hW:SatW C bx vc nid m V D w) {k:Nat} {b:Bx} {bh:List SV} (hb:dt bx k=some b) (hd:bh.map (aH V)=b.cs.map (aH V)) (ho:cL nid vc bh):SatW C (fS bx k bh) vc nid m V D w:=by
 have cN:=(nG hb).2;refine⟨⟨fun x hx=> ?_,hW.heap.vc,?_,hW.heap.uniq⟩,hW.wf,hW.frm,?_,hW.baseB,hW.baseV,⟨fun x hx=> ?_,hW.ids.2⟩,hW.le0,hW.m0,hW.mle⟩
 ·rcases xr hx with hx |⟨b0,h1,h2,rfl⟩
  ·exact hW.heap.bx x hx
  ·have e:b0=b:=by rw[h2] at hb;exact Option.some.inj hb
   subst e;obtain⟨⟨o,q1,q2⟩,q3⟩:=hW.heap.bx b0 h1;refine⟨⟨o,q1,?_⟩,q3⟩;show gL b0.ty (bh.map (aH V)) o;rw[hd];exact q2
 ·rw[AF (xt bx)];exact hW.heap.apart
 ·rw[AF (xt bx)];exact hW.own
 ·rcases xr hx with hx |⟨b0,h1,h2,rfl⟩
  ·exact hW.ids.1 x hx
  ·exact⟨(hW.ids.1 b0 h1).1,ho⟩
theorem JC {nid:Nat} {vc:List Vc} {x:SV} (hx:gQ nid vc x):∀{l:List SV} {i:Nat},cL nid vc l->cL nid vc (l.set i x)
 |[],_,h=>h
 |s::r,0,h=>⟨hx,h.2⟩
 |s::r,i+1,h=>⟨h.1,JC hx (i:=i) h.2⟩
theorem Gg {V:Vl} {k u:Nat} (hv:(V.γ k u).val= .slice none 0 0):∀{cs:List SV} {i:Nat},cs[i]? =some (.v (.slice none 0 0))->(cs.set i (.vec k u)).map (aH V)=cs.map (aH V)
 |c::r,0,h=>by
  have e:c= .v (.slice none 0 0):=by simpa using h
  subst e;show(V.γ k u).val::_=_::_;rw[hv];rfl
 |c::r,i+1,h=>by
  simp only[List.set_cons_succ,aG];rw[Gg hv (cs:=r) (i:=i) (by simpa using h)]
theorem xq {x:Code} {Q:Exit->LS->Prop} (k i:Nat) (b:Bx) (e:TypeId) (sz:Nat) (h0:0<sz) (hb:dt st.bx k=some b) (hc:b.cs[i]? =some (.v (.slice none 0 0)))
  (h:jH (.mk (k:=(P,n,x,Q)) ⟨st.env,st.rho,fS st.bx k (b.cs.set i (.vec st.nid 0)),⟨st.nid,0,e,sz,0,[]⟩::st.vc,st.nid+1,st.m⟩)):jH (.mk (k:=(P,n,x,Q)) st):=by
 rintro C a w ⟨ev,V,D,hS⟩;obtain⟨V',ha,hγ,hW⟩:=hS.w.addVc (w' :=w) (hd:=⟨none,0,0⟩) (e:=e) (sz:=sz) (n:=0) (xs:=[]) rfl rfl rfl (aA _) (fun _ _=>rfl) (World.ownsRow_nil w 0 e sz) (fun g hg=>by cases hg) h0 (fun u hu=>by cases hu);have hv:(V'.γ st.nid 0).val= .slice none 0 0:=by rw[hγ];rfl
 have cN:=(nG hb).2;have nl:=hW.reCells hb (Gg hv hc) (JC (x:= .vec st.nid 0) (show st.nid<st.nid+1/\aY (⟨st.nid,0,e,sz,0,[]⟩::st.vc) st.nid 0 from⟨Nat.lt_succ_self _,by simp [aY]⟩) (hW.ids.1 b cN).2);exact h C a w ⟨ev,V',D,hS.to ha (Nat.le_succ _) (fun k u hk hv=>pG rfl k u hk hv) nl⟩
theorem mA {a rest:Code} {Q:Exit->LS->Prop} {X:Type} (S:X->LS) (J:X->Prop) (hn:∀x,J x->st.nid<=(S x).nid) (hm:∀x,J x->ah st.m (S x).m) (ao:∀x,oZ (S x))
  (h:WP P n a (ix (fun af=>∃x,Match af (S x)/\J x) Q) st) (hr:∀x,J x->WP P n rest Q (S x)):WP P n (.seq a rest) Q st:=by
 rintro C a1 w ⟨ev,V,D,hS⟩;refine wp_seq (wp_mono (h C a1 w ⟨ev,V,D,hS⟩) ?_);rintro e a2 w2 ⟨cE,hE2,hq⟩;cases e with
 |normal=>
  obtain⟨x,hM,hx⟩:=hq;obtain⟨_,V2,D2,np⟩:=hE2;refine hr x hx C a2 w2 ⟨hM.2.1,V2,D2,np.weaken hM (ao x) (fun b hb=>dm (hS.w.baseB b hb).2 (hn x hx)) (fun b hb=>dm (hS.w.baseV b hb).2.1 (hn x hx)) ?_⟩;rcases hm x hx with e |h
  ·rw[<- e];exact hS.w.m0
  ·exact Mem.le_trans hS.w.m0 h
 |exit id=>exact⟨cE,hE2,hq⟩
 |goto l=>exact⟨cE,hE2,hq⟩
 |ret=>exact⟨cE,hE2,hq⟩
 |panic ch=>exact⟨cE,hE2,hq⟩
 |outgrown=>exact⟨cE,hE2,hq⟩
end
def qI (k:Nat):SV->Bool
 | .box j _=>decide (j=k)
 | .mp j=>decide (j=k)
 | .mv _ j _=>decide (j=k)
 | .sl j _ _=>decide (j=k)
 | .cl _ ks=>ks.contains k
 |_=>false
def BY (k:Nat):SV->Bool
 | .agg cs=>cs.any (qI k)
 |s=>qI k s
def L0 (k:Nat):SV->Bool
 | .tup l=>l.any (BY k)
 |s=>BY k s
def wO (k u n c:Nat):SV->SV
 | .vec j v=>if j=k/\v=u then .sl k n c else .vec j v
 | .vp j v o=>if j=k/\v=u then .box k o else .vp j v o
 |s=>s
def Cj (k u n c:Nat):SV->SV
 | .agg cs=> .agg (cs.map (wO k u n c))
 |s=>wO k u n c s
def FY (k u n c:Nat):SV->SV
 | .tup l=> .tup (l.map (Cj k u n c))
 |s=>Cj k u n c s
def FX (k u n c:Nat) (x:Bx):Bx:=⟨x.id,x.ty,x.cs.map (wO k u n c)⟩
section
variable {V:Vl} {k u n c g:Nat}
abbrev dN (V:Vl) (k g:Nat):Vl:={V with β:=fun j=>if j=k then g else V.β j}
theorem nK {j:Nat} (h:j≠k):(dN V k g).β j=V.β j:=aa h
theorem Up {ks:List Nat} (h:ks.contains k=false):(ks.map fun j=>Value.pointer (some ⟨(dN V k g).β j,0,none⟩))=ks.map fun j=> .pointer (some ⟨V.β j,0,none⟩):=
 List.map_congr_left fun j hj=>by
  have cv:¬j=k:=fun e=>by
   subst e;rw[List.contains_iff_mem.2 hj] at h;cases h
  show Value.pointer (some ⟨if j=k then g else V.β j,0,none⟩)=_;rw[aa cv]
theorem rn (hg:V.γ k u=⟨some ⟨g,0,none⟩,n,c⟩) {s:SV} (hs:qI k s=false):aH (dN V k g) (wO k u n c s)=aH V s:=by
 cases s with
 |v x=>rfl
 |box j o=>show Value.pointer (some ⟨(dN V k g).β j,o,none⟩)=_;rw[nK (by simpa [qI] using hs)];rfl
 |mp j=>show Value.map (some ((dN V k g).β j))=_;rw[nK (by simpa [qI] using hs)];rfl
 |mv f j o=>show Value.func _ ⟨[.pointer (some ⟨(dN V k g).β j,o,none⟩)]⟩ _=_;rw[nK (by simpa [qI] using hs)];rfl
 |sl j a b=>show Value.slice (some ⟨(dN V k g).β j,0,none⟩) _ _=_;rw[nK (by simpa [qI] using hs)];rfl
 |cl f ks=>show Value.func _ _ ⟨_⟩=Value.func _ _ ⟨_⟩;rw[Up hs]
 |vec j v=>
  show aH (dN V k g) (if j=k/\v=u then .sl k n c else .vec j v)=_;by_cases e:j=k/\v=u
  ·rw[ai e];obtain⟨rfl,rfl⟩:=e;show Value.slice (some ⟨(if j=j then g else V.β j),0,none⟩) n c=(V.γ j v).val;rw[hg,ai rfl];rfl
  ·rw[aa e];rfl
 |vp j v o=>
  show aH (dN V k g) (if j=k/\v=u then .box k o else .vp j v o)=_;by_cases e:j=k/\v=u
  ·rw[ai e];obtain⟨rfl,rfl⟩:=e;show Value.pointer (some ⟨(if j=j then g else V.β j),o,none⟩)=Value.pointer ((V.γ j v).a.map (·.add o));rw[hg,ai rfl];simp [Addr.add_lit]
  ·rw[aa e];rfl
 |vo j v o z=>rfl
 |agg cs=>rfl
 |tup l=>rfl
theorem D8 (hg:V.γ k u=⟨some ⟨g,0,none⟩,n,c⟩):∀{l:List SV},l.any (qI k)=false->(l.map (wO k u n c)).map (aH (dN V k g))=l.map (aH V)
 |[],_=>rfl
 |s::r,h=>by
  simp only[List.any_cons,Bool.or_eq_false_iff] at h;simp only[aG];rw[rn hg h.1,D8 hg h.2]
theorem pP (hg:V.γ k u=⟨some ⟨g,0,none⟩,n,c⟩) {s:SV} (hs:BY k s=false):fH (dN V k g) (Cj k u n c s)=fH V s:=by
 cases s with
 |agg cs=>show Value.agg ⟨_⟩=Value.agg ⟨_⟩;rw[D8 hg hs]
 |v x=>rfl
 |vo j v o z=>rfl
 |vec j v=>
  have:=rn (s:= .vec j v) hg rfl;revert this;show aH _ (if j=k/\v=u then .sl k n c else .vec j v)=_->fH _ (if j=k/\v=u then .sl k n c else .vec j v)=_;by_cases e:j=k/\v=u
  ·rw[ai e];exact id
  ·rw[aa e];exact id
 |vp j v o=>
  have:=rn (s:= .vp j v o) hg rfl;revert this;show aH _ (if j=k/\v=u then .box k o else .vp j v o)=_->fH _ (if j=k/\v=u then .box k o else .vp j v o)=_;by_cases e:j=k/\v=u
  ·rw[ai e];exact id
  ·rw[aa e];exact id
 |box j o=>exact rn (s:= .box j o) hg hs
 |mp j=>exact rn (s:= .mp j) hg hs
 |mv f j o=>exact rn (s:= .mv f j o) hg hs
 |sl j a b=>exact rn (s:= .sl j a b) hg hs
 |cl f ks=>exact rn (s:= .cl f ks) hg hs
 |tup l=>rfl
theorem J8 (hg:V.γ k u=⟨some ⟨g,0,none⟩,n,c⟩):∀{l:List SV},l.any (BY k)=false->(l.map (Cj k u n c)).map (fH (dN V k g))=l.map (fH V)
 |[],_=>rfl
 |s::r,h=>by
  simp only[List.any_cons,Bool.or_eq_false_iff] at h;simp only[aG];rw[pP hg h.1,J8 hg h.2]
theorem T3 (hg:V.γ k u=⟨some ⟨g,0,none⟩,n,c⟩) {s:SV} (hs:L0 k s=false):den (dN V k g) (FY k u n c s)=den V s:=by
 cases s with
 |tup l=>show Value.tuple ⟨_⟩=Value.tuple ⟨_⟩;rw[J8 hg hs]
 |v x=>rfl
 |vo j v o z=>rfl
 |vec j v=>
  have:=pP (s:= .vec j v) hg rfl;revert this;show fH _ (if j=k/\v=u then .sl k n c else .vec j v)=_->den _ (if j=k/\v=u then .sl k n c else .vec j v)=_;by_cases e:j=k/\v=u
  ·rw[ai e];exact id
  ·rw[aa e];exact id
 |vp j v o=>
  have:=pP (s:= .vp j v o) hg rfl;revert this;show fH _ (if j=k/\v=u then .box k o else .vp j v o)=_->den _ (if j=k/\v=u then .box k o else .vp j v o)=_;by_cases e:j=k/\v=u
  ·rw[ai e];exact id
  ·rw[aa e];exact id
 |box j o=>exact pP (s:= .box j o) hg hs
 |mp j=>exact pP (s:= .mp j) hg hs
 |mv f j o=>exact pP (s:= .mv f j o) hg hs
 |sl j a b=>exact pP (s:= .sl j a b) hg hs
 |cl f ks=>exact pP (s:= .cl f ks) hg hs
 |agg cs=>exact pP (s:= .agg cs) hg hs
end
section
variable {P:Program}
theorem QQ {m:Mem} {x:Mem} (h:m.le x):m.le m:=fun b=>⟨aA _,fun h0=>⟨((h b).2 h0).1,by
 unfold mw;split
 ·rename_i c t f e;exact⟨c,t,f,e,fun _ _=>rfl⟩
 ·rfl⟩⟩
theorem AM {w:World} {D:Nat->Nat} (h:Wf w D):Mem.le ⟨w,D⟩ ⟨w,D⟩:=fun b=>⟨aA _,fun h0=>⟨by
 dsimp only at h0;rcases Nat.lt_or_ge b w.heap.size with q |q
 ·exact q
 ·rw[h b q] at h0;omega,by
 unfold mw;split
 ·rename_i c t f e;exact⟨c,t,f,e,fun _ _=>rfl⟩
 ·rfl⟩⟩
theorem PU {f:FuncId} {args:List SV} {H:Hp} {m:Mem} {R R' :SV->Hp->Mem->Prop} (h:FnH P f args H m R) (hv:H.vc=[])
  (hR:∀r H' m',m.le m' ->R r H' m' ->∃b:Vc,H'.vc=[b]/\0<b.n/\b.el<gn/\L0 b.id r=false/\(∀x∈H'.bx,x.id≠b.id/\x.cs.any (qI b.id)=false)/\(∀x∈H.bx,x.id≠b.id/\∃y∈H'.bx,y.id=x.id)/\
   ∀(c:Nat) (rest:List Value),b.n<=c->c<=maxLen->rest.length=(c - b.n) * b.sz->R' (FY b.id b.ver b.n c r) ⟨⟨b.id,b.el,b.xs.map .v++rest.map .v⟩::H'.bx.map (FX b.id b.ver b.n c),[]⟩ m):FnH P f args H m R' :=by
 intro V w D dX hle hH;refine(h V w D dX hle hH).mono ?_;rintro e w' ⟨r,V',D',H',m',e1,e2,e3,e4,e5,e6,e7,e8,e9,bZ,cj⟩;obtain⟨b,hb,hn,hel,pB,j6,hiH,hK⟩:=hR r H' m' e9 cj;have cN:b∈H'.vc:=by rw[hb];exact List.mem_singleton.2 rfl
 obtain⟨bQ,hDb,eQ,_⟩:=e3.vc b cN;rcases bQ.2 with ⟨_,h0⟩ |⟨g,cap,cur,hv2,_,hg,pz,kA,dy,htk⟩
 ·omega
 have hγ:V'.γ b.id b.ver=⟨some ⟨g,0,none⟩,b.n,cap⟩:=by
  generalize V'.γ b.id b.ver=q at hv2
  obtain⟨qa,qn,qc⟩:=q;simp only[Hd.val,Value.slice.injEq] at hv2;obtain⟨rfl,rfl,rfl⟩:=hv2;rfl
 have yR:(V'.γ b.id b.ver).blk=some g:=by rw[hγ];rfl
 have ff:=e3.apart;have er:aE V' H' =H'.bx.map (fun x=>V'.β x.id)++[g]:=by
  unfold aE;rw[hb];simp [yR]
 rw[er] at ff;have FD:∀x∈H'.bx,V'.β x.id≠g:=fun x hx e=>(List.nodup_append.1 ff).2.2 (V'.β x.id) (List.mem_map.2 ⟨x,hx,rfl⟩) g (List.mem_singleton.2 rfl) e
 have lJ:w.heap.size<=g:=by
  rcases e7 g (by rw[er];exact List.mem_append.2 (.inr (List.mem_singleton.2 rfl))) with bg |bg
  ·exfalso;unfold aE at bg;rw[hv] at bg;simp only[List.filterMap_nil,List.append_nil] at bg;obtain⟨x,hx,rfl⟩:=List.mem_map.1 bg;obtain⟨y,hy,hyx⟩:=(hiH x hx).2;exact FD y hy (by rw[hyx,e4 x hx])
  ·exact bg
 have FO:D g=0:=dX g lJ;refine⟨FY b.id b.ver b.n cap r,dN V' b.id g,fun x=>if x=g then 0 else D' x,⟨⟨b.id,b.el,b.xs.map .v++(cur.toList.drop (b.n * b.sz)).map .v⟩::H'.bx.map (FX b.id b.ver b.n cap),[]⟩,m,?_,fun x hx=> ?_,⟨fun x hx=> ?_,fun x hx=>(by cases hx),?_,by simp⟩,fun x hx=> ?_,fun x hx=>(by rw[hv] at hx;cases hx),⟨e6.os,e6.tape,e6.output,e6.size,fun x hx hF=> ?_⟩,fun x hx=> ?_,fun x=> ?_,QQ hle,?_,hK cap _ pz kA (by rw[gh,Array.length_toList,dy,Nat.sub_mul])⟩
 ·rw[e1,T3 hγ pB]
 ·show(if x=g then 0 else D' x)=0;split
  ·rfl
  ·exact e2 x hx
 ·rcases List.mem_cons.1 hx with rfl |hx
  ·refine⟨⟨.cells cur b.el (0,0),?_,?_⟩,?_⟩
   ·show w'.heap[(if b.id=b.id then g else V'.β b.id)]? =_;rw[ai rfl];exact hg
   ·have hc:cur=⟨(b.xs.map SV.v++(cur.toList.drop (b.n * b.sz)).map SV.v).map (aH (dN V' b.id g))⟩:=by
     rw[List.map_append,lx,lx,<- htk,List.take_append_drop]
    have:=wS (t:=b.el) (vs:=(b.xs.map SV.v++(cur.toList.drop (b.n * b.sz)).map SV.v).map (aH (dN V' b.id g))) hel;rwa [<- hc] at this
   ·show(if(if b.id=b.id then g else V'.β b.id)=g then 0 else _)=0;rw[ai rfl,ai rfl]
  ·obtain⟨y,hy,rfl⟩:=List.mem_map.1 hx;obtain⟨⟨o,h1,h2⟩,h3⟩:=e3.bx y hy;have cv:=(j6 y hy).1;refine⟨⟨o,?_,?_⟩,?_⟩
   ·show w'.heap[(dN V' b.id g).β y.id]? =_;rw[nK cv];exact h1
   ·show gL y.ty ((y.cs.map (wO b.id b.ver b.n cap)).map (aH (dN V' b.id g))) o;rw[D8 hγ (j6 y hy).2];exact h2
   ·show(if(dN V' b.id g).β y.id=g then 0 else D' ((dN V' b.id g).β y.id))=0;rw[nK cv,aa (FD y hy)];exact h3
 ·unfold aE;simp only[aG,List.filterMap_nil,List.append_nil,if_true];have hm:(H'.bx.map (FX b.id b.ver b.n cap)).map (fun x=>(dN V' b.id g).β x.id)=H'.bx.map fun x=>V'.β x.id:=by
   rw[List.map_map];exact List.map_congr_left fun y hy=>nK (j6 y hy).1
  rw[hm];exact List.nodup_cons.2 ⟨fun bg=>by obtain⟨y,hy,e⟩:=List.mem_map.1 bg;exact FD y hy e,(List.nodup_append.1 ff).1⟩
 ·rw[nK (hiH x hx).1];exact e4 x hx
 ·obtain⟨h1,h2⟩:=e6.same x hx hF;exact⟨h1,by show(if x=g then 0 else D' x)=D x;rw[aa (by omega)];exact h2⟩
 ·unfold aE at hx;simp only[aG,List.filterMap_nil,List.append_nil,if_true] at hx;rcases List.mem_cons.1 hx with rfl |hx
  ·exact .inr lJ
  ·obtain⟨z,hz,rfl⟩:=List.mem_map.1 hx;obtain⟨y,hy,rfl⟩:=List.mem_map.1 hz;show(dN V' b.id g).β y.id∈_\/_<=(dN V' b.id g).β y.id;rw[show(dN V' b.id g).β y.id=V'.β y.id from nK (j6 y hy).1];exact e7 _ (by rw[er];exact List.mem_append.2 (.inl (List.mem_map.2 ⟨y,hy,rfl⟩)))
 ·obtain⟨h1,h2⟩:=e8 x;dsimp only at h1 h2 ⊢;by_cases hx:x=g
  ·subst hx;rw[ai rfl,FO];exact⟨aA _,fun h=>absurd h (by omega)⟩
  ·rw[aa hx];exact⟨h1,h2⟩
 ·refine Mem.le_trans hle fun x=> ?_
  obtain⟨h1,h2⟩:=e8 x;dsimp only at h1 h2 ⊢;by_cases hx:x=g
  ·subst hx;rw[ai rfl,FO];exact⟨aA _,fun h=>absurd h (by omega)⟩
  ·rw[aa hx];exact⟨h1,h2⟩
theorem UC {f:FuncId} {args:List SV} {H:Hp} {m:Mem} {R R' :SV->Hp->Mem->Prop} (h:FnH P f args H m R)
  (hR:∀r H' m',m.le m' ->R r H' m' ->∃H2:Hp,H2.bx.Sublist H'.bx/\H2.vc.Sublist H'.vc/\R' r H2 m'):FnH P f args H m R' :=by
 intro V w D dX hle hH;refine(h V w D dX hle hH).mono ?_;rintro e w' ⟨r,V',D',H',m',e1,e2,e3,e4,e5,e6,e7,e8,e9,bZ,cj⟩;obtain⟨H2,s1,s2,hr⟩:=hR r H' m' e9 cj;exact⟨r,V',D',H2,m',e1,e2,Di e3 s1 s2,e4,e5,e6,fun x hx=>e7 x ((Au s1 s2).subset hx),e8,e9,bZ,hr⟩
/-! Results shown: an own slice in a box's cell; a whole box. -/
def lD (V:Vl) (b:Bx):Nat×TypeId×List Value:=(b.id,b.ty,b.cs.map (aH V))
theorem DL {V:Vl}:∀{bx eU:List Bx},bx.map (lD V)=eU.map (lD V)->bx.map (fun b=>V.β b.id)=eU.map (fun b=>V.β b.id)
 |[],[],_=>rfl
 |[],_::_,h=>by cases h
 |_::_,[],h=>by cases h
 |x::r,y::q,h=>by
  simp only[aG,List.cons.injEq,lD,Prod.mk.injEq] at h ⊢;exact⟨by rw[h.1.1],DL h.2⟩
theorem R3 {V:Vl} {D:Nat->Nat} {w:World} {bx eU:List Bx} {vc:List Vc} (h:HSat V D w ⟨bx,vc⟩) (e:bx.map (lD V)=eU.map (lD V)):HSat V D w ⟨eU,vc⟩:=by
 refine⟨fun b hb=> ?_,h.vc,?_,h.uniq⟩
 ·have bg:lD V b∈bx.map (lD V):=by rw[e];exact List.mem_map.2 ⟨b,hb,rfl⟩
  obtain⟨b0,h0,q⟩:=List.mem_map.1 bg;simp only[lD,Prod.mk.injEq] at q;obtain⟨⟨o,h1,h2⟩,h3⟩:=h.bx b0 h0;rw[q.1] at h1 h3;rw[q.2.1,q.2.2] at h2;exact⟨⟨o,h1,h2⟩,h3⟩
 ·have:=h.apart;unfold aE at this ⊢;rwa [DL e] at this
theorem R5 {f:FuncId} {args:List SV} {H:Hp} {m:Mem} {R R' :SV->Hp->Mem->Prop} (h:FnH P f args H m R)
  (hR:∀r H' m',m.le m' ->R r H' m' ->∃(g:SV->SV) (G:SV->List Bx) (k u:Nat) (b:Vc) (yW:List Vc),cq H'.vc k u=some b/\r=g (.vec k u)/\H'.bx=G (.vec k u)/\
   (∀(V:Vl) (v:Value),(V.γ k u).val=v->den V (g (.vec k u))=den V (g (.v v))/\(G (.vec k u)).map (lD V)=(G (.v v)).map (lD V))/\yW.Sublist H'.vc/\
   ∀(a:Option Addr) (c:Nat) (m1:Mem),m'.le m1->b.n<=c->ax m1 a b.n b.sz b.xs->R' (g (.v (.slice a b.n c))) ⟨G (.v (.slice a b.n c)),yW⟩ m1):FnH P f args H m R' :=by
 intro V w D dX hle hH;refine(h V w D dX hle hH).mono ?_;rintro e w' ⟨r,V',D',H',m',e1,e2,e3,e4,e5,e6,e7,e8,e9,bZ,cj⟩;obtain⟨g,G,k,u,b,yW,hb,rfl,hG,hg,s2,hK⟩:=hR r H' m' e9 cj;have hW:SatW ⟨w,D,(· ∈aE V H),⟨[],[]⟩,V',m⟩ (H'.bx.map (lv V')) H'.vc (max (jw (H'.bx.map (lv V'))) (jv H'.vc)) m' V' D' w' :=by
  refine⟨HW e3,e2,e6,fun x hx=> ?_,fun x hx=>(by cases hx),fun x hx=>(by cases hx),⟨fun x hx=>⟨?_,?_⟩,fun x hx=> ?_⟩,e8,e9,bZ⟩
  ·rw[Av] at hx;exact e7 x hx
  ·exact dm (xC hx) (Nat.le_max_left _ _)
  ·obtain⟨b0,_,rfl⟩:=List.mem_map.1 hx;exact Dy _
  ·exact dm (xB hx) (Nat.le_max_right _ _)
 obtain⟨a,c,m1,D2,q1,q2,q3,q4,q5⟩:=SatW.pub (st:=⟨[],[],H'.bx.map (lv V'),H'.vc,max (jw (H'.bx.map (lv V'))) (jv H'.vc),m'⟩) hW hb;obtain⟨uD,nk⟩:=hg V' _ q4;have sL:=Gx q5.heap;have jj:HSat V' D2 w' ⟨G (.v (.slice a b.n c)),H'.vc⟩:=R3 (bx:=H'.bx) sL (by rw[hG];exact nk);have hS:=Di (H2:=⟨G (.v (.slice a b.n c)),yW⟩) jj (List.Sublist.refl _) s2;refine⟨g (.v (.slice a b.n c)),V',D2,_,m1,?_,q5.wf,hS,e4,e5,q5.frm,fun x hx=>e7 x ?_,q5.le0,q5.m0,q5.mle,hK a c m1 q1 q2 q3⟩
 ·rw[e1,uD]
 ·have cW:=(Au (V:=V') (H:=⟨G (.v (.slice a b.n c)),H'.vc⟩) (H2:=⟨G (.v (.slice a b.n c)),yW⟩) (List.Sublist.refl _) s2).subset hx;unfold aE at cW ⊢;dsimp only at cW;rw[hG,DL nk];exact cW
theorem R4 {f:FuncId} {args:List SV} {H:Hp} {m:Mem} {R R' :SV->Hp->Mem->Prop} (h:FnH P f args H m R)
  (hR:∀r H' m',m.le m' ->R r H' m' ->∃(g:SV->SV) (k n c sz:Nat) (t:TypeId) (xs:List Value) (Cn:List Bx),r=g (.sl k n c)/\H'.bx=⟨k,t,xs.map .v⟩::Cn/\t<gn/\n * sz<=xs.length/\
   (∀(V:Vl),den V (g (.sl k n c))=den V (g (.v (.slice (some ⟨V.β k,0,none⟩) n c))))/\
   ∀(a:Option Addr) (m1:Mem),m'.le m1->ax m1 a n sz (xs.take (n * sz))->R' (g (.v (.slice a n c))) ⟨Cn,H'.vc⟩ m1):FnH P f args H m R' :=by
 intro V w D dX hle hH;refine(h V w D dX hle hH).mono ?_;rintro e w' ⟨r,V',D',H',m',e1,e2,e3,e4,e5,e6,e7,e8,e9,bZ,cj⟩;obtain⟨g,k,n,c,sz,t,xs,Cn,rfl,oA,ht,hlen,hg,hK⟩:=hR r H' m' e9 cj;have cN:(⟨k,t,xs.map .v⟩:Bx)∈H'.bx:=by rw[oA];exact bL ..
 obtain⟨⟨o,h1,h2⟩,h3⟩:=e3.bx _ cN;have wN:=xz ht h2;subst wN;dsimp only at h1 h3;rw[lx] at h1;have ff:=e3.apart;unfold aE at ff;rw[oA] at ff;simp only[aG,fh] at ff;have qw:=(List.nodup_cons.1 ff).1;have bg:V'.β k∈aE V' H' :=by
  unfold aE;rw[oA];simp only[aG,fh];exact bL ..
 have eQ:V'.β k<w'.heap.size:=by
  by_cases q:V'.β k<w'.heap.size
  ·exact q
  ·rw[Array.getElem?_eq_none (by omega)] at h1;cases h1
 obtain⟨D2,hDk,hD2⟩:∃D2:Nat->Nat,D2 (V'.β k)=n * sz/\∀x,x≠V'.β k->D2 x=D' x:=⟨fun x=>if x=V'.β k then n * sz else D' x,ai rfl,fun x hx=>aa hx⟩;have kX:Wf w' D2:=fun x hx=>by
  rw[hD2 x (by omega)];exact e2 x hx
 have bD:Mem.le ⟨w',D'⟩ ⟨w',D2⟩:=fun x=>by
  refine⟨?_,fun h0=>((AM e2) x).2 h0⟩;dsimp only;by_cases q:x=V'.β k
  ·rw[q,h3];exact aF _
  ·rw[hD2 x q];exact aA _
 refine⟨g (.v (.slice (some ⟨V'.β k,0,none⟩) n c)),V',D2,⟨Cn,H'.vc⟩,⟨w',D2⟩,by rw[e1,hg],kX,⟨fun x hx=> ?_,fun x hx=> ?_,(List.nodup_cons.1 ff).2,e3.uniq⟩,fun x hx=>e4 x hx,e5,⟨e6.os,e6.tape,e6.output,e6.size,fun x hx hF=> ?_⟩,fun x hx=>e7 x ?_,Mem.le_trans e8 bD,Mem.le_trans e9 (Mem.le_trans bZ bD),AM kX,hK _ _ (Mem.le_trans bZ bD) ⟨by rw[List.length_take];exact Nat.min_eq_left hlen,fun _=>⟨_,rfl,rfl,fun j hj=> ?_⟩⟩⟩
 ·obtain⟨q1,q2⟩:=e3.bx x (by rw[oA];exact bt _ hx);refine⟨q1,?_⟩;rw[hD2 _ fun e=>qw (by rw[<- e];exact List.mem_append.2 (.inl (List.mem_map.2 ⟨x,hx,rfl⟩)))];exact q2
 ·obtain⟨q1,q2,q3,q4⟩:=e3.vc x hx;refine⟨q1,fun y hy=> ?_,q3,q4⟩;rw[hD2 _ fun e=>qw (by rw[<- e];exact List.mem_append.2 (.inr (List.mem_filterMap.2 ⟨x,hx,hy⟩)))];exact q2 y hy
 ·obtain⟨q1,q2⟩:=e6.same x hx hF;refine⟨q1,?_⟩;rw[hD2 _ fun e=> ?_]
  ·exact q2
  ·rcases e7 _ bg with q |q
   ·exact hF (e▸q)
   ·omega
 ·unfold aE at hx ⊢;rw[oA];simp only[aG,fh];exact bt _ hx
 ·rw[Addr.add_lit];refine⟨?_,?_⟩
  ·show w'.cell? ⟨V'.β k,0+j,none⟩=_;rw[Nat.zero_add,List.getElem?_take,ai hj];simp [World.cell?,h1]
  ·show 0+j<D2 (V'.β k);rw[hDk];omega
theorem I9 {V:Vl} {bx eU:List Bx} {vc:List Vc} (hp:bx.Perm eU) {x:Nat}:x∈aE V ⟨bx,vc⟩↔x∈aE V ⟨eU,vc⟩:=(HT hp).mem_iff
theorem s6 {f:FuncId} {args:List SV} {bx eU:List Bx} {vc:List Vc} {m:Mem} {R:SV->Hp->Mem->Prop} (h:FnH P f args ⟨bx,vc⟩ m R) (hp:bx.Perm eU):FnH P f args ⟨eU,vc⟩ m R:=by
 intro V w D dX hle hH;refine(h V w D dX hle (hH.permBx hp.symm)).mono ?_;rintro e w' ⟨r,V',D',H',m',e1,e2,e3,e4,e5,e6,e7,e8,e9,bZ,cj⟩;exact⟨r,V',D',H',m',e1,e2,e3,fun b hb=>e4 b (hp.mem_iff.2 hb),e5,⟨e6.os,e6.tape,e6.output,e6.size,fun x hx hF=>e6.same x hx fun bg=>hF ((I9 hp).1 bg)⟩,fun x hx=>(e7 x hx).imp (I9 hp).1 id,e8,e9,bZ,cj⟩
theorem Uy {n:Nat} {st:LS} {a rest:Code} {Q:Exit->LS->Prop} {X:Type} (T:(LS->Prop)->LS->Prop) (hT:∀(K:LS->Prop) (C:Ctx) (st:LS) (a:Act) (w:World),jg C n st a w->T K st->∃af,jg C n af a w/\K af)
  (S:X->LS) (J:X->Prop) (hn:∀x,J x->st.nid<=(S x).nid) (hm:∀x,J x->ah st.m (S x).m) (ao:∀x,oZ (S x))
  (h:WP P n a (ix (T fun af=>∃x,Match af (S x)/\J x) Q) st) (hr:∀x,J x->WP P n rest Q (S x)):WP P n (.seq a rest) Q st:=by
 rintro C a1 w ⟨ev,V,D,hS⟩;refine wp_seq (wp_mono (h C a1 w ⟨ev,V,D,hS⟩) ?_);rintro e a2 w2 ⟨cE,hE2,hq⟩;cases e with
 |normal=>
  obtain⟨st3,⟨_,V2,D2,np⟩,x,hM,hx⟩:=hT _ C cE a2 w2 hE2 hq;refine hr x hx C a2 w2 ⟨hM.2.1,V2,D2,np.weaken hM (ao x) (fun b hb=>dm (hS.w.baseB b hb).2 (hn x hx)) (fun b hb=>dm (hS.w.baseV b hb).2.1 (hn x hx)) ?_⟩;rcases hm x hx with e |h
  ·rw[<- e];exact hS.w.m0
  ·exact Mem.le_trans hS.w.m0 h
 |exit id=>exact⟨cE,hE2,hq⟩
 |goto l=>exact⟨cE,hE2,hq⟩
 |ret=>exact⟨cE,hE2,hq⟩
 |panic ch=>exact⟨cE,hE2,hq⟩
 |outgrown=>exact⟨cE,hE2,hq⟩
theorem vn {n:Nat} {st:LS} {a rest:Code} {Q:Exit->LS->Prop} {X:Type} (k:Nat) (S:X->LS) (J:X->Prop) (hn:∀x,J x->st.nid<=(S x).nid) (hm:∀x,J x->ah st.m (S x).m) (ao:∀x,oZ (S x))
  (h:WP P n a (ix (vA k fun af=>∃x,Match af (S x)/\J x) Q) st) (hr:∀x,J x->WP P n rest Q (S x)):WP P n (.seq a rest) Q st:=
 Uy (vA k) (fun _ _ _ _ _ hE h=>Gj hE h) S J hn hm ao h hr
theorem mq {K:List SV->LS->Prop} {st:LS} {r:List SV}:∀{l:List Value},fE (.mk (k:=K) (st,l.map .v++r))=fE (.mk (k:=fun r' af=>K (l.map .v++r') af) (st,r))
 |[]=>rfl
 |x::l=>by
  rw[aG,fh,Kq,mq]
theorem oH {K:List SV->LS->Prop} {st:LS} {l:List Value}:fE (.mk (k:=K) (st,l.map .v))=K (l.map .v) st:=by
 have:=mq (K:=K) (st:=st) (r:=[]) (l:=l);rw[List.append_nil] at this;rw[this,Im,List.append_nil]
end
theorem Zf:aK Tryz.prog 107=7:=by kernel_rfl
theorem Zi:aK Tryz.prog 158=1:=by kernel_rfl
theorem Z7:iH Tryz.prog 107=128:=by kernel_rfl
theorem YI:cC Tryz.prog 107=some (some 7):=by kernel_rfl
theorem YL:cC Tryz.prog 158=some (some 1):=by kernel_rfl
theorem ZR:eb Tryz.prog 102=some 107:=by kernel_rfl
theorem WX:cC Tryz.prog 102=some none:=by kernel_rfl
theorem Xh:aK Tryz.prog 102=1:=by kernel_rfl
theorem UQ:cU Tryz.prog 107=some [.v (.int .i64 0),.v (.string (bs [])),.v (.string (bs [])),.v (.slice none 0 0),.v (.slice none 0 0),.v (.slice none 0 0),.v (.string (bs []))]:=by kernel_rfl
theorem Yp:fP Tryz.prog 107=true:=by kernel_rfl
theorem XQ:a8 Tryz.prog 158 0=some (0,none,1):=by kernel_rfl
theorem Wn:a8 Tryz.prog 107 0=some (0,none,1):=by kernel_rfl
theorem Wm:a8 Tryz.prog 107 1=some (1,none,1):=by kernel_rfl
theorem Wl:a8 Tryz.prog 107 2=some (2,none,1):=by kernel_rfl
theorem Wk:a8 Tryz.prog 107 3=some (3,none,1):=by kernel_rfl
theorem Wj:a8 Tryz.prog 107 4=some (4,none,1):=by kernel_rfl
theorem Wi:a8 Tryz.prog 107 5=some (5,none,1):=by kernel_rfl
attribute [go_sem] Zf Zi Z7 YI YL ZR WX Xh UQ Yp XQ Wn Wm Wl Wk Wj Wi
/-! Lists of plain cells among others. -/
theorem JT (acc:List Nat) (r:List SV):∀l:List Value,eD acc (l.map .v++r)=eD acc r
 |[]=>rfl
 |_::q=>JT acc r q
theorem bk (acc:List Nat):∀l:List Value,eD acc (l.map .v)=acc
 |[]=>rfl
 |_::q=>bk acc q
theorem JB {n:Nat} {vc:List Vc} (r:List SV):∀l:List Value,cL n vc (l.map .v++r)=cL n vc r
 |[]=>rfl
 |_::q=>by
  simp only[aG,fh];show(True/\cL n vc (q.map .v++r))=_;rw[JB r q,true_and]
theorem bu {n:Nat} {vc:List Vc} (l:List Value):cL n vc (l.map .v)=True:=eq_true (AY l)
theorem JS {L:List Nat} (r:List SV):∀l:List Value,ng L (l.map .v++r)=ng L r
 |[]=>rfl
 |_::q=>by
  simp only[aG,fh];show(True/\ng L (q.map .v++r))=_;rw[JS r q,true_and]
theorem bm {L:List Nat}:∀l:List Value,ng L (l.map .v)=True
 |[]=>rfl
 |_::q=>by
  simp only[aG];show(True/\ng L (q.map .v))=_;rw[bm q,true_and]
theorem Kh {nB nV:List Nat} {len:Nat} (r:List SV):∀l:List Value,nw nB nV len (l.map .v++r)=nw nB nV len r
 |[]=>rfl
 |_::q=>by
  simp only[aG,fh];show(True/\nw nB nV len (q.map .v++r))=_;rw[Kh r q,true_and]
theorem bo {nB nV:List Nat} {len:Nat}:∀l:List Value,nw nB nV len (l.map .v)=True
 |[]=>rfl
 |_::q=>by
  simp only[aG];show(True/\nw nB nV len (q.map .v))=_;rw[bo q,true_and]
theorem bp (ρ:Nat->Nat) (l:List Value):(l.map SV.v).map (ie ρ)=l.map .v:=by
 rw[List.map_map];rfl
attribute [go_sem] JT bk JB bu JS bm Kh bo bp List.map_append List.append_assoc
theorem jq {n b:Nat} (h:n<=100000000) (hb:b<=1000):room n b:=⟨dk (Nat.mul_le_mul h hb) (by decide),dk h (by decide)⟩
@[reducible] def dA (h:SV):Bx:=⟨0,158,[h]⟩
attribute [go_sem] dA
def mM (fl:Int) (s sup:Nm):List Value:=[.int .i64 fl,.string (bs s),.string (bs sup),.slice none 0 0,.slice none 0 0,.slice none 0 0,.string (bs [])]
theorem uX (s sup:Nm) (fl:Int) (gS:0<=fl/\fl<=4096) (hs:s.length<=1000) (n c:Nat) (vs rest:List Value) (hn:vs.length=n * 7) (hr:rest.length=(c - n) * 7) (hc:n<=c/\c<=maxLen) (fv:n<=1000) (m:Mem):
  FnH Tryz.prog 150 [.box 0 0,.v (.string (bs s)),.v (.string (bs sup)),.v (.int .i64 fl)] ⟨[dA (.sl 1 n c),⟨1,107,vs.map .v++rest.map .v⟩],[]⟩ m
   fun r H' m' =>ah m m' /\∃(c' :Nat) (bA:List Value),n+1<=c' /\c' <=maxLen/\bA.length=(c' - (n+1)) * 7/\r= .box 3 (n * 7)/\H' =⟨[⟨3,107,(vs++mM (1+fl) ([108,97,110,103,47]++s) sup).map .v++bA.map .v⟩,dA (.sl 3 (n+1) c')],[]⟩:=by
 refine br aq Tryz.func150 ?_
 ·have ht:(vs.map SV.v++rest.map SV.v).take (n * 7)=vs.map SV.v:=by
   rw[List.take_append_of_le_length (by rw[List.length_map,hn];exact aA _),jI (by rw[List.length_map,hn];exact aA _)]
  simp only[go_sem,ht];refine⟨by unfold aB;omega,by omega,⟨by rw[aZ,List.length_map,List.length_map];omega,hc⟩,jq (by omega) (by decide),fun c' bA qQ uI uH=> ?_⟩;refine bX (.hoist 0 (.hoist 1 (.hoist 2 (.hoist 3 (.hoist 4 (.hoist 5 (.hoist 6 (.hoist 7 (.hoist 8 (.hoist 9 (.hoist 10 (.hoist 11 .done)))))))))))) aq (by kernel_rfl) (by kernel_rfl) ?_;simp only[go_sem];exact⟨by unfold aB;omega,by omega,c',bA,qQ,uI,uH,by rw[show((n+1:Nat):Int) - 1=n by omega];rfl,rfl⟩
theorem No (s sup:Nm) (fl:Int) (gS:0<=fl/\fl<=4096) (hs:s.length<=1000) (m:Mem):
  FnH Tryz.prog 150 [.box 0 0,.v (.string (bs s)),.v (.string (bs sup)),.v (.int .i64 fl)] ⟨[dA (.v (.slice none 0 0))],[]⟩ m
   fun r H' m' =>ah m m' /\∃(c' :Nat) (bA:List Value),1<=c' /\c' <=maxLen/\bA.length=(c' - 1) * 7/\r= .box 2 0/\H' =⟨[⟨2,107,(mM (1+fl) ([108,97,110,103,47]++s) sup).map .v++bA.map .v⟩,dA (.sl 2 1 c')],[]⟩:=by
 refine PU (R:=fun r H' m' =>r= .vp 2 0 0/\H' =⟨[dA (.vec 2 0)],[⟨2,0,107,7,1,mM (1+fl) ([108,97,110,103,47]++s) sup⟩]⟩) (enter bj aq Tryz.func150 rfl rfl (by kernel_rfl) rfl ?_ ?_) rfl ?_
 ·simp only[go_sem]
 ·simp only[go_sem];refine⟨by unfold aB;omega,by omega,jq (by omega) (by decide),?_⟩;refine bX (.hoist 0 (.hoist 1 (.hoist 2 (.hoist 3 (.hoist 4 (.hoist 5 (.hoist 6 (.hoist 7 (.hoist 8 (.hoist 9 (.hoist 10 (.hoist 11 .done)))))))))))) aq (by kernel_rfl) (by kernel_rfl) ?_;simp only[go_sem];exact⟨by unfold aB;omega,by decide,rfl,rfl⟩
 ·rintro r H' m' hm ⟨rfl,rfl⟩;refine⟨_,rfl,Nat.zero_lt_one,(by decide:(107:Nat)<gn),rfl,fun x hx=> ?_,fun x hx=> ?_,fun c rest h1 h2 h3=>⟨.inl rfl,c,rest,h1,h2,h3,rfl,?_⟩⟩
  ·rw[List.mem_singleton.1 hx];exact⟨(by decide:(0:Nat)≠2),rfl⟩
  ·rw[List.mem_singleton.1 hx];exact⟨(by decide:(0:Nat)≠2),_,List.mem_singleton.2 rfl,rfl⟩
  ·rfl
theorem Y8:aK Tryz.prog 176=11:=by kernel_rfl
theorem Z2:iH Tryz.prog 176=184:=by kernel_rfl
theorem YA:cC Tryz.prog 176=some (some 11):=by kernel_rfl
theorem ZN:eb Tryz.prog 105=some 176:=by kernel_rfl
theorem WM:cC Tryz.prog 105=some none:=by kernel_rfl
theorem Xa:aK Tryz.prog 105=1:=by kernel_rfl
theorem Yi:fP Tryz.prog 176=true:=by kernel_rfl
theorem UK:cU Tryz.prog 176=some [.v (.int .i64 0),.v (.string (bs [])),.v (.string (bs [])),.v (.bool false),.v (.int .i64 0),.v (.int .i64 0),.v (.slice none 0 0),.v (.slice none 0 0),.v (.slice none 0 0),.v (.slice none 0 0),.v (.slice none 0 0)]:=by kernel_rfl
theorem V7:a8 Tryz.prog 176 0=some (0,none,1):=by kernel_rfl
theorem V6:a8 Tryz.prog 176 1=some (1,none,1):=by kernel_rfl
theorem V5:a8 Tryz.prog 176 2=some (2,none,1):=by kernel_rfl
theorem V4:a8 Tryz.prog 176 3=some (3,none,1):=by kernel_rfl
theorem VZ:a8 Tryz.prog 176 4=some (4,some 6,6):=by kernel_rfl
attribute [go_sem] Y8 Z2 YA ZN WM Xa Yi UK V7 V6 V5 V4 VZ
theorem Xw {m:Mem} {p v:Value} (h0:Rd m p [v]) {K:Value->Prop}:(∃c,Rd m p [c]/\K c)=K v:=by
 refine eq_iff_iff.2 ⟨fun h=> ?_,fun h=>⟨_,h0,h⟩⟩;obtain⟨c,⟨ad,e1,_,h1⟩,hk⟩:=h;obtain⟨ad',e2,_,h2⟩:=h0;rw[e1] at e2;cases e2;have h3:=(h1 0 (by simp)).1;have h4:=(h2 0 (by simp)).1;rw[h3] at h4;simp only[List.getElem?_cons_zero,cn] at h4;rw[<- h4];exact hk
theorem ky {m:Mem} {a:Option Addr} {n:Nat} {xs:List Value} (hr:ax m a n 1 xs) {j:Nat} (hj:j<n) {v:Value} (hv:xs[j]? =some v) {K:Value->Prop}:(∃c,Rd m (bc a j) [c]/\K c)=K v:=by
 refine Xw ?_;have h:=(dK hr hj).1;rw[Nat.mul_one] at h;obtain⟨h1,h2⟩:=List.getElem?_eq_some_iff.1 hv;rw[List.drop_eq_getElem_cons h1,h2] at h;exact h
theorem kQ {m:Mem} {a:Option Addr} {n:Nat} {xs:List Value} (hr:ax m a n 1 xs) {j:Nat} (hj:j<n):bO a n (j:Int)=True:=eq_true ⟨by omega,by omega,(dK hr hj).2⟩
@[reducible] def eJ (k:Nat) (pre:List Value) (fl:Int) (nm sup:Nm) (fs:Value) (x:SV) (rest:List Value):Bx:=⟨k,107,pre.map .v++(.v (.int .i64 fl):: .v (.string (bs nm)):: .v (.string (bs sup)):: .v (.slice none 0 0):: .v fs::x:: .v (.string (bs []))::rest.map .v)⟩
attribute [go_sem] eJ
def E6 (v:Value):Value:=match v with
 | .slice a n c=> .slice a n c
 |_=> .slice none 0 0
theorem jm (v:Value):(E6 v).oneCell' =true:=by cases v<;>rfl
theorem jx (b:Bool) (i j:Int) (x:Value) (hx:x.oneCell' =true):([Value.bool b,.int .i64 i,.int .i64 j,x,.slice none 0 0,.slice none 0 0,.slice none 0 0,.slice none 0 0].all fun v=>v.oneCell')=true:=by
 simp only[List.all_cons,hx];rfl
def rV (fl:Int) (x:Nm×Nm):List Value:=[.int .i64 (257+fl),.string (bs x.1),.string (bs x.2),.bool false,.int .i64 0,.int .i64 0,.slice none 0 0,.slice none 0 0,.slice none 0 0,.slice none 0 0,.slice none 0 0]
def oR (l:List (Nm×Nm)):List Value:=(l.map fun x=>[Value.string (bs x.1),.string (bs x.2)]).flatten
theorem xu:∀(l:List (Nm×Nm)) (i:Nat) (h:i<l.length),(oR l)[2 * i]? =some (.string (bs l[i].1))/\(oR l)[2 * i+1]? =some (.string (bs l[i].2))
 |[],_,h=>by simp at h
 |x::r,0,_=>⟨rfl,rfl⟩
 |x::r,i+1,h=>by
  have e:oR (x::r)= .string (bs x.1):: .string (bs x.2)::oR r:=rfl;have:=xu r i (by simpa using h);rw[e,show 2 * (i+1)=2 * i+1+1 by omega];simpa using this
theorem tj {pre:List Value} {o:Nat} (h:pre.length=o) (r:List SV) (k:Nat):(pre.map SV.v++r)[o+k]? =r[k]? :=by
 rw[List.getElem?_append_right (by rw[List.length_map];omega),List.length_map,h,Nat.add_sub_cancel_left]
theorem tf {pre:List Value} {o:Nat} (h:pre.length=o) (r:List SV) (k:Nat) (x:SV):(pre.map SV.v++r).set (o+k) x=pre.map SV.v++r.set k x:=by
 rw[List.set_append_right _ _ (by rw[List.length_map];omega),List.length_map,h,Nat.add_sub_cancel_left]
theorem Gl (pre:List Value) (o:Nat) (ho:pre.length=o) (fl:Int) (nm sup:Nm) (fs:Value) (rest:List Value) (u q:Nat) (xs:List Value) (hq:q<=100) (hx:xs.length=q * 11) (nf:Int) (hnf:0<=nf/\nf<=4096) (l:List (Nm×Nm)) (hl:l.length<=100) (a:Option Addr) (c:Nat) (m:Mem) (hr:ax m a (2 * l.length) 1 (oR l)):
  FnH Tryz.prog 152 [.box 0 o,.v (.int .i64 nf),.v (.slice a (2 * l.length) c)] ⟨[eJ 0 pre fl nm sup fs (.vec 1 u) rest],[⟨1,u,176,11,q,xs⟩]⟩ m
   fun r H' m' =>ah m m' /\r= .tup []/\H' =⟨[eJ 0 pre fl nm sup fs (.vec 1 (u+l.length)) rest],[⟨1,u+l.length,176,11,q+l.length,xs++(l.map (rV nf)).flatten⟩]⟩:=by
 refine br aq Tryz.func152 ?_
 ·simp only[go_sem];refine gz aq (fun i:Nat=>⟨[⟨0,[],.box 0 o⟩,⟨1,[],.v (.int .i64 nf)⟩,⟨2,[],.v (.slice a (2 * l.length) c)⟩,⟨6,[],.v (.int .i64 ((2 * i:Nat):Int))⟩],[],[eJ 0 pre fl nm sup fs (.vec 1 (u+i)) rest],[⟨1,u+i,176,11,q+i,xs++((l.take i).map (rV nf)).flatten⟩],40,m⟩)
   (fun i=>i<=l.length) (fun i=>l.length - i) 0 (fun _ _=>aU rfl) (fun _ _=> .inl rfl) ?_ ?_ ?_
  ·simp only[go_sem];exact⟨rfl,rfl,rfl,rfl,by simp⟩
  ·exact aF _
  ·intro i hi;by_cases an:i<l.length
   ·have hc:(((2 * i:Nat):Int)+1<((2 * l.length:Nat):Int))=True:=eq_true (by omega);have e0:(oR l)[2 * i]? =some (.string (bs l[i].1)):=(xu l i an).1;have e1:(oR l)[2 * i+1]? =some (.string (bs l[i].2)):=(xu l i an).2;have zH:aB (((2 * i:Nat):Int)+1)=True:=eq_true (by unfold aB;omega);have FQ:aB (257+nf)=True:=eq_true (by unfold aB;omega);have Fq:(((2 * i:Nat):Int)+1).toNat=2 * i+1:=by omega
    have FC:=kQ hr (j:=2 * i) (by omega);have FB:bO a (2 * l.length) (((2 * i:Nat):Int)+1)=True:=kQ hr (j:=2 * i+1) (by omega);have zz:∀{K:Value->Prop},(∃c,Rd m (bc a (2 * i)) [c]/\K c)=K (.string (bs l[i].1)):=fun{K}=>ky hr (by omega) e0
    have bE:∀{K:Value->Prop},(∃c,Rd m (bc a (2 * i+1)) [c]/\K c)=K (.string (bs l[i].2)):=fun{K}=>ky hr (by omega) e1
    simp only[go_sem,hc,zH,not_true_eq_false,false_implies,and_true,true_and];refine bX (.hoist 0 (.hoist 1 (.hoist 2 (.hoist 3 (.hoist 4 (.hoist 5 (.hoist 6 (.hoist 7 (.hoist 8 (.hoist 9 (.hoist 10 (.hoist 11 (.hoist 12 (.hoist 13 (.hoist 14 (.hoist 15 (.hoist 16 (.alt 17 [4,3,2,1,0] (.alt 18 [0] (.hoist 19 (.hoist 20 (.alt 21 [] .done .stop))) .stop) .stop)))))))))))))))))) aq (by kernel_rfl) (by kernel_rfl) ?_;simp only[go_sem,tj ho,tf ho,FC,FB,zz,bE,Fq,zH,FQ,Nat.mul_one];refine⟨jq (by omega) (by decide),by rw[aZ,List.length_map];simp only[cQ];omega,by unfold aB;omega,i+1,⟨by omega,rfl,rfl,rfl,?_⟩,an,by omega⟩;rw[List.take_succ_eq_append_getElem an,List.map_append,List.flatten_append];rfl
   ·have hc:(((2 * i:Nat):Int)+1<((2 * l.length:Nat):Int))=False:=eq_false (by omega);simp only[go_sem,hc];have dp:i=l.length:=by omega
    refine⟨by unfold aB;omega,?_⟩;rw[dp,List.take_length]
theorem Gm (pre:List Value) (o:Nat) (ho:pre.length=o) (fl:Int) (nm sup:Nm) (fs:Value) (rest:List Value) (nf:Int) (hnf:0<=nf/\nf<=4096) (l:List (Nm×Nm)) (hl:l.length<=100) (a:Option Addr) (c:Nat) (m:Mem) (hr:ax m a (2 * l.length) 1 (oR l)):
  FnH Tryz.prog 152 [.box 0 o,.v (.int .i64 nf),.v (.slice a (2 * l.length) c)] ⟨[eJ 0 pre fl nm sup fs (.v (.slice none 0 0)) rest],[]⟩ m
   fun r H' m' =>ah m m' /\r= .tup []/\H' =⟨[eJ 0 pre fl nm sup fs (.vec 1 l.length) rest],[⟨1,l.length,176,11,l.length,(l.map (rV nf)).flatten⟩]⟩:=by
 refine br aq Tryz.func152 ?_
 ·simp only[go_sem];refine xq 0 (o+5) _ 176 11 (by decide) rfl (tj ho _ 5) ?_;refine gz aq (fun i:Nat=>⟨[⟨0,[],.box 0 o⟩,⟨1,[],.v (.int .i64 nf)⟩,⟨2,[],.v (.slice a (2 * l.length) c)⟩,⟨6,[],.v (.int .i64 ((2 * i:Nat):Int))⟩],[],[eJ 0 pre fl nm sup fs (.vec 1 i) rest],[⟨1,i,176,11,i,((l.take i).map (rV nf)).flatten⟩],40,m⟩)
   (fun i=>i<=l.length) (fun i=>l.length - i) 0 (fun _ _=>aU rfl) (fun _ _=> .inl rfl) ?_ ?_ ?_
  ·simp only[go_sem,tf ho];exact⟨rfl,rfl⟩
  ·exact aF _
  ·intro i hi;by_cases an:i<l.length
   ·have hc:(((2 * i:Nat):Int)+1<((2 * l.length:Nat):Int))=True:=eq_true (by omega);have e0:(oR l)[2 * i]? =some (.string (bs l[i].1)):=(xu l i an).1;have e1:(oR l)[2 * i+1]? =some (.string (bs l[i].2)):=(xu l i an).2;have zH:aB (((2 * i:Nat):Int)+1)=True:=eq_true (by unfold aB;omega);have FQ:aB (257+nf)=True:=eq_true (by unfold aB;omega);have Fq:(((2 * i:Nat):Int)+1).toNat=2 * i+1:=by omega
    have FC:=kQ hr (j:=2 * i) (by omega);have FB:bO a (2 * l.length) (((2 * i:Nat):Int)+1)=True:=kQ hr (j:=2 * i+1) (by omega);have zz:∀{K:Value->Prop},(∃c,Rd m (bc a (2 * i)) [c]/\K c)=K (.string (bs l[i].1)):=fun{K}=>ky hr (by omega) e0
    have bE:∀{K:Value->Prop},(∃c,Rd m (bc a (2 * i+1)) [c]/\K c)=K (.string (bs l[i].2)):=fun{K}=>ky hr (by omega) e1
    simp only[go_sem,hc,zH,not_true_eq_false,false_implies,and_true,true_and];refine bX (.hoist 0 (.hoist 1 (.hoist 2 (.hoist 3 (.hoist 4 (.hoist 5 (.hoist 6 (.hoist 7 (.hoist 8 (.hoist 9 (.hoist 10 (.hoist 11 (.hoist 12 (.hoist 13 (.hoist 14 (.hoist 15 (.hoist 16 (.alt 17 [4,3,2,1,0] (.alt 18 [0] (.hoist 19 (.hoist 20 (.alt 21 [] .done .stop))) .stop) .stop)))))))))))))))))) aq (by kernel_rfl) (by kernel_rfl) ?_;simp only[go_sem,tj ho,tf ho,FC,FB,zz,bE,Fq,zH,FQ,Nat.mul_one];refine⟨jq (by omega) (by decide),by rw[aZ,List.length_map];simp only[cQ];omega,by unfold aB;omega,i+1,⟨by omega,rfl,rfl,rfl,?_⟩,an,by omega⟩;rw[List.take_succ_eq_append_getElem an,List.map_append,List.flatten_append];rfl
   ·have hc:(((2 * i:Nat):Int)+1<((2 * l.length:Nat):Int))=False:=eq_false (by omega);simp only[go_sem,hc];have dp:i=l.length:=by omega
    refine⟨by unfold aB;omega,?_⟩;rw[dp,List.take_length]
theorem Zc:aK Tryz.prog 168=10:=by kernel_rfl
theorem Z4:iH Tryz.prog 168=144:=by kernel_rfl
theorem YF:cC Tryz.prog 168=some (some 10):=by kernel_rfl
theorem ZP:eb Tryz.prog 169=some 168:=by kernel_rfl
theorem WV:cC Tryz.prog 169=some none:=by kernel_rfl
theorem Yk:fP Tryz.prog 168=true:=by kernel_rfl
theorem Yo:fP Tryz.prog 174=true:=by kernel_rfl
theorem UP:cU Tryz.prog 174=some [.v (.int .i64 0),.v (.int .i64 0),.v (.slice none 0 0),.v (.slice none 0 0),.v (.slice none 0 0),.v (.slice none 0 0)]:=by kernel_rfl
theorem Wh:a8 Tryz.prog 174 0=some (0,none,1):=by kernel_rfl
theorem Wg:a8 Tryz.prog 174 1=some (1,none,1):=by kernel_rfl
theorem We:a8 Tryz.prog 174 2=some (2,none,1):=by kernel_rfl
theorem UM:cU Tryz.prog 168=some [.v (.int .i64 0),.v (.int .i64 0),.v (.int .i64 0),.v (.int .i64 0),.v (.slice none 0 0),.v (.slice none 0 0),.v (.string (bs [])),.v (.string (bs [])),.v (.string (bs [])),.v (.string (bs []))]:=by kernel_rfl
theorem Wa:a8 Tryz.prog 168 0=some (0,none,1):=by kernel_rfl
theorem V9:a8 Tryz.prog 168 1=some (1,none,1):=by kernel_rfl
theorem V8:a8 Tryz.prog 168 6=some (6,some 3,3):=by kernel_rfl
theorem UI:cU Tryz.prog 166=some [.v (.string (bs [])),.v (.string (bs [])),.v (.string (bs []))]:=by kernel_rfl
theorem Yg:fP Tryz.prog 166=true:=by kernel_rfl
theorem VY:a8 Tryz.prog 166 0=some (0,none,1):=by kernel_rfl
theorem VX:a8 Tryz.prog 166 1=some (1,none,1):=by kernel_rfl
theorem VW:a8 Tryz.prog 166 2=some (2,none,1):=by kernel_rfl
attribute [go_sem] Zc Z4 YF ZP WV Yk Yo UP Wh Wg We UM Wa V9 V8 UI Yg VY VX VW
def kB (d:Nm) (st lo:Int) (v:Value):List Value:=[.int .i64 1,.string (bs bB),.string (bs d),.bool true,.int .i64 st,.int .i64 lo,E6 v,.slice none 0 0,.slice none 0 0,.slice none 0 0,.slice none 0 0]
theorem xw (pre:List Value) (o:Nat) (ho:pre.length=o) (fl:Int) (nm sup:Nm) (fs:Value) (rest:List Value) (d:Nm) (st lo:Int) (k:Nat) (hk:k<=100) (xi:List Value) (m:Mem):
  FnH Tryz.prog 151 [.box 0 o,.v (.string (bs d)),.v (.int .i64 st),.v (.int .i64 lo),.vec 1 0] ⟨[eJ 0 pre fl nm sup fs (.v (.slice none 0 0)) rest],[⟨1,0,168,10,k,xi⟩]⟩ m
   fun r H' m' =>ah m m' /\r= .tup []/\∃v:Value,H' =⟨[eJ 0 pre fl nm sup fs (.vec 4 0) rest],[⟨4,0,176,11,1,kB d st lo v⟩]⟩:=by
 refine UC (R:=fun r H' m' =>ah m m' /\r= .tup []/\∃(v:Value) (x:Vc),H' =⟨[eJ 0 pre fl nm sup fs (.vec 4 0) rest],[⟨4,0,176,11,1,kB d st lo v⟩,x]⟩) (enter bj aq Tryz.func151 rfl rfl (by kernel_rfl) rfl ?_ ?_) ?_
 ·simp only[go_sem]
 ·simp only[go_sem];refine bX (.hoist 0 (.hoist 1 (.hoist 2 (.hoist 3 (.hoist 4 (.hoist 5 (.hoist 6 (.hoist 7 (.hoist 8 (.hoist 9 (.alt 10 [8,7,6,5,4,3,2,1,0] (.alt 11 [7,6,5,4,3,2,1,0] (.hoist 12 (.hoist 13 (.alt 14 [4,3,2,1,0] (.alt 15 [0] (.hoist 16 (.hoist 17 (.alt 18 [] .done .stop))) .stop) .stop))) .stop) .stop))))))))))) aq (by kernel_rfl) (by kernel_rfl) ?_;simp only[go_sem,tj ho,tf ho];have hlen:o+5+1<=(pre.map SV.v++SV.v (.int .i64 fl)::SV.v (.string (bs nm))::SV.v (.string (bs sup))::SV.v (.slice none 0 0)::SV.v fs::SV.v (.slice none 0 0)::SV.v (.string (bs []))::rest.map SV.v).length:=by
   rw[aZ,List.length_map];simp only[cQ];omega
  exact⟨jq (by omega) (by decide),fun a c m1 h1 h2 h3=>⟨⟨.inr h1,.inr h1,.inr h1,.inr h1,.inr h1⟩,jq (by decide) (by decide),.inr h1,hlen,.inr h1,.slice a _ c,_,rfl⟩⟩
 ·rintro r H' m' hm ⟨h1,h2,v,x,rfl⟩;exact⟨⟨_,[_]⟩,List.Sublist.refl _,.cons_cons _ (.cons _ (List.Sublist.refl _)),h1,h2,v,rfl⟩
theorem RF (pre:List Value) (o:Nat) (ho:pre.length=o) (fl:Int) (nm sup:Nm) (fs:Value) (rest:List Value) (d:Nm) (st lo:Int) (m:Mem):
  FnH Tryz.prog 151 [.box 0 o,.v (.string (bs d)),.v (.int .i64 st),.v (.int .i64 lo),.v (.slice none 0 0)] ⟨[eJ 0 pre fl nm sup fs (.v (.slice none 0 0)) rest],[]⟩ m
   fun r H' m' =>ah m m' /\r= .tup []/\∃v:Value,H' =⟨[eJ 0 pre fl nm sup fs (.vec 4 0) rest],[⟨4,0,176,11,1,kB d st lo v⟩]⟩:=by
 refine br aq Tryz.func151 ?_
 ·simp only[go_sem];refine bX (.hoist 0 (.hoist 1 (.hoist 2 (.hoist 3 (.hoist 4 (.hoist 5 (.hoist 6 (.hoist 7 (.hoist 8 (.hoist 9 (.alt 10 [8,7,6,5,4,3,2,1,0] (.alt 11 [7,6,5,4,3,2,1,0] (.hoist 12 (.hoist 13 (.alt 14 [4,3,2,1,0] (.alt 15 [0] (.hoist 16 (.hoist 17 (.alt 18 [] .done .stop))) .stop) .stop))) .stop) .stop))))))))))) aq (by kernel_rfl) (by kernel_rfl) ?_;simp only[go_sem,tj ho,tf ho];have hlen:o+5+1<=(pre.map SV.v++SV.v (.int .i64 fl)::SV.v (.string (bs nm))::SV.v (.string (bs sup))::SV.v (.slice none 0 0)::SV.v fs::SV.v (.slice none 0 0)::SV.v (.string (bs []))::rest.map SV.v).length:=by
   rw[aZ,List.length_map];simp only[cQ];omega
  exact⟨jq (by decide) (by decide),fun a c m1 h1 h2 h3=>⟨⟨.inr h1,.inr h1,.inr h1,.inr h1,.inr h1⟩,jq (by decide) (by decide),.inr h1,hlen,.inr h1,.slice a _ c,rfl⟩⟩
def cA (op a:Int) (rf:List Nm):List SV:=[.v (.int .i64 op),.v (.int .i64 a),.v (.int .i64 0),.v (.int .i64 0),.v (.slice none 0 0),.v (.slice none 0 0)]++(rf.map fun s=> .v (.string (bs s)))++[.v (.string (bs []))]
theorem u3 (m:Mem):FnH Tryz.prog 237 [] ⟨[],[]⟩ m fun r H' m' =>m' =m/\r= .agg (cA 6 0 [[],[],[]])/\H' =⟨[],[]⟩:=by
 refine br aq Tryz.func237 ?_
 ·simp only[go_sem];exact rfl
theorem wT (cl d:Nm) (m:Mem):FnH Tryz.prog 238 [.v (.string (bs cl)),.v (.string (bs d))] ⟨[],[]⟩ m fun r H' m' =>m' =m/\r= .agg (cA 64 0 [cl,bB,d])/\H' =⟨[],[]⟩:=by
 refine br aq Tryz.func238 ?_
 ·simp only[go_sem];exact rfl
abbrev cfC:Cfg:=fF (fun f=>f==151) []
theorem fK:cw cfC Tryz.prog:=aq
def cI (s:Nm):Nm:=[108,97,110,103,47]++s
theorem Hj (s sup:Nm) (hs:s.length<=1000) (n c:Nat) (vs rest:List Value) (hn:vs.length=n * 7) (hr:rest.length=(c - n) * 7) (hc:n<=c/\c<=maxLen) (fv:n<=1000) (m:Mem):
  FnH Tryz.prog 153 [.box 0 0,.v (.string (bs s)),.v (.string (bs sup))] ⟨[dA (.sl 1 n c),⟨1,107,vs.map .v++rest.map .v⟩],[]⟩ m
   fun r H' m' =>ah m m' /\∃(c' :Nat) (bA:List Value) (v:Value),n+1<=c' /\c' <=maxLen/\bA.length=(c' - (n+1)) * 7/\r= .box 5 (n * 7)/\
    H' =⟨[eJ 5 vs 1 (cI s) sup (.slice none 0 0) (.vec 11 0) bA,dA (.sl 5 (n+1) c')],[⟨11,0,176,11,1,kB [40,41,86] 1 1 v⟩]⟩:=by
 have h1:=uX s sup 0 ⟨by decide,by decide⟩ hs n c vs rest hn hr hc fv m;have h2:=fun m' =>u3 m'
 have h3:=fun m' =>wT sup [40,41,86] m'
 refine br fK Tryz.func153 ?_
 ·simp only[go_sem];refine ak (h1.mono ?_);clear h1;rintro r H' m1 aQ ⟨l1,c',bA,qQ,uI,uH,rfl,rfl⟩;have h4:=fun m' =>xw vs (n * 7) hn 1 (cI s) sup (.slice none 0 0) bA [40,41,86] 1 1 2 (by decide) [.int .i64 6,.int .i64 0,.int .i64 0,.int .i64 0,.slice none 0 0,.slice none 0 0,.string (bs []),.string (bs []),.string (bs []),.string (bs []),.int .i64 64,.int .i64 0,.int .i64 0,.int .i64 0,.slice none 0 0,.slice none 0 0,.string (bs sup),.string (bs bB),.string (bs [40,41,86]),.string (bs [])] m'
  simp only[go_sem,mM];refine ak ((h2 m1).mono ?_);clear h2;rintro r H' m2 aJ ⟨rfl,rfl,rfl⟩;simp only[go_sem,cA,List.map_nil];refine ak ((h3 _).mono ?_);clear h3;rintro r H' m3 dx ⟨rfl,rfl,rfl⟩;simp only[go_sem,cA,List.map_nil];refine ak ((h4 _).mono ?_);clear h4;rintro r H' m4 iF ⟨l4,rfl,v,rfl⟩;simp only[go_sem];exact⟨ae l1 l4,c',bA,v,qQ,uI,uH,rfl⟩
def eE (fl:Int) (nm sup:Nm) (fs ms:Value):List Value:=[.int .i64 fl,.string (bs nm),.string (bs sup),.slice none 0 0,fs,ms,.string (bs [])]
theorem Vv {V:Vl} {k j u:Nat} {pre rest:List Value} {fl:Int} {nm sup:Nm} {fs:Value} {h:SV} {v:Value} (e:(V.γ j u).val=v):
  ([eJ k pre fl nm sup fs (.vec j u) rest,dA h]:List Bx).map (lD V)=([eJ k pre fl nm sup fs (.v v) rest,dA h]:List Bx).map (lD V):=by
 have e2:aH V (.vec j u)=aH V (.v v):=e;simp only[aG,List.map_nil,lD,List.map_append,e2]
theorem ve (k:Nat) (pre rest:List Value) (fl:Int) (nm sup:Nm) (fs ms:Value):eJ k pre fl nm sup fs (.v ms) rest=⟨k,107,(pre++eE fl nm sup fs ms).map .v++rest.map .v⟩:=by
 simp only[eE,List.map_append,aG,List.map_nil,List.append_assoc,fh,List.nil_append]
theorem OV (s sup:Nm) (hs:s.length<=1000) (n c:Nat) (vs rest:List Value) (hn:vs.length=n * 7) (hr:rest.length=(c - n) * 7) (hc:n<=c/\c<=maxLen) (fv:n<=1000) (m:Mem):
  FnH Tryz.prog 153 [.box 0 0,.v (.string (bs s)),.v (.string (bs sup))] ⟨[dA (.sl 1 n c),⟨1,107,vs.map .v++rest.map .v⟩],[]⟩ m
   fun r H' m' =>ah m m' /\∃(c' :Nat) (bA:List Value) (v:Value) (a:Option Addr) (ca:Nat),n+1<=c' /\c' <=maxLen/\bA.length=(c' - (n+1)) * 7/\r= .box 5 (n * 7)/\1<=ca/\ax m' a 1 11 (kB [40,41,86] 1 1 v)/\
    H' =⟨[⟨5,107,(vs++eE 1 (cI s) sup (.slice none 0 0) (.slice a 1 ca)).map .v++bA.map .v⟩,dA (.sl 5 (n+1) c')],[]⟩:=by
 refine R5 (Hj s sup hs n c vs rest hn hr hc fv m) ?_;rintro r H' m' hm ⟨l,c',bA,v,h1,h2,h3,rfl,rfl⟩;refine⟨fun _=> .box 5 (n * 7),fun z=>[eJ 5 vs 1 (cI s) sup (.slice none 0 0) z bA,dA (.sl 5 (n+1) c')],11,0,_,[],rfl,rfl,rfl,fun V v e=>⟨rfl,Vv e⟩,List.nil_sublist _,fun a ca m1 q1 q2 q3=>⟨ae l (.inr q1),c',bA,v,a,ca,h1,h2,h3,rfl,q2,q3,?_⟩⟩;rw[<- ve]
theorem vt {α:Type} {R:α->List Value->Prop} {sz:Nat} {l2:List α} {ys:List Value} (h2:eu R sz l2 ys):∀{l:List α} {xs:List Value},xs.length=l.length * sz->eu R sz l xs->eu R sz (l++l2) (xs++ys)
 |[],xs,hl,_=>by
  have:xs=[]:=List.eq_nil_of_length_eq_zero (by simpa using hl);subst this;exact h2
 |y::r,xs,hl,h=>by
  simp only[eu,fh] at h ⊢;rw[cQ,Nat.succ_mul] at hl;have h8:sz<=xs.length:=by omega
  rw[List.take_append_of_le_length h8,List.drop_append_of_le_length h8];exact⟨h.1,vt h2 (by rw[gh];omega) h.2⟩
def Ba (z:Nat) (x:Mb) (cs:List Value):Prop:=∃t,cs= .int .i64 x.fl:: .string (bs x.name):: .string (bs x.desc)::t/\t.length=z/\(t.all fun v=>v.oneCell')=true
def rQ (m:Mem) (u:Cm) (cs:List Value):Prop:=∃(fa ma:Option Addr) (fc mc:Nat) (xf xm:List Value),cs=eE u.fl u.name u.super (.slice fa u.fields.length fc) (.slice ma u.methods.length mc)/\(u.fields.length<=fc/\u.methods.length<=mc)/\
 (ax m fa u.fields.length 6 xf/\eu (Ba 3) 6 u.fields xf)/\ax m ma u.methods.length 11 xm/\eu (Ba 8) 11 u.methods xm
theorem sZ {m m' :Mem} (hle:ah m m') {u:Cm} {cs:List Value} (h:rQ m u cs):rQ m' u cs:=by
 obtain⟨fa,ma,fc,mc,xf,xm,h1,h2,⟨h3,h4⟩,h5,h6⟩:=h;exact⟨fa,ma,fc,mc,xf,xm,h1,h2,⟨aM hle h3,h4⟩,aM hle h5,h6⟩
structure Bld (m:Mem) (us:List Cm) (c:Nat) (vs rest:List Value):Prop where
 rep:eu (rQ m) 7 us vs
 vl:vs.length=us.length * 7
 rl:rest.length=(c - us.length) * 7
 le:us.length<=c
 cm:c<=maxLen
theorem Bld.up {m m' :Mem} {us:List Cm} {c:Nat} {vs rest:List Value} (h:Bld m us c vs rest) (hle:ah m m'):Bld m' us c vs rest:=
 ⟨iT (fun _ _=>sZ hle) h.rep,h.vl,h.rl,h.le,h.cm⟩
@[reducible] def iI (k n c:Nat) (vs rest:List Value):Hp:=⟨[⟨k,107,vs.map .v++rest.map .v⟩,dA (.sl k n c)],[]⟩
attribute [go_sem] iI
def vN:Nm:=[40,41,86]
theorem OX (s sup:Nm) (hs:s.length<=1000) (us:List Cm) (hu:us.length<=1000) (c:Nat) (vs rest:List Value) (m:Mem) (hb:Bld m us c vs rest):
  FnH Tryz.prog 153 [.box 0 0,.v (.string (bs s)),.v (.string (bs sup))] (iI 1 us.length c vs rest) m
   fun r H' m' =>ah m m' /\∃(c' :Nat) (iC bA:List Value),Bld m' (us++[⟨1,cI s,sup,[],[⟨1,bB,vN⟩]⟩]) c' iC bA/\r= .box 5 (us.length * 7)/\H' =iI 5 (us.length+1) c' iC bA:=by
 refine s6 ((OV s sup hs us.length c vs rest hb.vl hb.rl ⟨hb.le,hb.cm⟩ hu m).mono ?_) (List.Perm.swap _ _ _);rintro r H' m' hm ⟨l,c',bA,v,a,ca,h1,h2,h3,rfl,h4,h5,rfl⟩;refine⟨l,c',_,bA,⟨vt (l2:=[(⟨1,cI s,sup,[],[⟨1,bB,vN⟩]⟩:Cm)]) ⟨⟨none,a,0,ca,[],_,rfl,⟨aA _,h4⟩,⟨⟨rfl,fun h=>absurd h (Nat.lt_irrefl 0)⟩,trivial⟩,h5,⟨⟨_,rfl,rfl,by first |rfl |exact jx _ _ _ _ (jm _)⟩,trivial⟩⟩,trivial⟩ hb.vl (iT (fun _ _=>sZ l) hb.rep),?_,?_,?_,h2⟩,rfl,rfl⟩
 ·rw[aZ,hb.vl,aZ];simp only[eE,cQ,mb];omega
 ·rw[aZ];exact h3
 ·rw[aZ];exact h1
theorem Og {P:Program} {f:FuncId} {args:List SV} {H:Hp} {m:Mem} {R R' :SV->Hp->Mem->Prop} (h:FnH P f args H m R) (hi:∀x∈H.bx,x.id≠2) (hv:H.vc=[])
  (hR:∀r H' m',m.le m' ->R r H' m' ->∃(k n c:Nat) (t tb:TypeId) (xs:List Value),r= .tup []/\H' =⟨[⟨k,t,xs.map .v⟩,⟨0,tb,[.sl k n c]⟩],[]⟩/\R' (.tup []) ⟨[⟨2,t,xs.map .v⟩,⟨0,tb,[.sl 2 n c]⟩],[]⟩ m'):FnH P f args H m R' :=by
 intro V w D dX hle hH;refine(h V w D dX hle hH).mono ?_;rintro e w' ⟨r,V',D',H',m',e1,e2,e3,e4,e5,e6,e7,e8,e9,bZ,cj⟩;obtain⟨k,n,c,t,tb,xs,rfl,rfl,hK⟩:=hR r H' m' e9 cj;have h0:(dN V' 2 (V'.β k)).β 0=V'.β 0:=nK (by decide);have h2:(dN V' 2 (V'.β k)).β 2=V'.β k:=by
  show(if(2:Nat)=2 then V'.β k else V'.β 2)=_;rw[ai rfl]
 have er:aE (dN V' 2 (V'.β k)) ⟨[⟨2,t,xs.map .v⟩,⟨0,tb,[.sl 2 n c]⟩],[]⟩=aE V' ⟨[⟨k,t,xs.map .v⟩,⟨0,tb,[.sl k n c]⟩],[]⟩:=by
  simp [aE]
 refine⟨.tup [],dN V' 2 (V'.β k),D',⟨[⟨2,t,xs.map .v⟩,⟨0,tb,[.sl 2 n c]⟩],[]⟩,m',e1,e2,⟨fun x hx=> ?_,fun x hx=>(by cases hx),by rw[er];exact e3.apart,by simp⟩,fun x hx=> ?_,fun x hx=>(by rw[hv] at hx;cases hx),e6,fun x hx=>e7 x (by rw[<- er];exact hx),e8,e9,bZ,hK⟩
 ·rcases List.mem_cons.1 hx with rfl |hx
  ·obtain⟨⟨o,q1,q2⟩,q3⟩:=e3.bx ⟨k,t,xs.map .v⟩ (bL ..);refine⟨⟨o,?_,?_⟩,?_⟩
   ·show w'.heap[(dN V' 2 (V'.β k)).β 2]? =_;rw[h2];exact q1
   ·rw[lx] at q2 ⊢;exact q2
   ·show D' ((dN V' 2 (V'.β k)).β 2)=0;rw[h2];exact q3
  ·rw[List.mem_singleton.1 hx];obtain⟨⟨o,q1,q2⟩,q3⟩:=e3.bx ⟨0,tb,[.sl k n c]⟩ (bt _ (List.mem_singleton.2 rfl));refine⟨⟨o,?_,?_⟩,?_⟩
   ·show w'.heap[(dN V' 2 (V'.β k)).β 0]? =_;rw[h0];exact q1
   ·show gL tb [Value.slice (some ⟨(dN V' 2 (V'.β k)).β 2,0,none⟩) n c] o;rw[h2];exact q2
   ·show D' ((dN V' 2 (V'.β k)).β 0)=0;rw[h0];exact q3
 ·rw[nK (hi x hx)];exact e4 x hx
theorem Zd:aK Tryz.prog 178=6:=by kernel_rfl
theorem Z5:iH Tryz.prog 178=72:=by kernel_rfl
theorem YG:cC Tryz.prog 178=some (some 6):=by kernel_rfl
theorem ZQ:eb Tryz.prog 104=some 178:=by kernel_rfl
theorem WW:cC Tryz.prog 104=some none:=by kernel_rfl
theorem Xg:aK Tryz.prog 104=1:=by kernel_rfl
theorem Ym:fP Tryz.prog 178=true:=by kernel_rfl
theorem UN:cU Tryz.prog 178=some [.v (.int .i64 0),.v (.string (bs [])),.v (.string (bs [])),.v (.int .i64 0),.v (.int .i64 0),.v (.string (bs []))]:=by kernel_rfl
theorem Wd:a8 Tryz.prog 178 0=some (0,none,1):=by kernel_rfl
theorem Wc:a8 Tryz.prog 178 1=some (1,none,1):=by kernel_rfl
theorem Wb:a8 Tryz.prog 178 2=some (2,none,1):=by kernel_rfl
attribute [go_sem] Zd Z5 YG ZQ WW Xg Ym UN Wd Wc Wb
def J3:List Value:=[.int .i64 1,.string (bs [114,101,102,101,114,101,110,116]),.string (bs [76,108,97,110,103,47,79,98,106,101,99,116,59]),.int .i64 0,.int .i64 0,.string (bs []),.int .i64 1,.string (bs [99,108,101,97,114,101,100]),.string (bs [73]),.int .i64 0,.int .i64 0,.string (bs [])]
def mL:Nm:=[40,76,108,97,110,103,47,79,98,106,101,99,116,59,41,86]
theorem D9 {m m' :Mem} {us:List Cm} {c:Nat} {vs rest:List Value} (h:Bld m us c vs rest) (hle:ah m m') (fl:Int) (nm sup d:Nm) (st lo:Int) (v:Value) (c' :Nat) (bA:List Value) (h1:us.length+1<=c') (h2:c' <=maxLen) (h3:bA.length=(c' - (us.length+1)) * 7) {a:Option Addr} {ca:Nat} (ha:1<=ca) (hr:ax m' a 1 11 (kB d st lo v)):
  Bld m' (us++[⟨fl,nm,sup,[],[⟨1,bB,d⟩]⟩]) c' (vs++eE fl nm sup (.slice none 0 0) (.slice a 1 ca)) bA:=by
 refine⟨vt (l2:=[(⟨fl,nm,sup,[],[⟨1,bB,d⟩]⟩:Cm)]) ⟨⟨none,a,0,ca,[],_,rfl,⟨aA _,ha⟩,⟨⟨rfl,fun h=>absurd h (Nat.lt_irrefl 0)⟩,trivial⟩,hr,⟨⟨_,rfl,rfl,by first |rfl |exact jx _ _ _ _ (jm _)⟩,trivial⟩⟩,trivial⟩ h.vl (iT (fun _ _=>sZ hle) h.rep),?_,?_,?_,h2⟩
 ·rw[aZ,h.vl,aZ];simp only[eE,cQ,mb];omega
 ·rw[aZ];exact h3
 ·rw[aZ];exact h1
def iW:Nm:=[108,97,110,103,47,82,101,102,101,114,101,110,99,101]
def EH:Cm:=⟨1025,cI [82,101,102,101,114,101,110,99,101],aS,[⟨1,[114,101,102,101,114,101,110,116],[76,108,97,110,103,47,79,98,106,101,99,116,59]⟩,⟨1,[99,108,101,97,114,101,100],[73]⟩],[⟨1,bB,mL⟩]⟩
def tr:List Cm:=cZ.drop 17
theorem Qm (us:List Cm) (hu:us.length<=900) (c:Nat) (vs rest:List Value) (m:Mem) (hb:Bld m us c vs rest):
  FnH Tryz.prog 154 [.box 0 0] (iI 1 us.length c vs rest) m
   fun r H' m' =>ah m m' /\r= .tup []/\∃(c' :Nat) (iC bA:List Value),Bld m' (us++tr) c' iC bA/\H' =iI 2 (us.length+4) c' iC bA:=by
 have h1:FnH Tryz.prog 150 [.box 0 0,.v (.string (bs [82,101,102,101,114,101,110,99,101])),.v (.string (bs aS)),.v (.int .i64 1024)] (iI 1 us.length c vs rest) m _:=
  s6 (uX [82,101,102,101,114,101,110,99,101] aS 1024 ⟨by decide,by decide⟩ (by decide) us.length c vs rest hb.vl hb.rl ⟨hb.le,hb.cm⟩ (by omega) m) (List.Perm.swap _ _ _)
 refine Og (R:=fun r H' m' =>ah m m' /\r= .tup []/\∃(c' k:Nat) (iC bA:List Value),Bld m' (us++tr) c' iC bA/\H' =iI k (us.length+4) c' iC bA) (El Tryz.func154 rfl rfl (aU rfl) ?_ ?_) (fun x hx=> ?_) rfl ?_
 ·simp only[go_sem]
 ·refine mA (fun _:Unit=>⟨[⟨0,[],.box 0 0⟩,⟨2,[],.box 2 0⟩],[],[⟨1,107,vs.map .v++rest.map .v⟩,dA (.sl 1 us.length c),⟨2,168,cA 6 1 [[],[],[]]⟩],[],20,m⟩) (fun _=>True) (fun _ _=>aU rfl) (fun _ _=> .inl rfl) (fun _=> ?_) (gi aq (by kernel_rfl) ?_) fun _ _=> ?_
  ·simp only[go_sem,cA]
  ·simp only[go_sem,cA];exact⟨(),trivial⟩
  ·refine mA (fun y:Nat×List Value×Mem=>⟨[⟨0,[],.box 0 0⟩,⟨2,[],.box 2 0⟩,⟨3,[],.box 23 (us.length * 7)⟩],[],[eJ 23 vs 1025 (cI [82,101,102,101,114,101,110,99,101]) aS (.slice none 0 0) (.v (.slice none 0 0)) y.2.1,dA (.sl 23 (us.length+1) y.1),⟨2,168,cA 6 1 [[],[],[]]⟩],[],40,y.2.2⟩)
    (fun y=>ah m y.2.2/\us.length+1<=y.1/\y.1<=maxLen/\y.2.1.length=(y.1 - (us.length+1)) * 7) (fun _ _=>aU rfl) (fun y hy=>hy.1) (fun _=> ?_) (gi aq (by kernel_rfl) ?_) ?_
   ·simp only[go_sem,cA]
   ·simp only[go_sem,cA];refine ak (h1.mono ?_);clear h1;rintro r H' m1 aQ ⟨l1,c',bA,g1,g2,g3,rfl,rfl⟩;simp only[go_sem,mM,cI];exact⟨(c',bA,m1),⟨⟨rfl,rfl⟩,.inl rfl⟩,l1,g1,g2,g3⟩
   ·clear h1;rintro⟨c',bA,m1⟩ ⟨l1,g1,g2,g3⟩;dsimp only at l1 g1 g2 g3;refine vn 23 (fun y:Option Addr×Nat×Mem=>⟨[⟨0,[],.box 0 0⟩,⟨2,[],.box 2 0⟩,⟨3,[],.box 23 (us.length * 7)⟩],[],[eJ 23 vs 1025 (cI [82,101,102,101,114,101,110,99,101]) aS (.slice y.1 2 y.2.1) (.v (.slice none 0 0)) bA,dA (.sl 23 (us.length+1) c'),⟨2,168,cA 6 1 [[],[],[]]⟩],[],60,y.2.2⟩)
     (fun y=>ah m1 y.2.2/\2<=y.2.1/\ax y.2.2 y.1 2 6 J3) (fun _ _=>aU rfl) (fun y hy=>hy.1) (fun _=> ?_) (gi aq (by kernel_rfl) ?_) ?_
    ·simp only[go_sem,cA]
    ·simp only[go_sem,cA,tj hb.vl,tf hb.vl,oG,mq,oH];have hlen:us.length * 7+4+1<=(vs.map SV.v++SV.v (.int .i64 1025)::SV.v (.string (bs (cI [82,101,102,101,114,101,110,99,101])))::SV.v (.string (bs aS))::SV.v (.slice none 0 0)::SV.v (.slice none 0 0)::SV.v (.slice none 0 0)::SV.v (.string (bs []))::bA.map SV.v).length:=by
      rw[aZ,List.length_map,hb.vl];simp only[cQ];omega
     exact⟨hlen,fun a cc m2 w1 w2 w3=>⟨(a,cc,m2),⟨rfl,.inl rfl⟩,.inr w1,w2,w3⟩⟩
    ·rintro⟨fa,fc,m2⟩ ⟨l2,g4,g5⟩;dsimp only at l2 g4 g5;refine vn 23 (fun y:Option Addr×Nat×Value×Mem=>⟨[⟨0,[],.box 0 0⟩,⟨2,[],.box 2 0⟩],[],[eJ 23 vs 1025 (cI [82,101,102,101,114,101,110,99,101]) aS (.slice fa 2 fc) (.v (.slice y.1 1 y.2.1)) bA,dA (.sl 23 (us.length+1) c'),⟨2,168,cA 6 1 [[],[],[]]⟩],[],100,y.2.2.2⟩)
      (fun y=>ah m2 y.2.2.2/\1<=y.2.1/\ax y.2.2.2 y.1 1 11 (kB mL 2 2 y.2.2.1)) (fun _ _=>aU rfl) (fun y hy=>hy.1) (fun _=> ?_) ?_ ?_
     ·simp only[go_sem,cA]
     ·refine bX (.hoist 0 (.hoist 4 (.hoist 5 (.hoist 6 (.alt 1 [6,5,4,0] (.alt 2 [6,5,4,0] (.alt 3 [6,5,4,0] (.alt 7 [0] (.alt 8 [] .done .stop) .stop) .stop) .stop) .stop))))) fK (by kernel_rfl) (by kernel_rfl) ?_;simp only[go_sem,cA,List.map_nil];refine ak ((u3 _).mono ?_);rintro r H' m4 iF ⟨rfl,rfl,rfl⟩;simp only[go_sem,cA,List.map_nil];refine ak ((wT aS [40,41,86] _).mono ?_);rintro r H' m5 oy ⟨rfl,rfl,rfl⟩;simp only[go_sem,cA,List.map_nil];refine ak ((u3 _).mono ?_);rintro r H' m6 uy ⟨rfl,rfl,rfl⟩;simp only[go_sem,cA,List.map_nil];refine ak ((xw vs _ hb.vl 1025 _ aS (.slice fa 2 fc) bA mL 2 2 5 (by decide) _ _).mono ?_);rintro r H' m7 sI ⟨l7,rfl,v,rfl⟩;simp only[go_sem,cA,List.map_nil,oG,mq,oH];exact fun a cc m8 w1 w2 w3=>⟨(a,cc,v,m8),⟨rfl,.inl rfl⟩,ae l7 (.inr w1),w2,w3⟩
     ·rintro⟨ma,mc,vv,m3⟩ ⟨l3,g6,g7⟩;dsimp only at l3 g6 g7;have du:Bld m3 (us++[EH]) c' (vs++eE 1025 (cI [82,101,102,101,114,101,110,99,101]) aS (.slice fa 2 fc) (.slice ma 1 mc)) bA:=by
       refine⟨vt (l2:=[EH]) ⟨⟨fa,ma,fc,mc,J3,_,rfl,⟨g4,g6⟩,⟨aM l3 g5,⟨_,rfl,rfl,by first |rfl |exact jx _ _ _ _ (jm _)⟩,⟨_,rfl,rfl,by first |rfl |exact jx _ _ _ _ (jm _)⟩,trivial⟩,g7,⟨_,rfl,rfl,by first |rfl |exact jx _ _ _ _ (jm _)⟩,trivial⟩,trivial⟩ hb.vl (iT (fun _ _=>sZ (ae l1 (ae l2 l3))) hb.rep),?_,?_,?_,g2⟩
       ·rw[aZ,hb.vl,aZ];simp only[eE,cQ,mb];omega
       ·rw[aZ];exact g3
       ·rw[aZ];exact g1
      rw[ve];have h3:ah m m3:=ae l1 (ae l2 l3);have hul:(us++[EH]).length=us.length+1:=by rw[aZ];rfl
      clear g1 g2 g3 g4 g5 g6 g7 l1 l2 l3;revert du;generalize vs++eE 1025 (cI [82,101,102,101,114,101,110,99,101]) aS (.slice fa 2 fc) (.slice ma 1 mc)=ws
      intro du;refine gi fK (by kernel_rfl) ?_;simp only[go_sem,cA,List.map_nil];refine RZ fK (fun K st=>∃k,vA k K st) (fun _ _ _ _ _ hE h=>h.elim fun _ h=>Gj hE h)
       (fun x:Nat×Nat×Nat×List Value×List Value×Mem=>⟨[⟨24,[],.vec 100 0⟩,⟨25,[],.v (.int .i64 3)⟩,⟨26,[],.v (.int .i64 x.1)⟩,⟨0,[],.box 0 0⟩,⟨2,[],.box 2 0⟩],[],[⟨x.2.1,107,x.2.2.2.1.map .v++x.2.2.2.2.1.map .v⟩,dA (.sl x.2.1 (us.length+1+x.1) x.2.2.1),⟨2,168,cA 6 1 [[],[],[]]⟩],
        [⟨100,0,9,1,3,[.string (bs [83,111,102,116,82,101,102,101,114,101,110,99,101]),.string (bs [87,101,97,107,82,101,102,101,114,101,110,99,101]),.string (bs [80,104,97,110,116,111,109,82,101,102,101,114,101,110,99,101])]⟩],x.2.1+200,x.2.2.2.2.2⟩)
       (fun x=>ah m3 x.2.2.2.2.2/\x.1<=3/\(x.2.1=23\/200<=x.2.1)/\Bld x.2.2.2.2.2 (us++tr.take (1+x.1)) x.2.2.1 x.2.2.2.1 x.2.2.2.2.1) (fun x=>3 - x.1) (by kernel_rfl) (fun x hx=> ?_) (fun x hx=>hx.1) (fun x=> ?_) ?_ ?_
      ·show 101<=x.2.1+200;omega
      ·simp only[go_sem,cA,List.map_nil];omega
      ·refine⟨23,?_⟩;simp only[go_sem,cA,List.map_nil,oG,mq,oH];refine⟨(0,23,c',ws,bA,m3),?_,.inl rfl,aF _,.inl rfl,du⟩;simp [fM]
      ·rintro⟨i,k,cc,ys,rs,mm⟩ ⟨q1,q2,q3,q4⟩;dsimp only at q1 q2 q3 q4;have e0:(k=0)=False:=eq_false (by omega);have e1:(0=k)=False:=eq_false (by omega);have e2:(k=2)=False:=eq_false (by omega);have e3:(2=k)=False:=eq_false (by omega);have e4:(k=100)=False:=eq_false (by omega);have e5:(100=k)=False:=eq_false (by omega);have e6:(k=1)=False:=eq_false (by omega);have e7:(1=k)=False:=eq_false (by omega);have b0:(k==0)=false:=beq_eq_false_iff_ne.2 (by omega);have d0:(0==k)=false:=beq_eq_false_iff_ne.2 (by omega);have b1:(k==1)=false:=beq_eq_false_iff_ne.2 (by omega);have d1:(1==k)=false:=beq_eq_false_iff_ne.2 (by omega);have b2:(k==2)=false:=beq_eq_false_iff_ne.2 (by omega);have d2:(2==k)=false:=beq_eq_false_iff_ne.2 (by omega);have ft:(k==100)=false:=beq_eq_false_iff_ne.2 (by omega);have d100:(100==k)=false:=beq_eq_false_iff_ne.2 (by omega);have f1:(k+200+4==k+200+3)=false:=beq_eq_false_iff_ne.2 (by omega);have f2:(k+200+3==k+200+4)=false:=beq_eq_false_iff_ne.2 (by omega);have f3:(k+200+4=k+200+3)=False:=eq_false (by omega);have f4:(k+200+3=k+200+4)=False:=eq_false (by omega);have p1:(0==k+200+3)=false:=beq_eq_false_iff_ne.2 (by omega);have z1:(0=k+200+3)=False:=eq_false (by omega);have p2:(k+200+3==0)=false:=beq_eq_false_iff_ne.2 (by omega);have z2:(k+200+3=0)=False:=eq_false (by omega);have p3:(0==k+204)=false:=beq_eq_false_iff_ne.2 (by omega);have z3:(0=k+204)=False:=eq_false (by omega);have p4:(k+204==0)=false:=beq_eq_false_iff_ne.2 (by omega);have z4:(k+204=0)=False:=eq_false (by omega)
       have p5:(1==k+200+3)=false:=beq_eq_false_iff_ne.2 (by omega);have z5:(1=k+200+3)=False:=eq_false (by omega);have p6:(k+200+3==1)=false:=beq_eq_false_iff_ne.2 (by omega);have z6:(k+200+3=1)=False:=eq_false (by omega);have p7:(1==k+204)=false:=beq_eq_false_iff_ne.2 (by omega);have z7:(1=k+204)=False:=eq_false (by omega);have p8:(k+204==1)=false:=beq_eq_false_iff_ne.2 (by omega);have z8:(k+204=1)=False:=eq_false (by omega);have p9:(2==k+200+3)=false:=beq_eq_false_iff_ne.2 (by omega);have z9:(2=k+200+3)=False:=eq_false (by omega);have j0:(k+200+3==2)=false:=beq_eq_false_iff_ne.2 (by omega);have mW:(k+200+3=2)=False:=eq_false (by omega);have jz:(2==k+204)=false:=beq_eq_false_iff_ne.2 (by omega);have mV:(2=k+204)=False:=eq_false (by omega);have nb:(k+204==2)=false:=beq_eq_false_iff_ne.2 (by omega);have z12:(k+204=2)=False:=eq_false (by omega);have na:(100==k+200+3)=false:=beq_eq_false_iff_ne.2 (by omega);have mU:(100=k+200+3)=False:=eq_false (by omega);have mZ:(k+200+3==100)=false:=beq_eq_false_iff_ne.2 (by omega);have mT:(k+200+3=100)=False:=eq_false (by omega);have mY:(100==k+204)=false:=beq_eq_false_iff_ne.2 (by omega);have mS:(100=k+204)=False:=eq_false (by omega);have mX:(k+204==100)=false:=beq_eq_false_iff_ne.2 (by omega);have mR:(k+204=100)=False:=eq_false (by omega);have nu:(k+204==k+200+3)=false:=beq_eq_false_iff_ne.2 (by omega);have nt:(k+200+3==k+204)=false:=beq_eq_false_iff_ne.2 (by omega);have ns:(k+204=k+200+3)=False:=eq_false (by omega);have nr:(k+200+3=k+204)=False:=eq_false (by omega)
       have e8:100<k+200:=by omega
       have e9:0<k+200:=by omega
       have bZ:2<k+200:=by omega
       have cj:k<k+200:=by omega
       have fW:ys.length=(us.length+1+i) * 7:=by
        rw[q4.vl,aZ,List.length_take,show tr.length=4 from rfl];congr 1
        omega
       have Fu:rs.length=(cc - (us.length+1+i)) * 7:=by
        rw[q4.rl,aZ,List.length_take,show tr.length=4 from rfl];congr 2
        omega
       have hle:us.length+1+i<=cc:=by
        have:=q4.le;rw[aZ,List.length_take,show tr.length=4 from rfl] at this;omega
       have kA:=q4.cm;have gJ:i=0\/i=1\/i=2\/i=3:=by omega
       rcases gJ with rfl |rfl |rfl |rfl
       ·have h1:FnH Tryz.prog 150 [.box 0 0,.v (.string (bs [83,111,102,116,82,101,102,101,114,101,110,99,101])),.v (.string (bs iW)),.v (.int .i64 0)] (iI 1 (us.length+1+0) cc ys rs) mm _:=
         s6 (uX [83,111,102,116,82,101,102,101,114,101,110,99,101] iW 0 ⟨by decide,by decide⟩ (by decide) (us.length+1+0) cc ys rs fW Fu ⟨hle,kA⟩ (by omega) mm) (List.Perm.swap _ _ _)
        have uJ:(((0:Nat):Int)<3)=True:=eq_true (by decide);simp only[go_sem,cA,List.map_nil,e0,e1,e2,e3,e4,e5,e6,e7,b0,d0,b1,d1,b2,d2,ft,d100,e8,e9,bZ,cj,uJ,not_true_eq_false,false_implies,true_implies,and_true,true_and];refine⟨by omega,?_⟩;refine bX (.hoist 0 (.hoist 1 (.hoist 4 (.alt 2 [4] (.alt 3 [4] (.alt 5 [4] (.alt 6 [] (.alt 7 [] .done .stop) .stop) .stop) .stop) .stop)))) fK (by kernel_rfl) (by kernel_rfl) ?_;simp only[go_sem,cA,List.map_nil,e0,e1,e2,e3,e4,e5,e6,e7,b0,d0,b1,d1,b2,d2,ft,d100,e8,e9,bZ,cj];refine ak (h1.mono ?_);clear h1;rintro r H' m4 iF ⟨l4,c4,r4,g1,g2,g3,rfl,rfl⟩;simp only[go_sem,mM,cA,List.map_nil,e0,e1,e2,e3,e4,e5,e6,e7,b0,d0,b1,d1,b2,d2,ft,d100,e8,e9,bZ,cj];refine⟨⟨by omega,by omega⟩,by omega,l4,by kernel_rfl,bF ((u3 _).mono ?_)⟩;rintro r H' m5 oy ⟨rfl,rfl,rfl⟩;simp only[go_sem,cA,List.map_nil,e0,e1,e2,e3,e4,e5,e6,e7,b0,d0,b1,d1,b2,d2,ft,d100,e8,e9,bZ,cj];refine⟨l4,by kernel_rfl,bF ((wT iW mL _).mono ?_)⟩;rintro r H' m6 uy ⟨rfl,rfl,rfl⟩;simp only[go_sem,cA,List.map_nil,e0,e1,e2,e3,e4,e5,e6,e7,b0,d0,b1,d1,b2,d2,ft,d100,e8,e9,bZ,cj,f1,f2,f3,f4,Nat.add_zero,nu,nt,ns,nr,p1,z1,p2,z2,p3,z3,p4,z4,p5,z5,p6,z6,p7,z7,p8,z8,p9,z9,j0,mW,jz,mV,nb,z12,na,mU,mZ,mT,mY,mS,mX,mR];refine⟨l4,by omega,by kernel_rfl,⟨by omega,by omega⟩,bF ((xw ys _ fW 1 _ iW (.slice none 0 0) r4 mL 2 2 3 (by decide) _ _).mono ?_)⟩;rintro r H' m7 sI ⟨l7,rfl,v,rfl⟩;simp only[go_sem,cA,List.map_nil,e0,e1,e2,e3,e4,e5,e6,e7,b0,d0,b1,d1,b2,d2,ft,d100,e8,e9,bZ,cj,f1,f2,f3,f4,Nat.add_zero,nu,nt,ns,nr,p1,z1,p2,z2,p3,z3,p4,z4,p5,z5,p6,z6,p7,z7,p8,z8,p9,z9,j0,mW,jz,mV,nb,z12,na,mU,mZ,mT,mY,mS,mX,mR]
        refine⟨⟨by omega,by simp⟩,by unfold aB;omega,k+200+3,?_⟩;simp only[go_sem,cA,List.map_nil,e0,e1,e2,e3,e4,e5,e6,e7,b0,d0,b1,d1,b2,d2,ft,d100,e8,e9,bZ,cj,f1,f2,f3,f4,Nat.add_zero,nu,nt,ns,nr,p1,z1,p2,z2,p3,z3,p4,z4,p5,z5,p6,z6,p7,z7,p8,z8,p9,z9,j0,mW,jz,mV,nb,z12,na,mU,mZ,mT,mY,mS,mX,mR,oG,mq,oH];intro a ca m8 w1 w2 w3;have r8:=ae l4 (ae l7 (.inr w1));refine⟨(1,k+200+3,c4,ys++eE 1 (cI [83,111,102,116,82,101,102,101,114,101,110,99,101]) iW (.slice none 0 0) (.slice a 1 ca),r4,m8),?_,⟨ae q1 r8,(show(1:Nat)<=3 by decide),.inr (show 200<=k+200+3 by omega),?_⟩,(show 3 - 1<3 - 0 by decide)⟩
        ·simp only[go_sem,cA,List.map_nil,e0,e1,e2,e3,e4,e5,e6,e7,b0,d0,b1,d1,b2,d2,ft,d100,e8,e9,bZ,cj,f1,f2,f3,f4,Nat.add_zero,nu,nt,ns,nr,p1,z1,p2,z2,p3,z3,p4,z4,p5,z5,p6,z6,p7,z7,p8,z8,p9,z9,j0,mW,jz,mV,nb,z12,na,mU,mZ,mT,mY,mS,mX,mR,eE,cI,fM];exact rfl
        ·have:=D9 q4 r8 1 (cI [83,111,102,116,82,101,102,101,114,101,110,99,101]) iW mL 2 2 v c4 r4 (by rw[aZ,List.length_take];show us.length+1+1<=c4;exact g1) g2 (by rw[aZ,List.length_take];exact g3) w2 w3;rw[List.append_assoc] at this;exact this
       ·have h1:FnH Tryz.prog 150 [.box 0 0,.v (.string (bs [87,101,97,107,82,101,102,101,114,101,110,99,101])),.v (.string (bs iW)),.v (.int .i64 0)] (iI 1 (us.length+1+1) cc ys rs) mm _:=
         s6 (uX [87,101,97,107,82,101,102,101,114,101,110,99,101] iW 0 ⟨by decide,by decide⟩ (by decide) (us.length+1+1) cc ys rs fW Fu ⟨hle,kA⟩ (by omega) mm) (List.Perm.swap _ _ _)
        have uJ:(((1:Nat):Int)<3)=True:=eq_true (by decide);simp only[go_sem,cA,List.map_nil,e0,e1,e2,e3,e4,e5,e6,e7,b0,d0,b1,d1,b2,d2,ft,d100,e8,e9,bZ,cj,uJ,not_true_eq_false,false_implies,true_implies,and_true,true_and];refine⟨by omega,?_⟩;refine bX (.hoist 0 (.hoist 1 (.hoist 4 (.alt 2 [4] (.alt 3 [4] (.alt 5 [4] (.alt 6 [] (.alt 7 [] .done .stop) .stop) .stop) .stop) .stop)))) fK (by kernel_rfl) (by kernel_rfl) ?_;simp only[go_sem,cA,List.map_nil,e0,e1,e2,e3,e4,e5,e6,e7,b0,d0,b1,d1,b2,d2,ft,d100,e8,e9,bZ,cj];refine ak (h1.mono ?_);clear h1;rintro r H' m4 iF ⟨l4,c4,r4,g1,g2,g3,rfl,rfl⟩;simp only[go_sem,mM,cA,List.map_nil,e0,e1,e2,e3,e4,e5,e6,e7,b0,d0,b1,d1,b2,d2,ft,d100,e8,e9,bZ,cj];refine⟨⟨by omega,by omega⟩,by omega,l4,by kernel_rfl,bF ((u3 _).mono ?_)⟩;rintro r H' m5 oy ⟨rfl,rfl,rfl⟩;simp only[go_sem,cA,List.map_nil,e0,e1,e2,e3,e4,e5,e6,e7,b0,d0,b1,d1,b2,d2,ft,d100,e8,e9,bZ,cj];refine⟨l4,by kernel_rfl,bF ((wT iW mL _).mono ?_)⟩;rintro r H' m6 uy ⟨rfl,rfl,rfl⟩;simp only[go_sem,cA,List.map_nil,e0,e1,e2,e3,e4,e5,e6,e7,b0,d0,b1,d1,b2,d2,ft,d100,e8,e9,bZ,cj,f1,f2,f3,f4,Nat.add_zero,nu,nt,ns,nr,p1,z1,p2,z2,p3,z3,p4,z4,p5,z5,p6,z6,p7,z7,p8,z8,p9,z9,j0,mW,jz,mV,nb,z12,na,mU,mZ,mT,mY,mS,mX,mR];refine⟨l4,by omega,by kernel_rfl,⟨by omega,by omega⟩,bF ((xw ys _ fW 1 _ iW (.slice none 0 0) r4 mL 2 2 3 (by decide) _ _).mono ?_)⟩;rintro r H' m7 sI ⟨l7,rfl,v,rfl⟩;simp only[go_sem,cA,List.map_nil,e0,e1,e2,e3,e4,e5,e6,e7,b0,d0,b1,d1,b2,d2,ft,d100,e8,e9,bZ,cj,f1,f2,f3,f4,Nat.add_zero,nu,nt,ns,nr,p1,z1,p2,z2,p3,z3,p4,z4,p5,z5,p6,z6,p7,z7,p8,z8,p9,z9,j0,mW,jz,mV,nb,z12,na,mU,mZ,mT,mY,mS,mX,mR]
        refine⟨⟨by omega,by simp⟩,by unfold aB;omega,k+200+3,?_⟩;simp only[go_sem,cA,List.map_nil,e0,e1,e2,e3,e4,e5,e6,e7,b0,d0,b1,d1,b2,d2,ft,d100,e8,e9,bZ,cj,f1,f2,f3,f4,Nat.add_zero,nu,nt,ns,nr,p1,z1,p2,z2,p3,z3,p4,z4,p5,z5,p6,z6,p7,z7,p8,z8,p9,z9,j0,mW,jz,mV,nb,z12,na,mU,mZ,mT,mY,mS,mX,mR,oG,mq,oH];intro a ca m8 w1 w2 w3;have r8:=ae l4 (ae l7 (.inr w1));refine⟨(2,k+200+3,c4,ys++eE 1 (cI [87,101,97,107,82,101,102,101,114,101,110,99,101]) iW (.slice none 0 0) (.slice a 1 ca),r4,m8),?_,⟨ae q1 r8,(show(2:Nat)<=3 by decide),.inr (show 200<=k+200+3 by omega),?_⟩,(show 3 - 2<3 - 1 by decide)⟩
        ·simp only[go_sem,cA,List.map_nil,e0,e1,e2,e3,e4,e5,e6,e7,b0,d0,b1,d1,b2,d2,ft,d100,e8,e9,bZ,cj,f1,f2,f3,f4,Nat.add_zero,nu,nt,ns,nr,p1,z1,p2,z2,p3,z3,p4,z4,p5,z5,p6,z6,p7,z7,p8,z8,p9,z9,j0,mW,jz,mV,nb,z12,na,mU,mZ,mT,mY,mS,mX,mR,eE,cI,fM];exact rfl
        ·have:=D9 q4 r8 1 (cI [87,101,97,107,82,101,102,101,114,101,110,99,101]) iW mL 2 2 v c4 r4 (by rw[aZ,List.length_take];show us.length+2+1<=c4;exact g1) g2 (by rw[aZ,List.length_take];exact g3) w2 w3;rw[List.append_assoc] at this;exact this
       ·have h1:FnH Tryz.prog 150 [.box 0 0,.v (.string (bs [80,104,97,110,116,111,109,82,101,102,101,114,101,110,99,101])),.v (.string (bs iW)),.v (.int .i64 0)] (iI 1 (us.length+1+2) cc ys rs) mm _:=
         s6 (uX [80,104,97,110,116,111,109,82,101,102,101,114,101,110,99,101] iW 0 ⟨by decide,by decide⟩ (by decide) (us.length+1+2) cc ys rs fW Fu ⟨hle,kA⟩ (by omega) mm) (List.Perm.swap _ _ _)
        have uJ:(((2:Nat):Int)<3)=True:=eq_true (by decide);simp only[go_sem,cA,List.map_nil,e0,e1,e2,e3,e4,e5,e6,e7,b0,d0,b1,d1,b2,d2,ft,d100,e8,e9,bZ,cj,uJ,not_true_eq_false,false_implies,true_implies,and_true,true_and];refine⟨by omega,?_⟩;refine bX (.hoist 0 (.hoist 1 (.hoist 4 (.alt 2 [4] (.alt 3 [4] (.alt 5 [4] (.alt 6 [] (.alt 7 [] .done .stop) .stop) .stop) .stop) .stop)))) fK (by kernel_rfl) (by kernel_rfl) ?_;simp only[go_sem,cA,List.map_nil,e0,e1,e2,e3,e4,e5,e6,e7,b0,d0,b1,d1,b2,d2,ft,d100,e8,e9,bZ,cj];refine ak (h1.mono ?_);clear h1;rintro r H' m4 iF ⟨l4,c4,r4,g1,g2,g3,rfl,rfl⟩;simp only[go_sem,mM,cA,List.map_nil,e0,e1,e2,e3,e4,e5,e6,e7,b0,d0,b1,d1,b2,d2,ft,d100,e8,e9,bZ,cj];refine⟨⟨by omega,by omega⟩,by omega,l4,by kernel_rfl,bF ((u3 _).mono ?_)⟩;rintro r H' m5 oy ⟨rfl,rfl,rfl⟩;simp only[go_sem,cA,List.map_nil,e0,e1,e2,e3,e4,e5,e6,e7,b0,d0,b1,d1,b2,d2,ft,d100,e8,e9,bZ,cj];refine⟨l4,by kernel_rfl,bF ((wT iW mL _).mono ?_)⟩;rintro r H' m6 uy ⟨rfl,rfl,rfl⟩;simp only[go_sem,cA,List.map_nil,e0,e1,e2,e3,e4,e5,e6,e7,b0,d0,b1,d1,b2,d2,ft,d100,e8,e9,bZ,cj,f1,f2,f3,f4,Nat.add_zero,nu,nt,ns,nr,p1,z1,p2,z2,p3,z3,p4,z4,p5,z5,p6,z6,p7,z7,p8,z8,p9,z9,j0,mW,jz,mV,nb,z12,na,mU,mZ,mT,mY,mS,mX,mR];refine⟨l4,by omega,by kernel_rfl,⟨by omega,by omega⟩,bF ((xw ys _ fW 1 _ iW (.slice none 0 0) r4 mL 2 2 3 (by decide) _ _).mono ?_)⟩;rintro r H' m7 sI ⟨l7,rfl,v,rfl⟩;simp only[go_sem,cA,List.map_nil,e0,e1,e2,e3,e4,e5,e6,e7,b0,d0,b1,d1,b2,d2,ft,d100,e8,e9,bZ,cj,f1,f2,f3,f4,Nat.add_zero,nu,nt,ns,nr,p1,z1,p2,z2,p3,z3,p4,z4,p5,z5,p6,z6,p7,z7,p8,z8,p9,z9,j0,mW,jz,mV,nb,z12,na,mU,mZ,mT,mY,mS,mX,mR]
        refine⟨⟨by omega,by simp⟩,by unfold aB;omega,k+200+3,?_⟩;simp only[go_sem,cA,List.map_nil,e0,e1,e2,e3,e4,e5,e6,e7,b0,d0,b1,d1,b2,d2,ft,d100,e8,e9,bZ,cj,f1,f2,f3,f4,Nat.add_zero,nu,nt,ns,nr,p1,z1,p2,z2,p3,z3,p4,z4,p5,z5,p6,z6,p7,z7,p8,z8,p9,z9,j0,mW,jz,mV,nb,z12,na,mU,mZ,mT,mY,mS,mX,mR,oG,mq,oH];intro a ca m8 w1 w2 w3;have r8:=ae l4 (ae l7 (.inr w1));refine⟨(3,k+200+3,c4,ys++eE 1 (cI [80,104,97,110,116,111,109,82,101,102,101,114,101,110,99,101]) iW (.slice none 0 0) (.slice a 1 ca),r4,m8),?_,⟨ae q1 r8,(show(3:Nat)<=3 by decide),.inr (show 200<=k+200+3 by omega),?_⟩,(show 3 - 3<3 - 2 by decide)⟩
        ·simp only[go_sem,cA,List.map_nil,e0,e1,e2,e3,e4,e5,e6,e7,b0,d0,b1,d1,b2,d2,ft,d100,e8,e9,bZ,cj,f1,f2,f3,f4,Nat.add_zero,nu,nt,ns,nr,p1,z1,p2,z2,p3,z3,p4,z4,p5,z5,p6,z6,p7,z7,p8,z8,p9,z9,j0,mW,jz,mV,nb,z12,na,mU,mZ,mT,mY,mS,mX,mR,eE,cI,fM];exact rfl
        ·have:=D9 q4 r8 1 (cI [80,104,97,110,116,111,109,82,101,102,101,114,101,110,99,101]) iW mL 2 2 v c4 r4 (by rw[aZ,List.length_take];show us.length+3+1<=c4;exact g1) g2 (by rw[aZ,List.length_take];exact g3) w2 w3;rw[List.append_assoc] at this;exact this
       ·have uJ:(((3:Nat):Int)<3)=False:=eq_false (by decide);simp only[go_sem,cA,List.map_nil,e0,e1,e2,e3,e4,e5,e6,e7,b0,d0,b1,d1,b2,d2,ft,d100,uJ,not_true_eq_false,not_false_eq_true,false_implies,true_implies,and_true,true_and];exact⟨ae h3 q1,cc,k,ys,rs,q4,rfl⟩
 ·simp only[iI,List.mem_cons,List.not_mem_nil,or_false] at hx;rcases hx with rfl |rfl
  ·exact(by decide:(1:Nat)≠2)
  ·exact(by decide:(0:Nat)≠2)
 ·rintro r H' m' hm ⟨l,rfl,c',k,iC,bA,kW,rfl⟩;refine⟨k,us.length+4,c',107,158,iC++bA,rfl,?_,l,rfl,c',iC,bA,kW,?_⟩
  ·simp only[iI,List.map_append]
  ·simp only[iI,List.map_append]
theorem UT:cU Tryz.prog 158=some [.v (.slice none 0 0)]:=by kernel_rfl
theorem Ys:fP Tryz.prog 158=true:=by kernel_rfl
theorem Z8:iH Tryz.prog 158=24:=by kernel_rfl
attribute [go_sem] UT Ys Z8
def plM (s sup:Nm):Cm:=⟨1,cI s,sup,[],[⟨1,bB,vN⟩]⟩
theorem lf (s sup:Nm) (hs:s.length<=1000) (us:List Cm) (n:Nat) (hn:us.length=n) (hu:n<=1000) (c:Nat) (vs rest:List Value) (m:Mem) (hb:Bld m us c vs rest):
  FnH Tryz.prog 153 [.box 0 0,.v (.string (bs s)),.v (.string (bs sup))] (iI 1 n c vs rest) m
   fun r H' m' =>ah m m' /\∃(c' :Nat) (iC bA:List Value),Bld m' (us++[plM s sup]) c' iC bA/\r= .box 5 (n * 7)/\H' =iI 5 (n+1) c' iC bA:=by
 subst hn;exact OX s sup hs us hu c vs rest m hb
theorem JH (s sup:Nm) (fl:Int) (gS:0<=fl/\fl<=4096) (hs:s.length<=1000) (us:List Cm) (n c:Nat) (vs rest:List Value) (m:Mem) (hb:Bld m us c vs rest) (hn:us.length=n) (fv:n<=1000):
  FnH Tryz.prog 150 [.box 0 0,.v (.string (bs s)),.v (.string (bs sup)),.v (.int .i64 fl)] (iI 1 n c vs rest) m
   fun r H' m' =>ah m m' /\∃(c' :Nat) (bA:List Value),n+1<=c' /\c' <=maxLen/\bA.length=(c' - (n+1)) * 7/\r= .box 3 (n * 7)/\H' =⟨[⟨3,107,(vs++mM (1+fl) ([108,97,110,103,47]++s) sup).map .v++bA.map .v⟩,dA (.sl 3 (n+1) c')],[]⟩:=by
 subst hn;exact s6 (uX s sup fl gS hs us.length c vs rest hb.vl hb.rl ⟨hb.le,hb.cm⟩ fv m) (List.Perm.swap _ _ _)
@[reducible] def kSt (k nid n c:Nat) (vs rest:List Value) (m:Mem):LS:=⟨[⟨1,[],.box 0 0⟩],[],[⟨k,107,vs.map .v++rest.map .v⟩,dA (.sl k n c)],[],nid,m⟩
attribute [go_sem] kSt
def WN:List (Nm×Nm):=[([119,97,105,116],vN),([110,111,116,105,102,121],vN),([110,111,116,105,102,121,65,108,108],vN)]
def WS:List (Nm×Nm):=[([108,101,110,103,116,104],[40,41,73]),([97,116],[40,73,41,73])]
def EF (v:Value):List Value:=[.int .i64 1,.string (bs [114,117,110]),.string (bs vN),.bool true,.int .i64 0,.int .i64 1,E6 v,.slice none 0 0,.slice none 0 0,.slice none 0 0,.slice none 0 0]
def SN:List (Nm×Nm):=[([115,116,97,114,116],vN)]
theorem MW (s sup:Nm) (hs:s.length<=1000) (us:List Cm) (n c:Nat) (vs rest:List Value) (m:Mem) (hb:Bld m us c vs rest) (hn:us.length=n) (fv:n<=1000):
  FnH Tryz.prog 153 [.box 0 0,.v (.string (bs s)),.v (.string (bs sup))] (iI 1 n c vs rest) m
   fun r H' m' =>ah m m' /\∃(c' :Nat) (bA:List Value) (v:Value),n+1<=c' /\c' <=maxLen/\bA.length=(c' - (n+1)) * 7/\r= .box 5 (n * 7)/\
    H' =⟨[eJ 5 vs 1 (cI s) sup (.slice none 0 0) (.vec 11 0) bA,dA (.sl 5 (n+1) c')],[⟨11,0,176,11,1,kB vN 1 1 v⟩]⟩:=by
 subst hn;exact s6 (Hj s sup hs us.length c vs rest hb.vl hb.rl ⟨hb.le,hb.cm⟩ fv m) (List.Perm.swap _ _ _)
def CN:List (Nm×Nm):=[([112,114,105,110,116,73,110,116],[40,73,41,86]),([112,114,105,110,116,83,116,114,105,110,103],[40,76,108,97,110,103,47,83,116,114,105,110,103,59,41,86]),([112,114,105,110,116,76,111,110,103],[40,74,41,86])]
theorem Sp (us:List Cm) (n:Nat) (hn:us.length=n) (hu:n<=900) (c:Nat) (vs rest:List Value) (m:Mem) (hb:Bld m us c vs rest):
  FnH Tryz.prog 154 [.box 0 0] (iI 1 n c vs rest) m
   fun r H' m' =>ah m m' /\r= .tup []/\∃(c' :Nat) (iC bA:List Value),Bld m' (us++tr) c' iC bA/\H' =iI 2 (n+4) c' iC bA:=by
 subst hn;exact Qm us hu c vs rest m hb
theorem AR {m m' :Mem} {us:List Cm} {c0:Nat} {vs KQ:List Value} (h:Bld m us c0 vs KQ) (hle:ah m m') (fl:Int) (nm sup:Nm) (ms:List Mb) (n:Nat) (hn:ms.length=n) (xm:List Value) (c' :Nat) (bA:List Value) (h1:us.length+1<=c') (h2:c' <=maxLen) (h3:bA.length=(c' - (us.length+1)) * 7) {a:Option Addr} {ca:Nat} (ha:n<=ca) (hr:ax m' a n 11 xm) (hx:eu (Ba 8) 11 ms xm):
  Bld m' (us++[⟨fl,nm,sup,[],ms⟩]) c' (vs++eE fl nm sup (.slice none 0 0) (.slice a n ca)) bA:=by
 subst hn;refine⟨vt (l2:=[(⟨fl,nm,sup,[],ms⟩:Cm)]) ⟨⟨none,a,0,ca,[],_,rfl,⟨aA _,ha⟩,⟨⟨rfl,fun h=>absurd h (Nat.lt_irrefl 0)⟩,trivial⟩,hr,hx⟩,trivial⟩ h.vl (iT (fun _ _=>sZ hle) h.rep),?_,?_,?_,h2⟩
 ·rw[aZ,h.vl,aZ];simp only[eE,cQ,mb];omega
 ·rw[aZ];exact h3
 ·rw[aZ];exact h1
set_option maxHeartbeats 8000000 in
theorem Nl (m:Mem):FnH Tryz.prog 65 [] ⟨[],[]⟩ m
  fun r H' m' =>ah m m' /\∃(k c:Nat) (vs rest:List Value),Bld m' cZ c vs rest/\r= .sl k 21 c/\H' =⟨[⟨k,107,vs.map .v++rest.map .v⟩],[]⟩:=by
 refine El Tryz.func65 rfl rfl (aU rfl) ?_ ?_
 ·simp only[go_sem]
 ·refine mA (fun _:Unit=>⟨[],[],[],[],0,m⟩) (fun _=>True) (fun _ _=>aU rfl) (fun _ _=> .inl rfl) (fun _=> ?_) (gi fK (by kernel_rfl) ?_) fun _ _=> ?_
  ·simp only[go_sem]
  ·simp only[go_sem];exact⟨(),trivial⟩
  ·refine mA (fun _:Unit=>⟨[⟨1,[],.box 0 0⟩],[],[⟨0,158,[.v (.slice none 0 0)]⟩],[],10,m⟩) (fun _=>True) (fun _ _=>aU rfl) (fun _ _=> .inl rfl) (fun _=> ?_) (gi fK (by kernel_rfl) ?_) fun _ _=> ?_
   ·simp only[go_sem]
   ·simp only[go_sem];exact⟨(),trivial⟩
   ·refine mA (fun y:Nat×List Value×Mem=>⟨[⟨1,[],.box 0 0⟩,⟨2,[],.box 12 0⟩],[],[eJ 12 [] 1 aS [] (.slice none 0 0) (.v (.slice none 0 0)) y.2.1,dA (.sl 12 1 y.1)],[],20,y.2.2⟩)
     (fun y=>ah m y.2.2/\1<=y.1/\y.1<=maxLen/\y.2.1.length=(y.1 - 1) * 7) (fun _ _=>aU rfl) (fun y hy=>hy.1) (fun _=> ?_) (gi fK (by kernel_rfl) ?_) ?_
    ·simp only[go_sem]
    ·simp only[go_sem];refine ak ((No [79,98,106,101,99,116] [] 0 ⟨by decide,by decide⟩ (by decide) m).mono ?_);rintro r H' m1 aQ ⟨l1,c',bA,g1,g2,g3,rfl,rfl⟩;simp only[go_sem,mM];exact⟨(c',bA,m1),⟨⟨⟨rfl,rfl,rfl⟩,rfl⟩,.inl rfl⟩,l1,g1,g2,g3⟩
    ·rintro⟨c',bA,m1⟩ ⟨l1,g1,g2,g3⟩;dsimp only at l1 g1 g2 g3;refine mA (fun y:Value×Mem=>⟨[⟨1,[],.box 0 0⟩,⟨2,[],.box 12 0⟩],[],[eJ 12 [] 1 aS [] (.slice none 0 0) (.vec 24 0) bA,dA (.sl 12 1 c')],[⟨24,0,176,11,1,kB vN 0 1 y.1⟩],30,y.2⟩)
      (fun y=>ah m1 y.2) (fun _ _=>aU rfl) (fun y hy=>hy) (fun _=> ?_) (gi fK (by kernel_rfl) ?_) ?_
     ·simp only[go_sem]
     ·simp only[go_sem];refine ak ((RF [] 0 rfl 1 aS [] (.slice none 0 0) bA vN 0 1 m1).mono ?_);rintro r H' m2 aJ ⟨l2,rfl,v,rfl⟩;simp only[go_sem];exact⟨(v,m2),⟨rfl,.inl rfl⟩,l2⟩
     ·rintro⟨v,m2⟩ l2;dsimp only at l2;refine vn 12 (fun y:Option Addr×Nat×Mem=>⟨[⟨1,[],.box 0 0⟩],[],[eJ 12 [] 1 aS [] (.slice none 0 0) (.v (.slice y.1 4 y.2.1)) bA,dA (.sl 12 1 c')],[],40,y.2.2⟩)
       (fun y=>ah m2 y.2.2/\4<=y.2.1/\ax y.2.2 y.1 4 11 (kB vN 0 1 v++(WN.map (rV 16)).flatten)) (fun _ _=>aU rfl) (fun y hy=>hy.1) (fun _=> ?_) (gi fK (by kernel_rfl) ?_) ?_
      ·simp only[go_sem]
      ·simp only[go_sem];refine⟨by kernel_rfl,fun a ca m3 w1 w2 w3=>bF ((Gl [] 0 rfl 1 aS [] (.slice none 0 0) bA 0 1 (kB vN 0 1 v) (by decide) rfl 16 ⟨by decide,by decide⟩ WN (by decide) a ca m3 w3).mono ?_)⟩;rintro r H' m4 iF ⟨l4,rfl,rfl⟩;simp only[go_sem,oG,mq,oH];exact⟨by decide,fun a cc m6 z1 z2 z3=>⟨(a,cc,m6),⟨rfl,.inl rfl⟩,ae (.inr w1) (ae l4 (.inr z1)),z2,z3⟩⟩
      ·rintro⟨ma,mc,m5⟩ ⟨l5,g5,g6⟩;dsimp only at l5 g5 g6;have hB:Bld m5 ([]++[⟨1,aS,[],[],[⟨1,bB,vN⟩,⟨273,[119,97,105,116],vN⟩,⟨273,[110,111,116,105,102,121],vN⟩,⟨273,[110,111,116,105,102,121,65,108,108],vN⟩]⟩]) c' ([]++eE 1 aS [] (.slice none 0 0) (.slice ma 4 mc)) bA:=
        AR (c0:=0) (KQ:=[]) (vs:=[]) (us:=[]) (m:=m) ⟨trivial,rfl,rfl,aA _,aF _⟩ (ae l1 (ae l2 l5)) 1 aS [] _ 4 rfl _ c' bA g1 g2 g3 g5 g6 ⟨⟨_,rfl,rfl,by first |rfl |exact jx _ _ _ _ (jm _)⟩,⟨_,rfl,rfl,by first |rfl |exact jx _ _ _ _ (jm _)⟩,⟨_,rfl,rfl,by first |rfl |exact jx _ _ _ _ (jm _)⟩,⟨_,rfl,rfl,by first |rfl |exact jx _ _ _ _ (jm _)⟩,trivial⟩
       rw[ve];have hl:ah m m5:=ae l1 (ae l2 l5);clear g1 g2 g3 g5 g6 l1 l2 l5;revert hB;generalize ([]:List Value)++eE 1 aS [] (.slice none 0 0) (.slice ma 4 mc)=vs
       intro hB;have du:Bld m5 (cZ.take 1) c' vs bA:=hB;clear hB;have hB:=du;clear du;have h1:=JH [83,116,114,105,110,103] aS 16 ⟨by decide,by decide⟩ (by decide) (cZ.take 1) 1 c' vs bA m5 hB rfl (by decide);refine vn 43 (fun y:Nat×List Value×Option Addr×Nat×Mem=>⟨[⟨1,[],.box 0 0⟩],[],[eJ 43 vs 17 (cI [83,116,114,105,110,103]) aS (.slice none 0 0) (.v (.slice y.2.2.1 2 y.2.2.2.1)) y.2.1,dA (.sl 43 2 y.1)],[],50,y.2.2.2.2⟩)
        (fun y=>ah m5 y.2.2.2.2/\(2<=y.1/\y.1<=maxLen/\y.2.1.length=(y.1 - 2) * 7)/\2<=y.2.2.2.1/\ax y.2.2.2.2 y.2.2.1 2 11 (WS.map (rV 0)).flatten) (fun _ _=>aU rfl) (fun y hy=>hy.1) (fun _=> ?_) (gi fK (by kernel_rfl) ?_) ?_
       ·simp only[go_sem]
       ·simp only[go_sem];refine ak (h1.mono ?_);clear h1;rintro r H' m1 aQ ⟨l1,c1,r1,g1,g2,g3,rfl,rfl⟩;simp only[go_sem,mM,cI,List.map_nil];refine⟨by kernel_rfl,fun a ca m3 w1 w2 w3=>bF ((Gm vs 7 hB.vl 17 (cI [83,116,114,105,110,103]) aS (.slice none 0 0) r1 0 ⟨by decide,by decide⟩ WS (by decide) a ca m3 w3).mono ?_)⟩;rintro r H' m4 iF ⟨l4,rfl,rfl⟩;simp only[go_sem,oG,mq,oH,cI,List.map_nil];exact fun a cc m6 z1 z2 z3=>⟨(c1,r1,a,cc,m6),⟨⟨rfl,rfl⟩,.inl rfl⟩,ae l1 (ae (.inr w1) (ae l4 (.inr z1))),⟨g1,g2,g3⟩,z2,z3⟩
       ·rintro⟨c1,r1,ma,mc,m5⟩ ⟨l5,⟨g1,g2,g3⟩,g5,g6⟩;dsimp only at l5 g1 g2 g3 g5 g6;have du:Bld m5 (cZ.take 1++[⟨17,cI [83,116,114,105,110,103],aS,[],[⟨257,[108,101,110,103,116,104],[40,41,73]⟩,⟨257,[97,116],[40,73,41,73]⟩]⟩]) c1 (vs++eE 17 (cI [83,116,114,105,110,103]) aS (.slice none 0 0) (.slice ma 2 mc)) r1:=
         AR hB l5 17 _ aS _ 2 rfl _ c1 r1 g1 g2 g3 g5 g6 ⟨⟨_,rfl,rfl,by first |rfl |exact jx _ _ _ _ (jm _)⟩,⟨_,rfl,rfl,by first |rfl |exact jx _ _ _ _ (jm _)⟩,trivial⟩
        rw[ve];have bE:ah m m5:=ae hl l5;clear g1 g2 g3 g5 g6 l5 hB hl h1;revert du;generalize vs++eE 17 (cI [83,116,114,105,110,103]) aS (.slice none 0 0) (.slice ma 2 mc)=fJ
        intro du;have hB:Bld m5 (cZ.take 2) c1 fJ r1:=du;have hl:=bE;clear du bE;have h1:=lf [84,104,114,111,119,97,98,108,101] aS (by decide) (cZ.take 2) 2 rfl (by decide) c1 fJ r1 m5 hB;refine mA (fun y:Nat×List Value×List Value×Mem=>⟨[⟨1,[],.box 0 0⟩],[],[⟨55,107,y.2.1.map .v++y.2.2.1.map .v⟩,dA (.sl 55 3 y.1)],[],60,y.2.2.2⟩)
         (fun y=>ah m5 y.2.2.2/\Bld y.2.2.2 (cZ.take 3) y.1 y.2.1 y.2.2.1) (fun _ _=>aU rfl) (fun y hy=>hy.1) (fun _=> ?_) (gi fK (by kernel_rfl) ?_) ?_
        ·simp only[go_sem]
        ·simp only[go_sem];refine ak (h1.mono ?_);clear h1;rintro r H' m1 aQ ⟨l1,c1,v1,r1,g1,rfl,rfl⟩;simp only[go_sem];exact⟨(c1,v1,r1,m1),⟨⟨rfl,rfl⟩,.inl rfl⟩,l1,g1⟩
        ·rintro⟨c1,fJ,r1,m5⟩ ⟨l5,du⟩;dsimp only at l5 du;have bE:=ae hl l5;clear l5 hB hl h1;have hB:=du;have hl:=bE;clear du bE;have h1:=lf [69,114,114,111,114] iU (by decide) (cZ.take 3) 3 rfl (by decide) c1 fJ r1 m5 hB;refine mA (fun y:Nat×List Value×List Value×Mem=>⟨[⟨1,[],.box 0 0⟩],[],[⟨65,107,y.2.1.map .v++y.2.2.1.map .v⟩,dA (.sl 65 4 y.1)],[],66,y.2.2.2⟩)
          (fun y=>ah m5 y.2.2.2/\Bld y.2.2.2 (cZ.take 4) y.1 y.2.1 y.2.2.1) (fun _ _=>aU rfl) (fun y hy=>hy.1) (fun _=> ?_) (gi fK (by kernel_rfl) ?_) ?_
         ·simp only[go_sem]
         ·simp only[go_sem];refine ak (h1.mono ?_);clear h1;rintro r H' m1 aQ ⟨l1,c1,v1,r1,g1,rfl,rfl⟩;simp only[go_sem];exact⟨(c1,v1,r1,m1),⟨⟨rfl,rfl⟩,.inl rfl⟩,l1,g1⟩
         ·rintro⟨c1,fJ,r1,m5⟩ ⟨l5,du⟩;dsimp only at l5 du;have bE:=ae hl l5;clear l5 hB hl h1;have hB:=du;have hl:=bE;clear du bE;refine mA (fun y:Nat×List Value×List Value×Mem=>⟨[⟨1,[],.box 0 0⟩],[],[⟨135,107,y.2.1.map .v++y.2.2.1.map .v⟩,dA (.sl 135 11 y.1)],[],136,y.2.2.2⟩)
           (fun y=>ah m5 y.2.2.2/\Bld y.2.2.2 (cZ.take 11) y.1 y.2.1 y.2.2.1) (fun _ _=>aU rfl) (fun y hy=>hy.1) (fun _=> ?_) (gi fK (by kernel_rfl) ?_) ?_
          ·simp only[go_sem]
          ·simp only[go_sem]
           refine ct fK (fun x:Nat×Nat×List Value×List Value×Mem=>⟨[⟨25,[],.vec 66 0⟩,⟨26,[],.v (.int .i64 7)⟩,⟨27,[],.v (.int .i64 x.1)⟩,⟨1,[],.box 0 0⟩],[],[⟨65+10 * x.1,107,x.2.2.1.map .v++x.2.2.2.1.map .v⟩,dA (.sl (65+10 * x.1) (4+x.1) x.2.1)],
             [⟨66,0,9,1,7,[.string (bs [78,117,108,108,80,111,105,110,116,101,114,69,120,99,101,112,116,105,111,110]),.string (bs [73,110,100,101,120,79,117,116,79,102,66,111,117,110,100,115,69,120,99,101,112,116,105,111,110]),.string (bs [65,114,105,116,104,109,101,116,105,99,69,120,99,101,112,116,105,111,110]),.string (bs [65,114,114,97,121,83,116,111,114,101,69,120,99,101,112,116,105,111,110]),.string (bs [67,108,97,115,115,67,97,115,116,69,120,99,101,112,116,105,111,110]),.string (bs [65,114,114,97,121,83,105,122,101,69,120,99,101,112,116,105,111,110]),.string (bs [73,108,108,101,103,97,108,77,111,110,105,116,111,114,83,116,97,116,101,69,120,99,101,112,116,105,111,110])]⟩],70+10 * x.1,x.2.2.2.2⟩)
            (fun x=>ah m5 x.2.2.2.2/\x.1<=7/\Bld x.2.2.2.2 (cZ.take (4+x.1)) x.2.1 x.2.2.1 x.2.2.2.1) (fun x=>7 - x.1) (0,c1,fJ,r1,m5) (by kernel_rfl) (fun x hx=> ?_) (fun x hx=>hx.1) (fun x=> ?_) ?_ ?_ ?_
           ·show 67<=70+10 * x.1;omega
           ·simp only[go_sem];omega
           ·simp only[go_sem];exact⟨rfl,rfl⟩
           ·exact⟨.inl rfl,aF _,hB⟩
           ·rintro⟨i,c2,v2,r2,m2⟩ ⟨q1,q2,q3⟩;dsimp only at q1 q2 q3;have hi:i=0\/i=1\/i=2\/i=3\/i=4\/i=5\/i=6\/i=7:=by omega
            clear hB;rcases hi with rfl |rfl |rfl |rfl |rfl |rfl |rfl |rfl
            ·have h1:=lf [78,117,108,108,80,111,105,110,116,101,114,69,120,99,101,112,116,105,111,110] iU (by decide) (cZ.take 4) 4 rfl (by decide) c2 v2 r2 m2 q3;have hj:((0:Nat):Int)=0:=rfl;have h7:((7:Nat):Int)=7:=rfl;simp only[go_sem,hj,h7];refine⟨fun _=>⟨by decide,by kernel_rfl,bF (h1.mono ?_)⟩,fun hq=>absurd (by decide) hq⟩;clear h1;rintro r H' m3 dx ⟨l3,c3,v3,r3,g3,rfl,rfl⟩;simp only[go_sem,hj,h7];exact⟨by unfold aB;omega,(1,c3,v3,r3,m3),⟨rfl,⟨rfl,rfl,rfl⟩,.inl rfl⟩,⟨ae q1 l3,(show 1<=7 by decide),g3⟩,(show 7 - 1<7 - 0 by decide)⟩
            ·have h1:=lf [73,110,100,101,120,79,117,116,79,102,66,111,117,110,100,115,69,120,99,101,112,116,105,111,110] iU (by decide) (cZ.take 5) 5 rfl (by decide) c2 v2 r2 m2 q3;have hj:((1:Nat):Int)=1:=rfl;have h7:((7:Nat):Int)=7:=rfl;simp only[go_sem,hj,h7];refine⟨fun _=>⟨by decide,by kernel_rfl,bF (h1.mono ?_)⟩,fun hq=>absurd (by decide) hq⟩;clear h1;rintro r H' m3 dx ⟨l3,c3,v3,r3,g3,rfl,rfl⟩;simp only[go_sem,hj,h7];exact⟨by unfold aB;omega,(2,c3,v3,r3,m3),⟨rfl,⟨rfl,rfl,rfl⟩,.inl rfl⟩,⟨ae q1 l3,(show 2<=7 by decide),g3⟩,(show 7 - 2<7 - 1 by decide)⟩
            ·have h1:=lf [65,114,105,116,104,109,101,116,105,99,69,120,99,101,112,116,105,111,110] iU (by decide) (cZ.take 6) 6 rfl (by decide) c2 v2 r2 m2 q3;have hj:((2:Nat):Int)=2:=rfl;have h7:((7:Nat):Int)=7:=rfl;simp only[go_sem,hj,h7];refine⟨fun _=>⟨by decide,by kernel_rfl,bF (h1.mono ?_)⟩,fun hq=>absurd (by decide) hq⟩;clear h1;rintro r H' m3 dx ⟨l3,c3,v3,r3,g3,rfl,rfl⟩;simp only[go_sem,hj,h7];exact⟨by unfold aB;omega,(3,c3,v3,r3,m3),⟨rfl,⟨rfl,rfl,rfl⟩,.inl rfl⟩,⟨ae q1 l3,(show 3<=7 by decide),g3⟩,(show 7 - 3<7 - 2 by decide)⟩
            ·have h1:=lf [65,114,114,97,121,83,116,111,114,101,69,120,99,101,112,116,105,111,110] iU (by decide) (cZ.take 7) 7 rfl (by decide) c2 v2 r2 m2 q3;have hj:((3:Nat):Int)=3:=rfl;have h7:((7:Nat):Int)=7:=rfl;simp only[go_sem,hj,h7];refine⟨fun _=>⟨by decide,by kernel_rfl,bF (h1.mono ?_)⟩,fun hq=>absurd (by decide) hq⟩;clear h1;rintro r H' m3 dx ⟨l3,c3,v3,r3,g3,rfl,rfl⟩;simp only[go_sem,hj,h7];exact⟨by unfold aB;omega,(4,c3,v3,r3,m3),⟨rfl,⟨rfl,rfl,rfl⟩,.inl rfl⟩,⟨ae q1 l3,(show 4<=7 by decide),g3⟩,(show 7 - 4<7 - 3 by decide)⟩
            ·have h1:=lf [67,108,97,115,115,67,97,115,116,69,120,99,101,112,116,105,111,110] iU (by decide) (cZ.take 8) 8 rfl (by decide) c2 v2 r2 m2 q3;have hj:((4:Nat):Int)=4:=rfl;have h7:((7:Nat):Int)=7:=rfl;simp only[go_sem,hj,h7];refine⟨fun _=>⟨by decide,by kernel_rfl,bF (h1.mono ?_)⟩,fun hq=>absurd (by decide) hq⟩;clear h1;rintro r H' m3 dx ⟨l3,c3,v3,r3,g3,rfl,rfl⟩;simp only[go_sem,hj,h7];exact⟨by unfold aB;omega,(5,c3,v3,r3,m3),⟨rfl,⟨rfl,rfl,rfl⟩,.inl rfl⟩,⟨ae q1 l3,(show 5<=7 by decide),g3⟩,(show 7 - 5<7 - 4 by decide)⟩
            ·have h1:=lf [65,114,114,97,121,83,105,122,101,69,120,99,101,112,116,105,111,110] iU (by decide) (cZ.take 9) 9 rfl (by decide) c2 v2 r2 m2 q3;have hj:((5:Nat):Int)=5:=rfl;have h7:((7:Nat):Int)=7:=rfl;simp only[go_sem,hj,h7];refine⟨fun _=>⟨by decide,by kernel_rfl,bF (h1.mono ?_)⟩,fun hq=>absurd (by decide) hq⟩;clear h1;rintro r H' m3 dx ⟨l3,c3,v3,r3,g3,rfl,rfl⟩;simp only[go_sem,hj,h7];exact⟨by unfold aB;omega,(6,c3,v3,r3,m3),⟨rfl,⟨rfl,rfl,rfl⟩,.inl rfl⟩,⟨ae q1 l3,(show 6<=7 by decide),g3⟩,(show 7 - 6<7 - 5 by decide)⟩
            ·have h1:=lf [73,108,108,101,103,97,108,77,111,110,105,116,111,114,83,116,97,116,101,69,120,99,101,112,116,105,111,110] iU (by decide) (cZ.take 10) 10 rfl (by decide) c2 v2 r2 m2 q3;have hj:((6:Nat):Int)=6:=rfl;have h7:((7:Nat):Int)=7:=rfl;simp only[go_sem,hj,h7];refine⟨fun _=>⟨by decide,by kernel_rfl,bF (h1.mono ?_)⟩,fun hq=>absurd (by decide) hq⟩;clear h1;rintro r H' m3 dx ⟨l3,c3,v3,r3,g3,rfl,rfl⟩;simp only[go_sem,hj,h7];exact⟨by unfold aB;omega,(7,c3,v3,r3,m3),⟨rfl,⟨rfl,rfl,rfl⟩,.inl rfl⟩,⟨ae q1 l3,(show 7<=7 by decide),g3⟩,(show 7 - 7<7 - 6 by decide)⟩
            ·have hj:((7:Nat):Int)=7:=rfl;have hq:((7:Int)<7)=False:=eq_false (by decide);simp only[go_sem,hj,hq,not_true_eq_false,not_false_eq_true,false_implies,true_implies,and_true,true_and];exact⟨(c2,v2,r2,m2),⟨⟨rfl,rfl⟩,.inl rfl⟩,q1,q3⟩
          ·rintro⟨c1,fJ,r1,m5⟩ ⟨l5,du⟩;dsimp only at l5 du;have bE:=ae hl l5;clear l5 hB hl;have hB:=du;have hl:=bE;clear du bE;refine mA (fun y:Nat×List Value×List Value×Mem=>⟨[⟨1,[],.box 0 0⟩],[],[⟨175,107,y.2.1.map .v++y.2.2.1.map .v⟩,dA (.sl 175 15 y.1)],[],176,y.2.2.2⟩)
            (fun y=>ah m5 y.2.2.2/\Bld y.2.2.2 (cZ.take 15) y.1 y.2.1 y.2.2.1) (fun _ _=>aU rfl) (fun y hy=>hy.1) (fun _=> ?_) (gi fK (by kernel_rfl) ?_) ?_
           ·simp only[go_sem]
           ·simp only[go_sem]
            refine ct fK (fun x:Nat×Nat×List Value×List Value×Mem=>⟨[⟨35,[],.vec 136 0⟩,⟨36,[],.v (.int .i64 4)⟩,⟨37,[],.v (.int .i64 x.1)⟩,⟨1,[],.box 0 0⟩],[],[⟨135+10 * x.1,107,x.2.2.1.map .v++x.2.2.2.1.map .v⟩,dA (.sl (135+10 * x.1) (11+x.1) x.2.1)],
              [⟨136,0,9,1,4,[.string (bs [76,105,110,107,97,103,101,69,114,114,111,114]),.string (bs [73,110,105,116,105,97,108,105,122,101,114,69,114,114,111,114]),.string (bs [79,117,116,79,102,77,101,109,111,114,121,69,114,114,111,114]),.string (bs [83,116,97,99,107,79,118,101,114,102,108,111,119,69,114,114,111,114])]⟩],140+10 * x.1,x.2.2.2.2⟩)
             (fun x=>ah m5 x.2.2.2.2/\x.1<=4/\Bld x.2.2.2.2 (cZ.take (11+x.1)) x.2.1 x.2.2.1 x.2.2.2.1) (fun x=>4 - x.1) (0,c1,fJ,r1,m5) (by kernel_rfl) (fun x hx=> ?_) (fun x hx=>hx.1) (fun x=> ?_) ?_ ?_ ?_
            ·show 137<=140+10 * x.1;omega
            ·simp only[go_sem];omega
            ·simp only[go_sem];exact⟨rfl,rfl⟩
            ·exact⟨.inl rfl,aF _,hB⟩
            ·rintro⟨i,c2,v2,r2,m2⟩ ⟨q1,q2,q3⟩;dsimp only at q1 q2 q3;have hi:i=0\/i=1\/i=2\/i=3\/i=4:=by omega
             clear hB;rcases hi with rfl |rfl |rfl |rfl |rfl
             ·have h1:=lf [76,105,110,107,97,103,101,69,114,114,111,114] [108,97,110,103,47,69,114,114,111,114] (by decide) (cZ.take 11) 11 rfl (by decide) c2 v2 r2 m2 q3;have hj:((0:Nat):Int)=0:=rfl;have h7:((4:Nat):Int)=4:=rfl;simp only[go_sem,hj,h7];refine⟨fun _=>⟨by decide,by kernel_rfl,bF (h1.mono ?_)⟩,fun hq=>absurd (by decide) hq⟩;clear h1;rintro r H' m3 dx ⟨l3,c3,v3,r3,g3,rfl,rfl⟩;simp only[go_sem,hj,h7];exact⟨by unfold aB;omega,(1,c3,v3,r3,m3),⟨rfl,⟨rfl,rfl,rfl⟩,.inl rfl⟩,⟨ae q1 l3,(show 1<=4 by decide),g3⟩,(show 4 - 1<4 - 0 by decide)⟩
             ·have h1:=lf [73,110,105,116,105,97,108,105,122,101,114,69,114,114,111,114] [108,97,110,103,47,69,114,114,111,114] (by decide) (cZ.take 12) 12 rfl (by decide) c2 v2 r2 m2 q3;have hj:((1:Nat):Int)=1:=rfl;have h7:((4:Nat):Int)=4:=rfl;simp only[go_sem,hj,h7];refine⟨fun _=>⟨by decide,by kernel_rfl,bF (h1.mono ?_)⟩,fun hq=>absurd (by decide) hq⟩;clear h1;rintro r H' m3 dx ⟨l3,c3,v3,r3,g3,rfl,rfl⟩;simp only[go_sem,hj,h7];exact⟨by unfold aB;omega,(2,c3,v3,r3,m3),⟨rfl,⟨rfl,rfl,rfl⟩,.inl rfl⟩,⟨ae q1 l3,(show 2<=4 by decide),g3⟩,(show 4 - 2<4 - 1 by decide)⟩
             ·have h1:=lf [79,117,116,79,102,77,101,109,111,114,121,69,114,114,111,114] [108,97,110,103,47,69,114,114,111,114] (by decide) (cZ.take 13) 13 rfl (by decide) c2 v2 r2 m2 q3;have hj:((2:Nat):Int)=2:=rfl;have h7:((4:Nat):Int)=4:=rfl;simp only[go_sem,hj,h7];refine⟨fun _=>⟨by decide,by kernel_rfl,bF (h1.mono ?_)⟩,fun hq=>absurd (by decide) hq⟩;clear h1;rintro r H' m3 dx ⟨l3,c3,v3,r3,g3,rfl,rfl⟩;simp only[go_sem,hj,h7];exact⟨by unfold aB;omega,(3,c3,v3,r3,m3),⟨rfl,⟨rfl,rfl,rfl⟩,.inl rfl⟩,⟨ae q1 l3,(show 3<=4 by decide),g3⟩,(show 4 - 3<4 - 2 by decide)⟩
             ·have h1:=lf [83,116,97,99,107,79,118,101,114,102,108,111,119,69,114,114,111,114] [108,97,110,103,47,69,114,114,111,114] (by decide) (cZ.take 14) 14 rfl (by decide) c2 v2 r2 m2 q3;have hj:((3:Nat):Int)=3:=rfl;have h7:((4:Nat):Int)=4:=rfl;simp only[go_sem,hj,h7];refine⟨fun _=>⟨by decide,by kernel_rfl,bF (h1.mono ?_)⟩,fun hq=>absurd (by decide) hq⟩;clear h1;rintro r H' m3 dx ⟨l3,c3,v3,r3,g3,rfl,rfl⟩;simp only[go_sem,hj,h7];exact⟨by unfold aB;omega,(4,c3,v3,r3,m3),⟨rfl,⟨rfl,rfl,rfl⟩,.inl rfl⟩,⟨ae q1 l3,(show 4<=4 by decide),g3⟩,(show 4 - 4<4 - 3 by decide)⟩
             ·have hj:((4:Nat):Int)=4:=rfl;have hq:((4:Int)<4)=False:=eq_false (by decide);simp only[go_sem,hj,hq,not_true_eq_false,not_false_eq_true,false_implies,true_implies,and_true,true_and];exact⟨(c2,v2,r2,m2),⟨⟨rfl,rfl⟩,.inl rfl⟩,q1,q3⟩
           ·rintro⟨c1,fJ,r1,m5⟩ ⟨l5,du⟩;dsimp only at l5 du;have bE:=ae hl l5;clear l5 hB hl;have hB:=du;have hl:=bE;clear du bE;have h1:=MW [84,104,114,101,97,100] aS (by decide) (cZ.take 15) 15 c1 fJ r1 m5 hB rfl (by decide);refine mA (fun y:Nat×List Value×Value×Mem=>⟨[⟨1,[],.box 0 0⟩,⟨7,[],.box 181 105⟩],[],[eJ 181 fJ 1 (cI [84,104,114,101,97,100]) aS (.slice none 0 0) (.vec 187 0) y.2.1,dA (.sl 181 16 y.1)],[⟨187,0,176,11,1,kB vN 1 1 y.2.2.1⟩],190,y.2.2.2⟩)
             (fun y=>ah m5 y.2.2.2/\16<=y.1/\y.1<=maxLen/\y.2.1.length=(y.1 - 16) * 7) (fun _ _=>aU rfl) (fun y hy=>hy.1) (fun _=> ?_) (gi fK (by kernel_rfl) ?_) ?_
            ·simp only[go_sem]
            ·simp only[go_sem];refine ak (h1.mono ?_);clear h1;rintro r H' m1 aQ ⟨l1,c1,r1,v1,g1,g2,g3,rfl,rfl⟩;simp only[go_sem,cI];exact⟨(c1,r1,v1,m1),⟨⟨rfl,rfl⟩,rfl,.inl rfl⟩,l1,g1,g2,g3⟩
            ·rintro⟨c1,r1,v1,m1⟩ ⟨l1,g1,g2,g3⟩;dsimp only at l1 g1 g2 g3;clear h1;refine mA (fun y:Value×Mem=>⟨[⟨1,[],.box 0 0⟩,⟨7,[],.box 181 105⟩],[],[eJ 181 fJ 1 (cI [84,104,114,101,97,100]) aS (.slice none 0 0) (.vec 187 1) r1,dA (.sl 181 16 c1)],[⟨187,1,176,11,2,kB vN 1 1 v1++EF y.1⟩],210,y.2⟩)
              (fun y=>ah m1 y.2) (fun _ _=>aU rfl) (fun y hy=>hy) (fun _=> ?_) (gi fK (by kernel_rfl) ?_) ?_
             ·simp only[go_sem]
             ·have hg:∀r:List SV,(fJ.map SV.v++r)[110]? =r[5]? :=fun r=>tj (show fJ.length=105 from hB.vl) r 5
              have eG:∀(r:List SV) (x:SV),(fJ.map SV.v++r).set 110 x=fJ.map SV.v++r.set 5 x:=fun r x=>tf (show fJ.length=105 from hB.vl) r 5 x
              simp only[go_sem,hg,eG];refine fun a cc m3 z1 z2 z3=>⟨jq (by decide) (by decide),?_,(.slice a 1 cc,m3),⟨rfl,.inl rfl⟩,.inr z1⟩
              rw[aZ,List.length_map,hB.vl];simp only[cQ];show _<=105+_;omega
             ·rintro⟨v2,m2⟩ l2;dsimp only at l2;refine vn 181 (fun y:Option Addr×Nat×Mem=>⟨[⟨1,[],.box 0 0⟩],[],[eJ 181 fJ 1 (cI [84,104,114,101,97,100]) aS (.slice none 0 0) (.v (.slice y.1 3 y.2.1)) r1,dA (.sl 181 16 c1)],[],230,y.2.2⟩)
               (fun y=>ah m2 y.2.2/\3<=y.2.1/\ax y.2.2 y.1 3 11 (kB vN 1 1 v1++EF v2++(SN.map (rV 0)).flatten)) (fun _ _=>aU rfl) (fun y hy=>hy.1) (fun _=> ?_) (gi fK (by kernel_rfl) ?_) ?_
              ·simp only[go_sem]
              ·simp only[go_sem];refine⟨by kernel_rfl,fun a ca m3 w1 w2 w3=>bF ((Gl fJ 105 hB.vl 1 (cI [84,104,114,101,97,100]) aS (.slice none 0 0) r1 1 2 (kB vN 1 1 v1++EF v2) (by decide) rfl 0 ⟨by decide,by decide⟩ SN (by decide) a ca m3 w3).mono ?_)⟩;rintro r H' m4 iF ⟨l4,rfl,rfl⟩;simp only[go_sem,oG,mq,oH];exact⟨by decide,fun a cc m6 z1 z2 z3=>⟨(a,cc,m6),⟨rfl,.inl rfl⟩,ae (.inr w1) (ae l4 (.inr z1)),z2,z3⟩⟩
              ·rintro⟨ma,mc,m5⟩ ⟨l5,g5,g6⟩;dsimp only at l5 g5 g6;have du:Bld m5 (cZ.take 15++[⟨1,cI [84,104,114,101,97,100],aS,[],[⟨1,bB,vN⟩,⟨1,[114,117,110],vN⟩,⟨257,[115,116,97,114,116],vN⟩]⟩]) c1 (fJ++eE 1 (cI [84,104,114,101,97,100]) aS (.slice none 0 0) (.slice ma 3 mc)) r1:=
                AR hB (ae l1 (ae l2 l5)) 1 _ aS _ 3 rfl _ c1 r1 g1 g2 g3 g5 g6 ⟨⟨_,rfl,rfl,by first |rfl |exact jx _ _ _ _ (jm _)⟩,⟨_,rfl,rfl,by first |rfl |exact jx _ _ _ _ (jm _)⟩,⟨_,rfl,rfl,by first |rfl |exact jx _ _ _ _ (jm _)⟩,trivial⟩
               rw[ve];have bE:ah m m5:=ae hl (ae l1 (ae l2 l5));clear g1 g2 g3 g5 g6 l5 hB hl l1 l2;revert du;generalize fJ++eE 1 (cI [84,104,114,101,97,100]) aS (.slice none 0 0) (.slice ma 3 mc)=wm
               intro du;have hB:Bld m5 (cZ.take 16) c1 wm r1:=du;have hl:=bE;clear du bE;have h1:=JH [67,111,110,115,111,108,101] aS 16 ⟨by decide,by decide⟩ (by decide) (cZ.take 16) 16 c1 wm r1 m5 hB rfl (by decide);refine vn 233 (fun y:Nat×List Value×Option Addr×Nat×Mem=>⟨[⟨1,[],.box 0 0⟩],[],[eJ 233 wm 17 (cI [67,111,110,115,111,108,101]) aS (.slice none 0 0) (.v (.slice y.2.2.1 3 y.2.2.2.1)) y.2.1,dA (.sl 233 17 y.1)],[],240,y.2.2.2.2⟩)
                (fun y=>ah m5 y.2.2.2.2/\(17<=y.1/\y.1<=maxLen/\y.2.1.length=(y.1 - 17) * 7)/\3<=y.2.2.2.1/\ax y.2.2.2.2 y.2.2.1 3 11 (CN.map (rV 8)).flatten) (fun _ _=>aU rfl) (fun y hy=>hy.1) (fun _=> ?_) (gi fK (by kernel_rfl) ?_) ?_
               ·simp only[go_sem]
               ·simp only[go_sem];refine ak (h1.mono ?_);clear h1;rintro r H' m1 aQ ⟨l1,c1,r1,g1,g2,g3,rfl,rfl⟩;simp only[go_sem,mM,cI,List.map_nil];refine⟨by kernel_rfl,fun a ca m3 w1 w2 w3=>bF ((Gm wm 112 hB.vl 17 (cI [67,111,110,115,111,108,101]) aS (.slice none 0 0) r1 8 ⟨by decide,by decide⟩ CN (by decide) a ca m3 w3).mono ?_)⟩;rintro r H' m4 iF ⟨l4,rfl,rfl⟩;simp only[go_sem,oG,mq,oH,cI,List.map_nil];exact fun a cc m6 z1 z2 z3=>⟨(c1,r1,a,cc,m6),⟨⟨rfl,rfl⟩,.inl rfl⟩,ae l1 (ae (.inr w1) (ae l4 (.inr z1))),⟨g1,g2,g3⟩,z2,z3⟩
               ·rintro⟨c1,r1,ma,mc,m5⟩ ⟨l5,⟨g1,g2,g3⟩,g5,g6⟩;dsimp only at l5 g1 g2 g3 g5 g6;have du:Bld m5 (cZ.take 16++[⟨17,cI [67,111,110,115,111,108,101],aS,[],[⟨265,[112,114,105,110,116,73,110,116],[40,73,41,86]⟩,⟨265,[112,114,105,110,116,83,116,114,105,110,103],[40,76,108,97,110,103,47,83,116,114,105,110,103,59,41,86]⟩,⟨265,[112,114,105,110,116,76,111,110,103],[40,74,41,86]⟩]⟩]) c1 (wm++eE 17 (cI [67,111,110,115,111,108,101]) aS (.slice none 0 0) (.slice ma 3 mc)) r1:=
                 AR hB l5 17 _ aS _ 3 rfl _ c1 r1 g1 g2 g3 g5 g6 ⟨⟨_,rfl,rfl,by first |rfl |exact jx _ _ _ _ (jm _)⟩,⟨_,rfl,rfl,by first |rfl |exact jx _ _ _ _ (jm _)⟩,⟨_,rfl,rfl,by first |rfl |exact jx _ _ _ _ (jm _)⟩,trivial⟩
                rw[ve];have bE:ah m m5:=ae hl l5;clear g1 g2 g3 g5 g6 l5 hB hl h1;revert du;generalize wm++eE 17 (cI [67,111,110,115,111,108,101]) aS (.slice none 0 0) (.slice ma 3 mc)=fJ
                intro du;have hB:Bld m5 (cZ.take 17) c1 fJ r1:=du;have hl:=bE;clear du bE;have h1:=Sp (cZ.take 17) 17 rfl (by decide) c1 fJ r1 m5 hB;refine gi fK (by kernel_rfl) ?_;simp only[go_sem];refine ak (h1.mono ?_);clear h1;rintro r H' m6 uy ⟨l6,rfl,c6,v6,r6,g6,rfl⟩;simp only[go_sem];exact⟨ae hl l6,242,c6,v6,r6,g6,rfl,rfl⟩
theorem MZ (m:Mem):FnH Tryz.prog 65 [] ⟨[],[]⟩ m
  fun r H' m' =>ah m m' /\H' =⟨[],[]⟩/\∃(a:Option Addr) (c:Nat) (vs:List Value),r= .v (.slice a 21 c)/\21<=c/\ax m' a 21 7 vs/\eu (rQ m') 7 cZ vs:=by
 refine R4 (Nl m) ?_;rintro r H' m' hm ⟨l,k,c,vs,rest,hB,rfl,rfl⟩;have hlen:vs.length=147:=hB.vl;refine⟨fun s=>s,k,21,c,7,107,vs++rest,[],rfl,by rw[List.map_append],(by decide:(107:Nat)<gn),by rw[aZ,hlen];omega,fun V=>rfl,fun a m1 h1 h2=>⟨ae l (.inr h1),rfl,a,c,vs,rfl,hB.le,?_,iT (fun _ _=>sZ (.inr h1)) hB.rep⟩⟩;rw[List.take_append_of_le_length (by rw[hlen];omega),jI (by rw[hlen];omega)] at h2;exact h2
end Go.Proofs.YtmdokbohofchgaaGreatDoor.E
namespace Go.Proofs.YtmdokbohofchgaaGreatDoor.E
open Go Go.RowKit
theorem ka {P:Program} {f:FuncId} {args:List SV} {H:Hp} {m:Mem} {R R' :SV->Hp->Mem->Prop} (h:FnH P f args H m R) (e:∀r H' m',m.le m' ->R r H' m' ->∃r',(∀V,den V r' =den V r)/\R' r' H' m'):FnH P f args H m R' :=
 fun V w D h1 h2 h3=>(h V w D h1 h2 h3).mono fun x w2 ⟨r,V',D',H',m',e1,e2,e3,e4,e5,e6,e7,e8,e9,bZ,cj⟩=>(e r H' m' e9 cj).elim fun r' hr=>⟨r',V',D',H',m',by rw[hr.1 V'];exact e1,e2,e3,e4,e5,e6,e7,e8,e9,bZ,hr.2⟩
theorem Nh (s:List UInt8) (c:Int) (m:Mem):FnH Tryz.prog 269 [.v (.string (bs s)),.v (.int .u8 c)] ⟨[],[]⟩ m fun r H' _=>r= .v (.int .i64 (Lib.indexByte s c.toNat.toUInt8))/\H' =⟨[],[]⟩:=by
 refine(KK (args:=[.string (bs s),.int .u8 c]) (R:=fun y=>y= .int .i64 (Lib.indexByte s c.toNat.toUInt8)) fun w D dX hle=> ?_).mono ?_
 ·refine(Tryz.strings_IndexByte (bs s) c w).mono ?_;rintro e w' ⟨rfl,rfl⟩;exact⟨_,rfl,rfl,Below.refl _ _⟩
 ·rintro r H' m' hm ⟨⟨y,rfl,rfl⟩,h1,h2⟩;exact⟨rfl,h1⟩
def BQ:List Value->Option (Prop×Value)
 |[.string s,.int .u8 c]=>some (True,.int .i64 (Lib.indexByte (tl s) c.toNat.toUInt8))
 |_=>none
attribute [go_sem] BQ.eq_1
theorem Vi:∀aN y,BQ aN=some y->y.1->∀m,FnH Tryz.prog 269 (aN.map SV.v) ⟨[],[]⟩ m (fun r H' _=>r= .v y.2/\H' =⟨[],[]⟩):=fun aN y hy hB m=>by
 unfold BQ at hy;split at hy
 ·rename_i s c;cases hy;have:=Nh (tl s) c m;rwa [eW] at this
 ·cases hy
abbrev ZX:Cfg:=fF (fun _=>false) [(216,sB pN),(269,BQ)]
theorem Bp:cw ZX Tryz.prog:=pure_cons (by kernel_rfl) (xT GC) (pure_cons (by kernel_rfl) Vi pure_nil)
@[reducible] def tyA (t:Ty):SV:= .v (.agg ⟨[.int .i64 t.dim,.int .u8 t.base,.string (bs t.name)]⟩)
@[reducible] def dD (t:Ty):SV:= .agg [.v (.int .i64 t.dim),.v (.int .u8 t.base),.v (.string (bs t.name))]
def dh (s:Nm):Nat:=(s.takeWhile (· ==91)).length
theorem Vt (s:Nm):dh s<=s.length:=by
 unfold dh;induction s with
 |nil=>exact aA _
 |cons a r ih=>
  rw[List.takeWhile_cons];split
  ·simp only[cQ];omega
  ·exact aF _
theorem Kx:∀{s:Nm} {i:Nat},i<dh s->s.getD i 0=91
 |[],i,h=>by cases h
 |a::r,i,h=>by
  unfold dh at h;rw[List.takeWhile_cons] at h;split at h
  ·rename_i e;cases i with
   |zero=>simpa using e
   |succ i=>
    simp only[cQ] at h;simpa using Kx (s:=r) (i:=i) (by unfold dh;omega)
  ·cases h
theorem JO:∀{s:Nm},dh s<s.length->s.getD (dh s) 0≠91
 |[],h=>by cases h
 |a::r,h=>by
  unfold dh at h ⊢;rw[List.takeWhile_cons] at h ⊢;split
  ·rename_i e;rw[ai e] at h;simp only[cQ] at h ⊢;have:=JO (s:=r) (by unfold dh;omega);unfold dh at this;simpa using this
  ·rename_i e;simpa using e
theorem OU {s:Nm} (h:s.drop (dh s)=[]):fO s=(aj,[],false):=by
 unfold fO;unfold dh at h;rw[h]
theorem OT {s r:Nm} {c:UInt8} (h:s.drop (dh s)=c::r):fO s=(if c=76 then(if Lib.indexByte r 59<0 then(aj,[],false)
   else(⟨dh s,76,r.take (Lib.indexByte r 59).toNat⟩,r.drop ((Lib.indexByte r 59).toNat+1),AS ⟨dh s,76,r.take (Lib.indexByte r 59).toNat⟩))
  else(⟨dh s,c.toNat,[]⟩,r,AS ⟨dh s,c.toNat,[]⟩)):=by
 unfold fO;unfold dh at h ⊢;rw[h]
theorem XD (l:Nm) (c:UInt8): -1<=Lib.indexByte l c/\Lib.indexByte l c<l.length:=by
 refine⟨Lib.indexByte_ge l c,?_⟩;by_cases h:0<=Lib.indexByte l c
 ·obtain⟨o,ho⟩:=Int.eq_ofNat_of_zero_le h;have:=(List.getElem?_eq_some_iff.1 (Lib.indexByte_some ho).1).1;omega
 ·omega
theorem Na (s:Nm) (m:Mem) (hs:s.length<=1000000):FnH Tryz.prog 239 [.v (.string (bs s))] ⟨[],[]⟩ m
  fun r H' m' =>m' =m/\H' =⟨[],[]⟩/\r= .tup [tyA (fO s).1,.v (.string (bs (fO s).2.1)),.v (.bool (fO s).2.2)]:=by
 have hl:=Vt s;have h1:∀h:dh s<s.length,∃c,s.drop (dh s)=c::s.drop (dh s+1):=fun h=>⟨s[dh s],List.drop_eq_getElem_cons h⟩
 have h2:=fun c (h:s.drop (dh s)=c::s.drop (dh s+1))=>OT h
 have h3:=fun(h:s.drop (dh s)=[])=>OU h
 revert h2 h3;generalize fO s=p
 intro h2 h3;refine ka (R:=fun r H' m' =>m' =m/\H' =⟨[],[]⟩/\r= .tup [dD p.1,.v (.string (bs p.2.1)),.v (.bool p.2.2)]) ?_ fun r H' m' _ hr=>⟨_,fun V=>by rw[hr.2.2];rfl,hr.1,hr.2.1,rfl⟩
 refine br Bp Tryz.func239 ?_
 ·simp only[go_sem];refine gz Bp (fun i:Nat=>⟨[⟨5,[],.box 1 0⟩,⟨4,[],.v (.bool false)⟩,⟨3,[],.v (.string (bs []))⟩,⟨2,[],.box 0 0⟩,⟨0,[],.v (.string (bs s))⟩],[],[⟨1,35,[.v (.int .i64 i),.v (.int .u8 0),.v (.string (bs []))]⟩,⟨0,35,[.v (.int .i64 0),.v (.int .u8 0),.v (.string (bs []))]⟩],[],2,m⟩)
   (fun i=>i<=dh s) (fun i=>dh s - i) 0 (fun _ _=>aU rfl) (fun _ _=> .inl rfl) ?_ ?_ ?_
  ·simp only[go_sem];exact rfl
  ·exact aF _
  ·intro i hi;by_cases an:i<dh s
   ·have hc:((i:Int)<(s.length:Int))=True:=eq_true (by omega);have h9:=Kx an;have FG:(((s.getD i 0).toNat:Int)=91)=True:=eq_true (by rw[h9];rfl);clear h1 h2 h3;simp only[go_sem,hc,FG,not_true_eq_false,or_false,false_implies,true_implies,and_true];exact⟨by omega,by unfold aB;omega,i+1,rfl,an,by omega⟩
   ·have hi2:i=dh s:=by omega
    clear an hi;subst hi2;by_cases hlen:dh s<s.length
    ·have hc:((dh s:Int)<(s.length:Int))=True:=eq_true (by omega);have h9:=JO hlen;have FG:(((s.getD (dh s) 0).toNat:Int)=91)=False:=eq_false (fun e=>h9 (UInt8.toNat_inj.1 (by have:(91:UInt8).toNat=91:=rfl;omega)));refine Exists.elim (h1 hlen) fun c hd=> ?_
     have hp:=h2 c hd;clear h1 h2 h3;simp only[go_sem,hc,FG,hd];refine⟨by omega,⟨by omega,by omega,by omega⟩,⟨by omega,by omega⟩,⟨by omega,by omega,by omega⟩,fun FP=> ?_,fun FP=> ?_⟩
     ·have EV:c=76:=UInt8.toNat_inj.1 (by have:(76:UInt8).toNat=76:=rfl;omega);rw[ai EV] at hp;have hx:Lib.indexByte (s.drop (dh s+1)) (Nat.toUInt8 59)=Lib.indexByte (s.drop (dh s+1)) 59:=rfl;rw[hx];clear hx;have sG:=XD (s.drop (dh s+1)) 59;rw[gh] at sG ⊢;revert hp sG;generalize Lib.indexByte (s.drop (dh s+1)) 59=x
      intro hp sG;refine⟨fun hx=> ?_,fun hx=>⟨⟨by omega,by omega,by omega⟩,by unfold aB;omega,⟨by omega,by omega,by omega⟩,?_⟩⟩
      ·rw[ai hx] at hp;rw[hp];rfl
      ·rw[aa hx] at hp;have e1:(x+1).toNat=x.toNat+1:=by omega
       have hb:BL ((s.drop (dh s+1)).take x.toNat):=by unfold BL;rw[List.length_take];omega
       refine bX (.hoist 0 (.hoist 1 (.hoist 2 (.alt 3 [1,0] (.alt 4 [1] (.hoist 5 (.hoist 6 .done)) .stop) .stop)))) Bp (by kernel_rfl) (by kernel_rfl) ?_;simp only[go_sem,hb,e1];rw[hp,FP];rfl
     ·have EV:¬c=76:=fun e=>FP (by rw[e];rfl)
      rw[aa EV] at hp;refine bX (.hoist 0 (.hoist 1 (.hoist 2 (.alt 3 [1,0] (.alt 4 [1] (.hoist 5 (.hoist 6 .done)) .stop) .stop)))) Bp (by kernel_rfl) (by kernel_rfl) ?_;simp only[go_sem];refine⟨by unfold BL;simp,?_⟩;rw[hp];rfl
    ·have hc:((dh s:Int)<(s.length:Int))=False:=eq_false (by omega);have h0:s.length=dh s:=by omega
     have hd:s.drop (dh s)=[]:=List.drop_eq_nil_of_le (by omega);have hp:=h3 hd;clear h1 h2 h3;subst hp;simp only[go_sem,hc,hd,not_true_eq_false,false_implies,and_true,false_and,true_and];exact⟨⟨by omega,by omega,by omega⟩,rfl⟩
attribute [go_sem] not_true_eq_false false_and
def uc (F:Nm->Value):List Value->Option (Prop×Value)
 |[.string s]=>some ((tl s).length<=1000000,F (tl s))
 |_=>none
attribute [go_sem] uc.eq_1
theorem AX {f:FuncId} {F:Nm->Value} (h:∀(s:Nm) (m:Mem),s.length<=1000000->FnH Tryz.prog f [.v (.string (bs s))] ⟨[],[]⟩ m fun r H' _=>r= .v (F s)/\H' =⟨[],[]⟩):
  ∀aN y,uc F aN=some y->y.1->∀m,FnH Tryz.prog f (aN.map SV.v) ⟨[],[]⟩ m (fun r H' _=>r= .v y.2/\H' =⟨[],[]⟩):=fun aN y hy hB m=>by
 unfold uc at hy;split at hy
 ·rename_i s;cases hy;have:=h (tl s) m hB;rwa [eW] at this
 ·cases hy
def aD (t:Ty):List Value:=[.int .i64 t.dim,.int .u8 t.base,.string (bs t.name)]
def yg (s:Nm):Value:= .tuple ⟨[.agg ⟨aD (fO s).1⟩,.string (bs (fO s).2.1),.bool (fO s).2.2]⟩
def xW (s:Nm):Value:= .tuple ⟨[.agg ⟨aD (jK s).1⟩,.int .i64 (jK s).2]⟩
theorem GO (s:Nm) (m:Mem) (hs:s.length<=1000000):FnH Tryz.prog 239 [.v (.string (bs s))] ⟨[],[]⟩ m fun r H' _=>r= .v (yg s)/\H' =⟨[],[]⟩:=
 ka (Na s m hs) fun r H' m' _ hr=>⟨_,fun V=>by rw[hr.2.2];rfl,rfl,hr.2.1⟩
abbrev ZZ:Cfg:=fF (fun _=>false) [(239,uc yg)]
theorem Zl:cw ZZ Tryz.prog:=pure_cons (by kernel_rfl) (AX GO) pure_nil
theorem Gk (s:Nm) (m:Mem) (hs:s.length<=1000000):FnH Tryz.prog 155 [.v (.string (bs s))] ⟨[],[]⟩ m fun r H' _=>r= .v (xW s)/\H' =⟨[],[]⟩:=by
 refine ka (R:=fun r H' m' =>H' =⟨[],[]⟩/\r= .tup [dD (jK s).1,.v (.int .i64 (jK s).2)]) ?_ fun r H' m' _ hr=>⟨_,fun V=>by rw[hr.2];rfl,rfl,hr.1⟩
 unfold jK;generalize hp:fO s=p
 refine br Zl Tryz.func155 ?_
 ·simp only[go_sem,yg,aD,hp];refine⟨hs,fun h=> ?_,fun h=> ?_⟩
  ·rw[aa (fun e=>h.elim (fun h=>by rw[e.1] at h;cases h) fun h=>h e.2)];rfl
  ·rw[ai h]
abbrev ZY:Cfg:=fF (fun _=>false) [(239,uc yg),(155,uc xW)]
theorem EJ:cw ZY Tryz.prog:=pure_cons (by kernel_rfl) (AX GO) (pure_cons (by kernel_rfl) (AX Gk) pure_nil)
theorem W9:aK Tryz.prog 181=4:=by kernel_rfl
theorem WL:cC Tryz.prog 181=some (some 4):=by kernel_rfl
theorem WG:fP Tryz.prog 181=true:=by kernel_rfl
theorem W8:aK Tryz.prog 127=1:=by kernel_rfl
theorem WK:cC Tryz.prog 127=some none:=by kernel_rfl
theorem XS:eb Tryz.prog 127=some 35:=by kernel_rfl
theorem Z0:iH Tryz.prog 35=32:=by kernel_rfl
theorem Tj:a8 Tryz.prog 181 0=some (0,none,1):=by kernel_rfl
theorem Ti:a8 Tryz.prog 181 1=some (1,some 3,3):=by kernel_rfl
theorem R8:cU Tryz.prog 181=some [.v (.slice none 0 0),.v (.int .i64 0),.v (.int .u8 0),.v (.string (bs []))]:=by kernel_rfl
attribute [go_sem] W9 WL WG W8 WK XS Z0 Tj Ti R8
theorem QE {s:Nm} (h:(fO s).2.2=true):(fO s).2.1.length<s.length:=by
 unfold fO at h ⊢;have h0:=gh (i:=(s.takeWhile (· ==91)).length) (l:=s);split at h
 ·cases h
 ·rename_i c r e;rw[e] at h0;simp only[cQ] at h0;split
  ·split
   ·rename_i h1 h2;rw[ai h1,ai h2] at h;cases h
   ·simp only[gh];omega
  ·dsimp only;omega
theorem QJ {R' :SV->Hp->Mem->Prop} {H' :Hp} {m' :Mem} {cs rest:List SV} {k u:Nat} {b:Vc} (i:Nat) (hi:cs[i]? =some (.vec k u)) (hb:cq H'.vc k u=some b) (H2:Hp) (s1:H2.bx.Sublist H'.bx) (s2:H2.vc.Sublist H'.vc)
  (h:∀(a:Option Addr) (c:Nat) (m1:Mem),m'.le m1->b.n<=c->ax m1 a b.n b.sz b.xs->R' (.tup (.agg (cs.set i (.v (.slice a b.n c)))::rest)) H2 m1):sn R' (.tup (.agg cs::rest)) H' m' :=by
 refine .inr ⟨fun z=> .tup (.agg (cs.set i z)::rest),k,u,b,H2,hb,?_,fun V v e=> ?_,s1,s2,h⟩
 ·obtain⟨hl,he⟩:=List.getElem?_eq_some_iff.1 hi;simp only[<- he,List.set_getElem_self]
 ·show Value.tuple ⟨Value.agg ⟨_⟩::_⟩=Value.tuple ⟨Value.agg ⟨_⟩::_⟩;rw[DR hi e]
theorem xg {α:Type} (f:α->List Value) (l:List α) (x:α):flat f (l++[x])=flat f l++f x:=by unfold flat;simp
def yx:Option (List Ty×Nm)->(Ty×List Ty)×Int
 |none=>((aj,[]),13)
 |some (_,[])=>((aj,[]),13)
 |some (l,_::q)=>if(jK q).2=0 then(if 16<l.length then((aj,[]),5) else(((jK q).1,l),0)) else((aj,[]),(jK q).2)
theorem Sn (r:Nm):eX (40::r)=yx (tw (r.length+1) [] r):=by
 rw[eX,ai rfl];unfold yx;rfl
theorem Sm {s:Nm} (h:s=[]\/¬s.getD 0 0=40):eX s=((aj,[]),13):=by
 cases s with
 |nil=>rfl
 |cons c r=>
  rw[eX,aa];exact fun e=>h.elim (fun h=>by cases h) fun h=>h e
theorem Sl (s:Nm) (m:Mem) (hs:s.length<=1000):FnH Tryz.prog 156 [.v (.string (bs s))] ⟨[],[]⟩ m
  (sn fun r H' m' =>ah m m' /\H' =⟨[],[]⟩/\∃a c,ax m' a (eX s).1.2.length 3 (flat aD (eX s).1.2)/\(eX s).1.2.length<=c/\r= .tup [.agg [.v (.slice a (eX s).1.2.length c),.v (.int .i64 (eX s).1.1.dim),.v (.int .u8 (eX s).1.1.base),.v (.string (bs (eX s).1.1.name))],.v (.int .i64 (eX s).2)]):=by
 by_cases h0:s=[]\/¬s.getD 0 0=40
 ·rw[Sm h0];refine br EJ Tryz.func156 ?_
  ·by_cases he:s=[]
   ·subst he;simp only[go_sem];exact .inl ⟨.inl rfl,rfl,none,0,⟨rfl,fun h=>absurd h (Nat.lt_irrefl 0)⟩,aA _,rfl⟩
   ·have h1:=h0.resolve_left he;have h2:(((s.getD 0 0).toNat:Int)=40)=False:=eq_false fun e=>h1 (UInt8.toNat_inj.1 (by have:(40:UInt8).toNat=40:=rfl;omega))
    have h3:0<s.length:=List.length_pos_iff.2 he;have h4:=ab he;simp only[go_sem,h2,h4];exact⟨⟨by omega,by omega⟩,.inl ⟨.inl rfl,rfl,none,0,⟨rfl,fun h=>absurd h (Nat.lt_irrefl 0)⟩,aA _,rfl⟩⟩
 ·obtain⟨r,rfl⟩:∃r,s=40::r:=by
   cases s with
   |nil=>exact absurd (.inl rfl) h0
   |cons c r=>exact⟨r,by rw[show c=40 from Classical.byContradiction fun e=>h0 (.inr e)]⟩
  clear h0;have hr:r.length<=999:=by simpa using hs
  rw[Sn];generalize hK:yx (tw (r.length+1) [] r)=K
  refine br EJ Tryz.func156 ?_
  ·have h40:(((UInt8.toNat 40:Nat):Int)=40)=True:=eq_true rfl;simp only[go_sem,h40];refine⟨⟨by omega,by omega⟩,⟨by omega,by omega,by omega⟩,?_⟩;refine xq 1 0 ⟨1,181,[.v (.slice none 0 0),.v (.int .i64 0),.v (.int .u8 0),.v (.string (bs []))]⟩ 35 3 (by decide) rfl rfl ?_;simp only[go_sem]
   refine gz EJ (fun x:Nat×List Ty×Nm=>⟨[⟨4,[],.box 1 0⟩,⟨3,[],.v (.int .i64 0)⟩,⟨2,[],.box 0 0⟩,⟨0,[],.v (.string (bs x.2.2))⟩],[],
    [⟨1,181,[.vec 2 x.2.1.length,.v (.int .i64 0),.v (.int .u8 0),.v (.string (bs []))]⟩,⟨0,181,[.v (.slice none 0 0),.v (.int .i64 0),.v (.int .u8 0),.v (.string (bs []))]⟩],[⟨2,x.2.1.length,35,3,x.2.1.length,flat aD x.2.1⟩],3,m⟩)
    (fun x=>x.2.2.length<x.1/\x.2.1.length+x.2.2.length<=999/\yx (tw x.1 x.2.1 x.2.2)=K) (fun x=>x.2.2.length) (r.length+1,[],r) (fun _ _=>aU rfl) (fun _ _=> .inl rfl) ?_ ?_ ?_
   ·simp only[go_sem];rfl
   ·exact⟨Nat.lt_succ_self _,by simpa using hr,hK⟩
   ·rintro⟨f,acc,q⟩ ⟨i1,i2,i3⟩;dsimp only at i1 i2 i3;cases f with
    |zero=>omega
    |succ f=>
     cases q with
     |nil=>
      rw[tw] at i3;simp only[go_sem];rw[<- i3];exact .inl ⟨.inl rfl,rfl,none,0,⟨rfl,fun h=>absurd h (Nat.lt_irrefl 0)⟩,aA _,rfl⟩
     |cons c q=>
      rw[tw] at i3;by_cases wM:c=41
      ·rw[ai wM] at i3;subst wM;have wM:(((UInt8.toNat 41:Nat):Int)=41)=True:=eq_true rfl;refine Exists.elim (⟨_,rfl⟩:∃p,jK q=p) fun p hp=> ?_
       have hS:yx (some (acc,41::q))=if p.2=0 then(if 16<acc.length then((aj,[]),5) else((p.1,acc),0)) else((aj,[]),p.2):=by rw[<- hp];rfl
       rw[hS] at i3;clear hS;simp only[go_sem,wM,xW,aD,hp];simp only[cQ] at i2;refine⟨⟨by omega,by omega⟩,⟨by omega,by omega,by omega⟩,by omega,fun h0=> ?_,fun h0=>⟨fun h1=> ?_,fun h1=> ?_⟩⟩
       ·rw[aa h0] at i3;rw[<- i3];exact .inl ⟨.inl rfl,rfl,none,0,⟨rfl,fun h=>absurd h (Nat.lt_irrefl 0)⟩,aA _,rfl⟩
       ·rw[ai h0,ai (by omega)] at i3;rw[<- i3];exact .inl ⟨.inl rfl,rfl,none,0,⟨rfl,fun h=>absurd h (Nat.lt_irrefl 0)⟩,aA _,rfl⟩
       ·rw[ai h0,aa (by omega)] at i3;rw[<- i3];exact QJ (b:=⟨2,acc.length,35,3,acc.length,flat aD acc⟩) 0 rfl (by simp [cq]) ⟨[],[]⟩ (List.Sublist.refl _) (List.nil_sublist _) fun a c m1 h1 h2 h3=>⟨.inr h1,rfl,a,c,h3,h2,rfl⟩
      ·rw[aa wM] at i3;have ZF:((c.toNat:Int)=41)=False:=eq_false fun e=>wM (UInt8.toNat_inj.1 (by have:(41:UInt8).toNat=41:=rfl;omega))
       refine Exists.elim (⟨_,rfl⟩:∃p,fO (c::q)=p) fun p hp=> ?_
       have an:=QE (s:=c::q);rw[hp] at i3 an;simp only[go_sem,ZF,yg,aD,hp];simp only[cQ] at i2 i1 an;refine⟨⟨by omega,by omega⟩,by omega,fun h0=> ?_,fun h0=>⟨jq (by omega) (by decide),(f,acc++[p.1],p.2.1),⟨rfl,?_,?_,?_,?_⟩,⟨?_,?_,?_⟩,?_⟩⟩
       ·rw[aa (fun e=>h0.elim (fun h=>by rw[e.1] at h;cases h) fun h=>e.2 h)] at i3;rw[<- i3];exact .inl ⟨.inl rfl,rfl,none,0,⟨rfl,fun h=>absurd h (Nat.lt_irrefl 0)⟩,aA _,rfl⟩
       ·rw[aZ];rfl
       ·rw[aZ];rfl
       ·rw[aZ];rfl
       ·rw[xg];rfl
       ·have:=an h0.1;show p.2.1.length<f;omega
       ·have:=an h0.1;show(acc++[p.1]).length+p.2.1.length<=999;rw[aZ,nz];omega
       ·rw[ai h0] at i3;exact i3
       ·have:=an h0.1;show p.2.1.length<q.length+1;omega
section
variable {P:Program}
theorem UE {f:FuncId} {args:List SV} {H:Hp} {m:Mem} {R R' :SV->Hp->Mem->Prop} (h:FnH P f args H m R)
  (hR:∀r H' m',m.le m' ->R r H' m' ->∃(k j:Nat) (t:TypeId) (x:Value) (l:List Value),t<gn/\r= .box k 0/\H' =⟨[⟨k,t,[.v x,.mp j]⟩,⟨j,1000002,l.map .v⟩],[]⟩/\
   ∀(p y:Value) (m1:Mem),m'.le m1->Rd m1 p [x,y]->ny m1 1000002 y l->R' (.v p) ⟨[],[]⟩ m1):FnH P f args H m R' :=by
 intro V w D dX hle hH;refine(h V w D dX hle hH).mono ?_;rintro e w' ⟨r,V',D',H',m',e1,e2,e3,e4,e5,e6,e7,e8,e9,bZ,cj⟩;obtain⟨k,j,t,x,l,ht,rfl,rfl,hK⟩:=hR r H' m' e9 cj;obtain⟨⟨o,h1,h2⟩,h3⟩:=e3.bx ⟨k,t,[.v x,.mp j]⟩ (bL ..);obtain⟨⟨o',g1,g2⟩,g3⟩:=e3.bx ⟨j,1000002,l.map .v⟩ (bt _ (List.mem_singleton.2 rfl));have wN:=xz ht h2;subst wN;dsimp only at h1 h3 g1 g2 g3;rw[lx] at g2;unfold gL at g2;rw[aa (by decide)] at g2;obtain⟨es,fy,ps,rfl,q1,q2,q3⟩:=g2;have ff:=e3.apart;unfold aE at ff;simp only[aG,List.map_nil,List.filterMap_nil,List.append_nil,List.nodup_cons,List.mem_singleton] at ff;have cv:V'.β k≠V'.β j:=ff.1;have an:∀{b:Nat} {o:Obj},w'.heap[b]? =some o->b<w'.heap.size:=fun{b o} hb=>by
  by_cases q:b<w'.heap.size
  ·exact q
  ·rw[Array.getElem?_eq_none (by omega)] at hb;cases hb
 have hk:=an h1;have hj:=an g1;obtain⟨D2,hDk,Ch,hD2⟩:∃D2:Nat->Nat,D2 (V'.β k)=2/\D2 (V'.β j)=1/\∀x,x≠V'.β k->x≠V'.β j->D2 x=D' x:=
  ⟨fun x=>if x=V'.β k then 2 else if x=V'.β j then 1 else D' x,ai rfl,by dsimp only;rw[aa cv.symm,ai rfl],fun x hx hy=>by dsimp only;rw[aa hx,aa hy]⟩
 have kX:Wf w' D2:=fun x hx=>by
  rw[hD2 x (by omega) (by omega)];exact e2 x hx
 have bD:Mem.le ⟨w',D'⟩ ⟨w',D2⟩:=fun x=>by
  refine⟨?_,fun h0=>((AM e2) x).2 h0⟩;dsimp only;by_cases q:x=V'.β k
  ·rw[q,h3];exact aF _
  ·by_cases q2:x=V'.β j
   ·rw[q2,g3];exact aF _
   ·rw[hD2 x q q2];exact aA _
 have ZB:∀x,x<w.heap.size->¬x∈aE V H->x≠V'.β k/\x≠V'.β j:=fun x hx hF=>by
  constructor<;>intro e
  ·rcases e7 x (by unfold aE;simp only[aG,List.map_nil,List.filterMap_nil,List.append_nil,List.mem_cons,List.not_mem_nil,or_false];exact .inl e) with q |q
   ·exact hF q
   ·omega
  ·rcases e7 x (by unfold aE;simp only[aG,List.map_nil,List.filterMap_nil,List.append_nil,List.mem_cons,List.not_mem_nil,or_false];exact .inr e) with q |q
   ·exact hF q
   ·omega
 refine⟨.v (.pointer (some ⟨V'.β k,0,none⟩)),V',D2,⟨[],[]⟩,⟨w',D2⟩,e1,kX,⟨fun x hx=>(by cases hx),fun x hx=>(by cases hx),by simp [aE],by simp⟩,fun x hx=>e4 x hx,e5,⟨e6.os,e6.tape,e6.output,e6.size,fun x hx hF=> ?_⟩,fun x hx=>(by simp [aE] at hx),Mem.le_trans e8 bD,Mem.le_trans e9 (Mem.le_trans bZ bD),AM kX,
  hK _ (.map (some (V'.β j))) _ (Mem.le_trans bZ bD) ⟨_,rfl,rfl,fun i hi=> ?_⟩ ⟨_,es,fy,ps,rfl,g1,by dsimp only;rw[Ch];exact Nat.zero_lt_one,q1,q2,q3⟩⟩
 ·obtain⟨q1,q2⟩:=e6.same x hx hF;refine⟨q1,?_⟩;obtain⟨n1,n2⟩:=ZB x hx hF;rw[hD2 _ n1 n2];exact q2
 ·rw[Addr.add_lit];simp only[cQ,mb] at hi;refine⟨?_,?_⟩
  ·show w'.cell? ⟨V'.β k,0+i,none⟩=_;rw[Nat.zero_add];simp [World.cell?,h1];rfl
  ·show 0+i<D2 (V'.β k);rw[hDk];omega
end
theorem WZ {m m' :Mem} {g:Nat} {y:Value} {l:List Value} (hle:m.le m') (h:ny m g y l):ny m' g y l:=by
 obtain⟨b,es,fy,ps,h1,h2,h3,h4,h5,h6⟩:=h;have hk:=((hle b).2 h3).2;rw[h2] at hk;exact⟨b,es,fy,ps,h1,hk,dm h3 (hle b).1,h4,h5,h6⟩
theorem UA {m m' :Mem} {g:Nat} {y:Value} {l:List Value} (hle:ah m m') (h:ny m g y l):ny m' g y l:=by
 rcases hle with e |e
 ·rw[<- e];exact h
 ·exact WZ e h
theorem W0 {m:Mem} {g:Nat} {y:Value} {l l' :List Value} (h:ny m g y l) (h' :ny m g y l'):l=l' :=by
 obtain⟨b,es,fy,ps,rfl,h2,h3,rfl,rfl,h6⟩:=h;obtain⟨b',sN,tV,ps',q1,q2,q3,rfl,rfl,q6⟩:=h';cases q1;rw[h2] at q2;cases q2;rfl
theorem fG {m:Mem} {g:Nat} {y:Value} {l:List Value} (h:ny m g y l) {K:List Value->Prop}:(∃l,ny m g y l/\K l)=K l:=
 propext ⟨fun⟨l',h',hK⟩=>by rw[W0 h h'];exact hK,fun hK=>⟨l,h,hK⟩⟩
structure Ck (m:Mem) (ad:Addr) (pr E:List Cd) (b:Nat) (a:Option Addr) (c:Nat) (L:List Cc):Prop where
 rd:Rd m (.pointer (some ad)) [.slice a pr.length c,.map (some b)]
 pr:gV m pr a pr.length c
 rm:ny m 1000002 (.map (some b)) (kO L)
 mp:MpR m E L
 fw:E.length<=1100000
theorem oP {m m' :Mem} {x:Value} {cs:List Value} (hle:ah m m') (h:Rd m x cs):Rd m' x cs:=by
 rcases hle with e |e
 ·rw[<- e];exact h
 ·exact K7 e h
theorem Ck.up {m m' :Mem} {ad:Addr} {pr E:List Cd} {b:Nat} {a:Option Addr} {c:Nat} {L:List Cc} (hle:ah m m') (h:Ck m ad pr E b a c L):Ck m' ad pr E b a c L:=
 ⟨oP hle h.rd,nC hle h.pr,UA hle h.rm,h.mp.up hle,h.fw⟩
def ChkR (m:Mem) (p:Value) (pr E:List Cd):Prop:=∃ad b a c L,p= .pointer (some ad)/\Ck m ad pr E b a c L
theorem ChkR.up {m m' :Mem} {p:Value} {pr E:List Cd} (hle:ah m m') (h:ChkR m p pr E):ChkR m' p pr E:=by
 obtain⟨ad,b,a,c,L,e,h⟩:=h;exact⟨ad,b,a,c,L,e,h.up hle⟩
theorem Ck.chk {m:Mem} {ad:Addr} {pr E:List Cd} {b:Nat} {a:Option Addr} {c:Nat} {L:List Cc} (h:Ck m ad pr E b a c L):ChkR m (.pointer (some ad)) pr E=True:=eq_true ⟨ad,b,a,c,L,rfl,h⟩
theorem kF {m:Mem} {x:Value} {cs:List Value} (h:Rd m x cs):mI x=True:=eq_true (h.elim fun a ha=>⟨a,ha.1⟩)
theorem te {m:Mem} {x:Value} {cs:List Value} (h:Rd m x cs) (o n:Nat) (hn:o+n<=cs.length):Rd m (vr x o) ((cs.drop o).take n):=by
 obtain⟨a,rfl,hs,hc⟩:=h;obtain⟨e1,e2,e3⟩:=kD a o hs;refine⟨a.add o,rfl,e3,fun j hj=> ?_⟩;rw[List.length_take,gh] at hj;obtain⟨h1,h2⟩:=hc (o+j) (by omega);obtain⟨f1,f2,f3⟩:=kD (a.add o) j e3;obtain⟨g1,g2,g3⟩:=kD a (o+j) hs;have zC:(a.add o).add j=a.add (o+j):=Addr.add_add a o j;rw[zC];refine⟨?_,?_⟩
 ·rw[h1,List.getElem?_take,ai (by omega),List.getElem?_drop]
 ·rw[e1,e2];omega
theorem K8 {m:Mem} {x:Value} {cs bh:List Value} (h:Rd m x cs) (h' :Rd m x bh) (hl:cs.length=bh.length):cs=bh:=by
 obtain⟨a,rfl,_,hc⟩:=h;obtain⟨a',e,_,hc'⟩:=h';cases e;refine List.ext_getElem? fun j=> ?_
 by_cases hj:j<cs.length
 ·rw[<- (hc j hj).1,(hc' j (by omega)).1]
 ·rw[List.getElem?_eq_none (by omega),List.getElem?_eq_none (by omega)]
theorem Fb {m:Mem} {x v:Value} (h:Rd m x [v]) {K:Value->Prop}:(∃c,Rd m x [c]/\K c)=K v:=
 propext ⟨fun⟨c,h',hK⟩=>by
  have:=K8 h h' rfl;cases this
  exact hK,fun hK=>⟨v,h,hK⟩⟩
theorem cz {m:Mem} {x:Value} {cs:List Value} {n:Nat} (h:Rd m x cs) (hn:cs.length=n) {K:List Value->Prop}:(∃c,(Rd m x c/\c.length=n)/\K c)=K cs:=
 propext ⟨fun⟨c,⟨h',hl⟩,hK⟩=>by rw[K8 h h' (by omega)];exact hK,fun hK=>⟨cs,⟨h,hn⟩,hK⟩⟩
theorem pS {m:Mem} {x:Value} {cs:List Value} (h:Rd m x cs) {j:Nat} {v:Value} (hv:cs[j]? =some v) {K:Value->Prop}:(∃c,Rd m (vr x j) [c]/\K c)=K v:=by
 refine Fb ?_;have hl:=(List.getElem?_eq_some_iff.1 hv).1;have:=te h j 1 (by omega);rwa [List.drop_eq_getElem_cons hl,List.take_succ_cons,List.take_zero,(List.getElem?_eq_some_iff.1 hv).2] at this
theorem bY {m:Mem} {ad:Addr} {cs:List Value} (h:Rd m (.pointer (some ad)) cs) {j:Nat} {v:Value} (hv:cs[j]? =some v) {K:Value->Prop}:(∃c,Rd m (bc (some ad) j) [c]/\K c)=K v:=pS h hv
theorem GV (ad:Addr):mI (.pointer (some ad))=True:=eq_true ⟨ad,rfl⟩
theorem O2 (ad:Addr):(o6 (.pointer (some ad))=true)=True:=eq_true rfl
attribute [go_sem] GV O2
structure CmB (u:Cm):Prop where
 fn:u.fields.length<=1000
 mn:u.methods.length<=1000
 fd:∀f∈u.fields,f.desc.length<=1000
 md:∀f∈u.methods,f.desc.length<=1000
 ok:CdOk (rO u)
 mo:∀f∈u.methods,MdOk (yq f)
theorem KS {m:Mem} {a:Option Addr} {l:List Mb} {xs:List Value} {z:Nat} (h:ax m a l.length (z+3) xs) (hr:eu (Ba z) (z+3) l xs) {k:Nat} (hk:k<l.length):
  a≠none/\∃t,Rd m (bc a (k * (z+3))) (.int .i64 l[k].fl:: .string (bs l[k].name):: .string (bs l[k].desc)::t)/\t.length=z/\(t.all fun v=>v.oneCell')=true:=by
 obtain⟨h1,h2⟩:=dK h hk;obtain⟨t,e,ht⟩:=qd hr hk;rw[e] at h1;exact⟨h2,t,h1,ht⟩
theorem u4 {α:Type} (l:List α) {k:Nat} (hk:k<l.length):l.take (k+1)=l.take k++[l[k]]:=List.take_succ_eq_append_getElem hk
theorem SY {α β:Type} (f:α->β) (l:List α) {k:Nat} (hk:k<=l.length):((l.take k).map f).length=k:=by rw[List.length_map,List.length_take];omega
theorem Z6:iH Tryz.prog 40=56:=by kernel_rfl
theorem Z3:iH Tryz.prog 45=112:=by kernel_rfl
theorem Z1:iH Tryz.prog 95=48:=by kernel_rfl
attribute [go_sem] Z6 Z3 Z1
theorem Qi (s:Nm):(eX s).1.2.length<=16:=by
 unfold eX;split
 ·exact aF _
 ·split
  ·split
   ·exact aF _
   ·exact aF _
   ·split
    ·split
     ·exact aF _
     ·dsimp only;omega
    ·exact aF _
  ·exact aF _
theorem Qh (s:Nm) (m:Mem) (hs:s.length<=1000):FnH Tryz.prog 156 [.v (.string (bs s))] ⟨[],[]⟩ m
  fun r H' m' =>ah m m' /\H' =⟨[],[]⟩/\∃a c,ax m' a (eX s).1.2.length 3 (flat aD (eX s).1.2)/\(eX s).1.2.length<=c/\r= .tup [.agg [.v (.slice a (eX s).1.2.length c),.v (.int .i64 (eX s).1.1.dim),.v (.int .u8 (eX s).1.1.base),.v (.string (bs (eX s).1.1.name))],.v (.int .i64 (eX s).2)]:=
 nL (Sl s m hs)
abbrev Lz:Cfg:=fF (fun _=>false) [(155,uc xW)]
theorem Bq:cw Lz Tryz.prog:=pure_cons (by kernel_rfl) (AX Gk) pure_nil
theorem RC (u:Cm) (cs:List Value) (m:Mem) (hB:CmB u) (h:rQ m u cs):FnH Tryz.prog 66 [.v (.agg ⟨cs⟩)] ⟨[],[]⟩ m
    (sn (sn fun r H' m' =>ah m m' /\H' =⟨[],[]⟩/\∃X:Cc,r= .agg (X.cs.map .v)/\X.name=u.name/\gY m' (rO u) X.cs)):=by
  obtain⟨fa,ma,fc,mc,xf,xm,rfl,⟨h1,h2⟩,⟨h3,h4⟩,h5,h6⟩:=h;refine enter Lz Bq Tryz.func66 rfl rfl (by kernel_rfl) rfl ?_ ?_
  · simp only[go_sem,eE]
  · simp only[go_sem,eE]
    have hF:=fun k hk=>KS h3 h4 (k:=k) hk
    have hM:=fun k hk=>KS h5 h6 (k:=k) hk
    clear h3 h4 h5 h6;refine xq 2 4 ⟨2,33,[.v (.int .i64 u.fl),.v (.string (bs u.name)),.v (.string (bs u.super)),.v (.slice none 0 0),.v (.slice none 0 0),.v (.slice none 0 0),.v (.slice none 0 0)]⟩ 40 5 (by decide) rfl rfl ?_;simp only[go_sem]
    refine ct Bq (fun k:Nat=>⟨[⟨27,[],.v (.int .i64 k)⟩,⟨26,[],.v (.int .i64 u.fields.length)⟩,⟨25,[],.v (.slice fa u.fields.length fc)⟩,⟨3,[],.box 2 0⟩,⟨2,[],.box 1 0⟩,⟨1,[],.box 0 0⟩],[],
      [⟨2,33,[.v (.int .i64 u.fl),.v (.string (bs u.name)),.v (.string (bs u.super)),.v (.slice none 0 0),.vec 3 k,.v (.slice none 0 0),.v (.slice none 0 0)]⟩,
       ⟨1,33,[.v (.int .i64 0),.v (.string (bs [])),.v (.string (bs [])),.v (.slice none 0 0),.v (.slice none 0 0),.v (.slice none 0 0),.v (.slice none 0 0)]⟩,
       ⟨0,107,[.v (.int .i64 u.fl),.v (.string (bs u.name)),.v (.string (bs u.super)),.v (.slice none 0 0),.v (.slice fa u.fields.length fc),.v (.slice ma u.methods.length mc),.v (.string (bs []))]⟩],
       [⟨3,k,40,5,k,flat Fc.cs ((u.fields.take k).map vL)⟩],4,m⟩)
      (fun k=>k<=u.fields.length) (fun k=>u.fields.length - k) 0 (by kernel_rfl) (fun _ _=>aU rfl) (fun _ _=> .inl rfl) (fun _=> ?_) ?_ (aF _) ?_
    · simp only[go_sem]
    · simp only[go_sem]
      exact⟨rfl,rfl⟩
    · intro k hk
      by_cases an:k<u.fields.length
      · have hc:((k:Int)<(u.fields.length:Int))=True:=eq_true (by omega)
        have hd:=hB.fd _ (List.getElem_mem an);refine Exists.elim (hF k an).2 fun t ht=> ?_
        have aL:bO fa u.fields.length (k:Int)=True:=eq_true ⟨by omega,by omega,(hF k an).1⟩;have av:= @cz _ _ _ 6 ht.1 (by rw[cQ,cQ,cQ,ht.2.1]);clear hF hM;match t,ht with
        |[t1,t2,t3],ht=>
        have e1:(vL u.fields[k]).cs=[.int .i64 u.fields[k].fl,.int .i64 (jK u.fields[k].desc).1.dim,.int .u8 (jK u.fields[k].desc).1.base,.string (bs (jK u.fields[k].desc).1.name),.string (bs u.fields[k].name)]:=rfl;have ho:t1.oneCell' =true/\t2.oneCell' =true/\t3.oneCell' =true:=by simpa using ht.2.2
        simp only[go_sem,hc,aL,av,xW,aD,ho.1,ho.2.1,ho.2.2];refine⟨by omega,jq (by have:=hB.fn;omega) (by decide),by unfold aB;have:=hB.fn;omega,k+1,⟨by omega,rfl,rfl,rfl,?_⟩,an,by omega⟩;rw[u4 _ an,List.map_append,List.map_singleton,xg,e1]
      · obtain rfl:k=u.fields.length:=by omega
        have hc:((u.fields.length:Int)<(u.fields.length:Int))=False:=eq_false (by omega);clear hF an;simp only[go_sem,hc,List.take_length];refine xq 2 5 ⟨2,33,[.v (.int .i64 u.fl),.v (.string (bs u.name)),.v (.string (bs u.super)),.v (.slice none 0 0),.vec 3 u.fields.length,.v (.slice none 0 0),.v (.slice none 0 0)]⟩ 45 8 (by decide) rfl rfl ?_;simp only[go_sem]
        refine ct Bq (fun x:Nat×List Value×Mem=>⟨[⟨52,[],.v (.int .i64 x.1)⟩,⟨51,[],.v (.int .i64 u.methods.length)⟩,⟨50,[],.v (.slice ma u.methods.length mc)⟩,⟨3,[],.box 2 0⟩,⟨2,[],.box 1 0⟩,⟨1,[],.box 0 0⟩],[],
          [⟨2,33,[.v (.int .i64 u.fl),.v (.string (bs u.name)),.v (.string (bs u.super)),.v (.slice none 0 0),.vec 3 u.fields.length,.vec 4 x.1,.v (.slice none 0 0)]⟩,
           ⟨1,33,[.v (.int .i64 0),.v (.string (bs [])),.v (.string (bs [])),.v (.slice none 0 0),.v (.slice none 0 0),.v (.slice none 0 0),.v (.slice none 0 0)]⟩,
           ⟨0,107,[.v (.int .i64 u.fl),.v (.string (bs u.name)),.v (.string (bs u.super)),.v (.slice none 0 0),.v (.slice fa u.fields.length fc),.v (.slice ma u.methods.length mc),.v (.string (bs []))]⟩],
           [⟨4,x.1,45,8,x.1,x.2.1⟩,⟨3,u.fields.length,40,5,u.fields.length,flat Fc.cs (u.fields.map vL)⟩],5,x.2.2⟩)
          (fun x=>ah m x.2.2/\x.1<=u.methods.length/\x.2.1.length=x.1 * 8/\eu (gW x.2.2) 8 ((u.methods.take x.1).map yq) x.2.1) (fun x=>u.methods.length - x.1) (0,[],m) (by kernel_rfl) (fun _ _=>aU rfl) (fun x hx=>hx.1) (fun _=> ?_) ?_ ⟨.inl rfl,aF _,rfl,trivial⟩ ?_
        · simp only[go_sem]
        · simp only[go_sem]
          exact rfl
        · rintro⟨k,ys,mm⟩ ⟨i1,i2,i3,i4⟩
          dsimp only at i1 i2 i3 i4;by_cases an:k<u.methods.length
          · have hc:((k:Int)<(u.methods.length:Int))=True:=eq_true (by omega)
            have hd:=hB.md _ (List.getElem_mem an);refine Exists.elim (hM k an).2 fun t ht=> ?_
            have aL:bO ma u.methods.length (k:Int)=True:=eq_true ⟨by omega,by omega,(hM k an).1⟩;have av:= @cz _ _ _ 11 (oP i1 ht.1) (by rw[cQ,cQ,cQ,ht.2.1]);clear hM;match t,ht with
            |[t1,t2,t3,t4,t5,t6,t7,t8],ht=>
            have ho:t1.oneCell' =true/\t2.oneCell' =true/\t3.oneCell' =true/\t4.oneCell' =true/\t5.oneCell' =true/\t6.oneCell' =true/\t7.oneCell' =true/\t8.oneCell' =true:=by simpa using ht.2.2
            refine Exists.elim (⟨_,rfl⟩:∃g,eX u.methods[k].desc=g) fun g hg=> ?_
            have hS:=Qh u.methods[k].desc mm hd;rw[hg] at hS;simp only[go_sem,hc,aL,av,ho.1,ho.2.1,ho.2.2.1,ho.2.2.2.1,ho.2.2.2.2.1,ho.2.2.2.2.2.1,ho.2.2.2.2.2.2.1,ho.2.2.2.2.2.2.2];refine ak (hS.mono ?_);clear hS av;rintro r H' m1 aQ ⟨l1,rfl,ga,gc,g1,g2,rfl⟩;simp only[go_sem];clear hd hc aL ho;refine xq 7 5 ⟨7,45,[.v (.int .i64 u.methods[k].fl),.v (.int .i64 g.1.1.dim),.v (.int .u8 g.1.1.base),.v (.string (bs g.1.1.name)),.v (.string (bs u.methods[k].name)),.v (.slice none 0 0),.v (.bool true),.v (.slice none 0 0)]⟩ 95 4 (by decide) rfl rfl ?_;simp only[go_sem]
            refine ct Bq (fun j:Nat=>⟨[⟨72,[],.v (.int .i64 j)⟩,⟨71,[],.v (.int .i64 g.1.2.length)⟩,⟨70,[],.v (.slice ga g.1.2.length gc)⟩,⟨12,[],.box 7 0⟩,⟨52,[],.v (.int .i64 k)⟩,⟨51,[],.v (.int .i64 u.methods.length)⟩,⟨50,[],.v (.slice ma u.methods.length mc)⟩,⟨3,[],.box 2 0⟩,⟨2,[],.box 1 0⟩,⟨1,[],.box 0 0⟩],[],
              [⟨7,45,[.v (.int .i64 u.methods[k].fl),.v (.int .i64 g.1.1.dim),.v (.int .u8 g.1.1.base),.v (.string (bs g.1.1.name)),.v (.string (bs u.methods[k].name)),.vec 8 j,.v (.bool true),.v (.slice none 0 0)]⟩,
               ⟨2,33,[.v (.int .i64 u.fl),.v (.string (bs u.name)),.v (.string (bs u.super)),.v (.slice none 0 0),.vec 3 u.fields.length,.vec 4 k,.v (.slice none 0 0)]⟩,
               ⟨1,33,[.v (.int .i64 0),.v (.string (bs [])),.v (.string (bs [])),.v (.slice none 0 0),.v (.slice none 0 0),.v (.slice none 0 0),.v (.slice none 0 0)]⟩,
               ⟨0,107,[.v (.int .i64 u.fl),.v (.string (bs u.name)),.v (.string (bs u.super)),.v (.slice none 0 0),.v (.slice fa u.fields.length fc),.v (.slice ma u.methods.length mc),.v (.string (bs []))]⟩],
               [⟨8,j,95,4,j,flat Pc.cs ((g.1.2.take j).map fun t=>⟨t,[]⟩)⟩,⟨4,k,45,8,k,ys⟩,⟨3,u.fields.length,40,5,u.fields.length,flat Fc.cs (u.fields.map vL)⟩],9,m1⟩)
              (fun j=>j<=g.1.2.length) (fun j=>g.1.2.length - j) 0 (by kernel_rfl) (fun _ _=>aU rfl) (fun _ _=> .inl rfl) (fun _=> ?_) ?_ (aF _) ?_
            · simp only[go_sem]
            · simp only[go_sem]
              exact⟨rfl,rfl⟩
            · intro j hj
              have acb:g.1.2.length<=16:=by rw[<- hg];exact Qi _
              by_cases iq:j<g.1.2.length
              · have hc:((j:Int)<(g.1.2.length:Int))=True:=eq_true (by omega)
                have dw:=dK g1 iq;rw[my (f:=aD) (sz:=3) (fun _=>rfl) iq] at dw;have aL:bO ga g.1.2.length (j:Int)=True:=eq_true ⟨by omega,by omega,dw.2⟩;have av:= @cz _ _ _ 3 dw.1 rfl;simp only[go_sem,hc,aL,av,aD];refine⟨jq (by omega) (by decide),by unfold aB;omega,j+1,⟨by omega,rfl,rfl,rfl,?_⟩,iq,by omega⟩;rw[u4 _ iq,List.map_append,List.map_singleton,xg];rfl
              · have hc:((j:Int)<(g.1.2.length:Int))=False:=eq_false (by omega)
                simp only[go_sem,hc];have hmn:=hB.mn;have uv:=hB.mo _ (List.getElem_mem an);have Fz:j=g.1.2.length:=by clear uv;omega
                intro a c m2 e1 e2 e3
                refine⟨jq (by clear uv;omega) (by decide),by unfold aB;clear uv;omega,(k+1,ys++[Value.int .i64 u.methods[k].fl,.int .i64 g.1.1.dim,.int .u8 g.1.1.base,.string (bs g.1.1.name),.string (bs u.methods[k].name),.slice a j c,.bool true,.slice none 0 0],m2),
                  ⟨by omega,rfl,⟨rfl,rfl,rfl⟩,.inl rfl⟩,⟨ae i1 (ae l1 (.inr e1)),an,?_,?_⟩,by clear uv;omega⟩
                · rw[aZ,i3]
                  simp only[cQ,mb];omega
                · rw[Fz,List.take_length] at e3
                  subst hg;dsimp only;rw[u4 _ an,List.map_append,List.map_singleton];refine vt (l2:=[yq u.methods[k]]) ⟨⟨⟨u.methods[k].fl,(eX u.methods[k].desc).1.1,u.methods[k].name,a,j,c,true,none,0,0⟩,⟨rfl,rfl,rfl,rfl,rfl⟩,⟨by rw[Fz];exact(List.length_map _).symm,e2,rfl,aA _⟩,uv,?_,[],⟨rfl,fun h=>absurd h (Nat.lt_irrefl 0)⟩,trivial⟩,trivial⟩ ?_ (iT (fun _ _=>lg (ae l1 (.inr e1))) i4)
                  · rw[i3,SY _ _ i2]
                  · show ax m2 a j 4 _
                    rw[Fz];exact e3
          · obtain rfl:k=u.methods.length:=by omega
            have hc:((u.methods.length:Int)<(u.methods.length:Int))=False:=eq_false (by omega);rw[List.take_length] at i4;clear hM;simp only[go_sem,hc];refine s8 (b:=⟨3,u.fields.length,40,5,u.fields.length,flat Fc.cs (u.fields.map vL)⟩) 4 rfl (by simp [cq]) ⟨[],[⟨4,u.methods.length,45,8,u.methods.length,ys⟩]⟩ (List.Sublist.refl _) (.cons_cons _ (.cons _ (List.Sublist.refl _))) fun a1 c1 m1 e1 e2 e3=> ?_
            refine s8 (b:=⟨4,u.methods.length,45,8,u.methods.length,ys⟩) 5 rfl (by simp [cq]) ⟨[],[]⟩ (List.Sublist.refl _) (.cons _ (List.Sublist.refl _)) fun a2 c2 m2 f1 f2 f3=> ?_
            have hle:ah m m2:=ae i1 (ae (.inr e1) (.inr f1));refine⟨hle,rfl,⟨u.fl,u.name,u.super,none,0,0,a1,u.fields.length,c1,a2,u.methods.length,c2,none,0,0⟩,rfl,rfl,_,⟨rfl,rfl,rfl,rfl⟩,⟨rfl,aA _,(List.length_map _).symm,e2,(List.length_map _).symm,f2,rfl,aA _⟩,hB.ok,⟨rfl,fun h=>absurd h (Nat.lt_irrefl 0)⟩,aM (.inr f1) e3,ys,[],f3,iT (fun _ _=>lg (ae (.inr e1) (.inr f1))) i4,⟨rfl,fun h=>absurd h (Nat.lt_irrefl 0)⟩,trivial⟩
theorem Px (u:Cm) (cs:List Value) (m:Mem) (hB:CmB u) (h:rQ m u cs):FnH Tryz.prog 66 [.v (.agg ⟨cs⟩)] ⟨[],[]⟩ m
  fun r H' m' =>ah m m' /\H' =⟨[],[]⟩/\∃X:Cc,r= .v (.agg ⟨X.cs⟩)/\X.name=u.name/\gY m' (rO u) X.cs:=by
 refine ka (nL (nL (RC u cs m hB h))) ?_;rintro r H' m' hm ⟨h1,h2,X,rfl,h3,h4⟩;exact⟨.v (.agg ⟨X.cs⟩),fun V=>by show Value.agg ⟨X.cs⟩=Value.agg ⟨_⟩;rw[lx],h1,h2,X,rfl,h3,h4⟩
def tM (n:Int):Bool:=decide (-9223372036854775808<=n/\n<=9223372036854775807)
def yX (t:Ty):Bool:=tM t.dim&&(decide (0<=t.base/\t.base<256)&&decide (t.name.length<=aw))
theorem Ee {t:Ty} (h:yX t=true):tW t:=by
 simp only[yX,tM,bw,cS] at h;exact⟨h.1,h.2.1,h.2.2⟩
def Fa (d:Md):Bool:=tM d.fl&&(yX d.res&&(decide (d.name.length<=aw)&&(decide (d.params.length<=aw)&&(d.params.all (fun p=>yX p.ty&&decide (p.name.length<=aw))&&decide (d.body.length<=aw)))))
theorem Vp {d:Md} (h:Fa d=true):MdOk d:=by
 simp only[Fa,tM,bw,cS,List.all_eq_true] at h;exact⟨h.1,Ee h.2.1,h.2.2.1,h.2.2.2.1,fun p hp=>⟨Ee (h.2.2.2.2.1 p hp).1,(h.2.2.2.2.1 p hp).2⟩,h.2.2.2.2.2⟩
def E3 (d:Cd):Bool:=tM d.fl&&(decide (d.name.length<=aw)&&(decide (d.super.length<=aw)&&(decide (d.ifs=[])&&(decide (d.fields.length<=aw)&&(d.fields.all (fun f=>tM f.fl&&(yX f.ty&&decide (f.name.length<=aw)))&&(decide (d.methods.length<=aw)&&decide (d.init.length<=aw)))))))
theorem Un {d:Cd} (h:E3 d=true):CdOk d:=by
 simp only[E3,tM,bw,cS,List.all_eq_true] at h;obtain⟨h1,h2,h3,h4,h5,h6,h7,h8⟩:=h;exact⟨h1,h2,h3,by rw[h4];exact aF _,fun s hs=>(by rw[h4] at hs;cases hs),h5,fun f hf=>⟨(h6 f hf).1,Ee (h6 f hf).2.1,(h6 f hf).2.2⟩,h7,h8⟩
def FZ (u:Cm):Bool:=decide (u.fields.length<=1000)&&(decide (u.methods.length<=1000)&&(u.fields.all (fun f=>decide (f.desc.length<=1000))&&(u.methods.all (fun f=>decide (f.desc.length<=1000))&&(E3 (rO u)&&u.methods.all fun f=>Fa (yq f)))))
theorem Wz {u:Cm} (h:FZ u=true):CmB u:=by
 simp only[FZ,bw,cS,List.all_eq_true] at h;obtain⟨h1,h2,h3,h4,h5,h6⟩:=h;exact⟨h1,h2,h3,h4,Un h5,fun f hf=>Vp (h6 f hf)⟩
theorem Q6:cZ.all FZ=true:=by kernel_rfl
theorem Xx:∀u∈cZ,CmB u:=fun u hu=>Wz (List.all_eq_true.1 Q6 u hu)
theorem Zg:aK Tryz.prog 100=2:=by kernel_rfl
theorem Wp:a8 Tryz.prog 100 0=some (0,none,1):=by kernel_rfl
theorem Wo:a8 Tryz.prog 100 1=some (1,none,1):=by kernel_rfl
theorem YB:cC Tryz.prog 98=some none:=by kernel_rfl
theorem YJ:cC Tryz.prog 100=some (some 2):=by kernel_rfl
theorem Yq:fP Tryz.prog 100=true:=by kernel_rfl
theorem UR:cU Tryz.prog 100=some [.v (.slice none 0 0),.v (.map none)]:=by kernel_rfl
def eV:List Value:=[.int .i64 0,.string (bs []),.string (bs []),.slice none 0 0,.slice none 0 0,.slice none 0 0,.slice none 0 0]
theorem Et:dM Tryz.prog 98=(1000002,some (.agg ⟨eV⟩)):=by kernel_rfl
theorem Vq:oT Tryz.prog 98:=
 Hv (k:=9) (e:=33) (by kernel_rfl) (by kernel_rfl) (by rw[Et];decide) fun w=>by
  rw[Et];exact C1 (i:=(Tryz.prog.info? 33).getD default) (by kernel_rfl) (by kernel_rfl) w
attribute [go_sem] eV forall_eq' Zg Wp Wo YB YJ Yq UR Et Vq Ky Kl
@[reducible] def F0 (x:Value) (l:List Value):Hp:=⟨[⟨0,100,[.v x,.mp 1]⟩,⟨1,1000002,l.map .v⟩],[]⟩
attribute [go_sem] F0
def qD (L:List Cc) (X:Cc):List Cc:=match fnd L X.name with
 |some _=>L
 |none=>L++[X]
theorem Gb (x:Value) (L:List Cc) (X:Cc) (m:Mem):FnH Tryz.prog 64 [.box 0 0,.v (.agg ⟨X.cs⟩)] (F0 x (kO L)) m
  fun r H' m' =>m' =m/\r= .tup []/\H' =F0 x (kO (qD L X)):=by
 refine enter bj aq Tryz.func64 rfl rfl (by kernel_rfl) rfl ?_ ?_
 ·simp only[go_sem,Cc.cs]
 ·simp only[go_sem,Cc.cs];cases hf:fnd L X.name with
  |some Y=>
   have h1:qD L X=L:=by unfold qD;rw[hf]
   refine bX (.hoist 0 (.hoist 1 (.hoist 2 (.hoist 3 (.hoist 4 (.hoist 5 (.hoist 6 (.hoist 7 (.hoist 8 (.hoist 9 (.alt 10 [9,8,7,6,5,4,3,2,1,0] (.alt 11 [9] (.hoist 12 .done) .stop) .stop))))))))))) aq (by kernel_rfl) (by kernel_rfl) ?_;simp only[go_sem,iN,hf,nA];exact⟨rfl,rfl,aA _,by rw[h1]⟩
  |none=>
   have h1:qD L X=L++[X]:=by unfold qD;rw[hf]
   have hp:=Kn X.name X rfl L hf;simp only[Cc.cs] at hp;refine bX (.hoist 0 (.hoist 1 (.hoist 2 (.hoist 3 (.hoist 4 (.hoist 5 (.hoist 6 (.hoist 7 (.hoist 8 (.hoist 9 (.alt 10 [9,8,7,6,5,4,3,2,1,0] (.alt 11 [9] (.hoist 12 .done) .stop) .stop))))))))))) aq (by kernel_rfl) (by kernel_rfl) ?_;simp only[go_sem,iN,hf,nA];refine bX (.hoist 0 (.hoist 1 (.hoist 2 (.hoist 3 (.hoist 4 (.hoist 5 (.hoist 6 (.alt 7 [] .done .stop)))))))) aq (by kernel_rfl) (by kernel_rfl) ?_;simp only[go_sem,iN,hf,nA,hp,h1]
theorem Je {m:Mem} {E:List Cd} {L:List Cc} (h:MpR m E L) {d:Cd} {X:Cc} (hX:X.name=d.name) (hd:gY m d X.cs):MpR m (E++[d]) (qD L X):=by
 unfold qD;cases hc:cls E d.name with
 |none=>
  rw[hX,h.none hc];exact h.new hX hd hc
 |some x=>
  obtain⟨Y,hY,_⟩:=h.some hc;rw[hX,hY];exact h.old hc
theorem K6 {m:Mem} {a:Option Addr} {l:List Cd} {xs:List Value} (h:ax m a l.length 7 xs) (hr:eu (gY m) 7 l xs) {k:Nat} (hk:k<l.length):
  ∃X:Cc,Rd m (bc a (k * 7)) X.cs/\a≠none/\X.name=l[k].name/\gY m l[k] X.cs:=by
 obtain⟨h1,h2⟩:=dK h hk;have bU:=qd hr hk;obtain⟨X,e1,e2⟩:=bU;have e:=e1.1;rw[e] at h1;exact⟨X,h1,h2,e1.2.2.1,X,⟨rfl,e1.2⟩,e2⟩
theorem Pe {j:Nat} (h:j<21):bb.take (j+1)=bb.take j++[rO (cZ[j]'h)]:=by
 have e:bb[j]'(by unfold bb;rw[List.length_map];exact h)=rO (cZ[j]'h):=List.getElem_map ..;rw[<- e];exact u4 bb (by unfold bb;rw[List.length_map];exact h)
theorem X3 {m:Mem} {a:Option Addr} {l:List Cm} {xs:List Value} (h:ax m a l.length 7 xs) (hr:eu (rQ m) 7 l xs) {k:Nat} (hk:k<l.length):
  ∃cs,Rd m (bc a (k * 7)) cs/\a≠none/\cs.length=7/\rQ m l[k] cs:=by
 obtain⟨h1,h2⟩:=dK h hk;have bU:=qd hr hk;refine⟨_,h1,h2,?_,bU⟩;obtain⟨fa,ma,fc,mc,xf,xm,e,_⟩:=bU;rw[e];rfl
theorem O3 (pr:List Cd) (a:Option Addr) (c:Nat) (m:Mem) (h:gV m pr a pr.length c):FnH Tryz.prog 36 [.v (.slice a pr.length c)] ⟨[],[]⟩ m
  fun r H' m' =>ah m m' /\∃L,r= .box 1 0/\H' =⟨[⟨1,100,[.v (.slice a pr.length c),.mp 0]⟩,⟨0,1000002,(kO L).map .v⟩],[]⟩/\MpR m' (pr++bb) L:=by
 obtain⟨_,h2,h3,xs,h4,h5⟩:=h;refine br aq Tryz.func36 ?_
 ·simp only[go_sem];have hy:=fun k hk=>K6 h4 h5 (k:=k) hk
  clear h4 h5;refine ct aq (fun x:Nat×List Cc=>⟨[⟨14,[],.v (.int .i64 x.1)⟩,⟨13,[],.v (.int .i64 pr.length)⟩,⟨12,[],.v (.slice a pr.length c)⟩,⟨3,[],.box 1 0⟩,⟨2,[],.v (.pointer none)⟩],[],[⟨1,100,[.v (.slice a pr.length c),.mp 0]⟩,⟨0,1000002,(kO x.2).map .v⟩],[],2,m⟩)
   (fun x=>x.1<=pr.length/\MpR m (pr.take x.1) x.2) (fun x=>pr.length - x.1) (0,[]) (by kernel_rfl) (fun _ _=>aU rfl) (fun x hx=> .inl rfl) (fun _=> ?_) ?_ ⟨aF _,MpR.nil m⟩ ?_
  ·simp only[go_sem,mr]
  ·simp only[go_sem];exact⟨rfl,rfl⟩
  ·rintro⟨i,L⟩ ⟨i1,i2⟩;dsimp only at i1 i2;by_cases an:i<pr.length
   ·have hc:((i:Int)<(pr.length:Int))=True:=eq_true (by omega);refine Exists.elim (hy i an) fun X hX=> ?_
    have aL:bO a pr.length (i:Int)=True:=eq_true ⟨by omega,by omega,hX.2.1⟩;have av:= @cz _ _ _ 7 hX.1 rfl;have hD:=Gb (.slice a pr.length c) L X m;clear hy;simp only[Cc.cs] at av hD;have bU:=Je i2 hX.2.2.1 hX.2.2.2;simp only[go_sem,hc,aL,av,nA,mr];refine ak ((aC hD fun V=>rfl).mono ?_);clear hD av;rintro r H' m1 aQ ⟨rfl,rfl,rfl⟩;simp only[go_sem,mr,bk,bm,bo,bp];refine⟨by unfold aB;unfold aw at h3;omega,(i+1,qD L X),⟨by omega,rfl⟩,⟨an,?_⟩,by omega⟩;rw[u4 _ an];exact bU
   ·have hc:((i:Int)<(pr.length:Int))=False:=eq_false (by omega);rw[jI (by omega)] at i2;clear hy;have hC:=MZ m;simp only[go_sem,hc];refine ak (hC.mono ?_);clear hC;rintro r H' m1 aQ ⟨l1,rfl,a2,c2,vs,rfl,g1,g2,g3⟩;simp only[go_sem,mr];have hu:=fun k hk=>X3 (l:=cZ) g2 g3 (k:=k) hk
    clear g2 g3;refine ct aq (fun x:Nat×List Cc×Mem=>⟨[⟨24,[],.v (.int .i64 x.1)⟩,⟨23,[],.v (.int .i64 ((21:Nat):Int))⟩,⟨22,[],.v (.slice a2 21 c2)⟩,⟨3,[],.box 1 0⟩,⟨2,[],.v (.pointer none)⟩],[],[⟨1,100,[.v (.slice a pr.length c),.mp 0]⟩,⟨0,1000002,(kO x.2.1).map .v⟩],[],2,x.2.2⟩)
     (fun x=>ah m1 x.2.2/\x.1<=21/\MpR x.2.2 (pr++bb.take x.1) x.2.1) (fun x=>21 - x.1) (0,L,m1) (by kernel_rfl) (fun _ _=>aU rfl) (fun x hx=>hx.1) (fun _=> ?_) ?_ ⟨.inl rfl,aF _,by rw[List.take_zero,List.append_nil];exact i2.up l1⟩ ?_
    ·simp only[go_sem,mr]
    ·simp only[go_sem];rfl
    ·rintro⟨j,L2,mm⟩ ⟨j1,j2,j3⟩;dsimp only at j1 j2 j3;by_cases an:j<21
     ·have hc:((j:Int)<((21:Nat):Int))=True:=eq_true (by omega);refine Exists.elim (hu j an) fun us wE=> ?_
      have aL:bO a2 21 (j:Int)=True:=eq_true ⟨by omega,by omega,wE.2.1⟩;have av:= @cz _ _ _ 7 (oP j1 wE.1) wE.2.2.1;have hD:=Px (cZ[j]'an) us mm (Xx _ (List.getElem_mem _)) (sZ j1 wE.2.2.2);clear hu;refine Exists.elim wE.2.2.2 fun fa q=>Exists.elim q fun ma q=>Exists.elim q fun fc q=>Exists.elim q fun mc q=>Exists.elim q fun xf q=>Exists.elim q fun xm q=> ?_
      have e:=q.1;clear q wE;subst e;simp only[eE] at av hD;simp only[go_sem,hc,aL,av,nA,mr];refine ak ((aC hD fun V=>rfl).mono ?_);clear hD av;rintro r H' m2 aJ ⟨l2,rfl,X,rfl,x1,x2⟩;have hD:=Gb (.slice a pr.length c) L2 X m2;have bU:=Je (j3.up l2) (d:=rO cZ[j]) x1 x2;simp only[go_sem,nA,mr,bk,bm,bo,bp];refine ak (hD.mono ?_);clear hD;rintro r H' m3 dx ⟨rfl,rfl,rfl⟩;simp only[go_sem,mr,bk,bm,bo,bp];refine⟨by unfold aB;omega,(j+1,qD L2 X,m3),⟨by omega,rfl,.inl rfl⟩,⟨ae j1 l2,an,?_⟩,by omega⟩;have e:=Pe an;dsimp only;rw[e,<- List.append_assoc];exact bU
     ·have hc:((j:Int)<((21:Nat):Int))=False:=eq_false (by omega);clear hu;rw[jI (by show 21<=j;omega)] at j3;simp only[go_sem,hc];exact⟨ae l1 j1,L2,rfl,j3⟩
theorem GP (pr:List Cd) (a:Option Addr) (n c:Nat) (m:Mem) (h:gV m pr a n c) (hf:pr.length<=1099000):FnH Tryz.prog 36 [.v (.slice a n c)] ⟨[],[]⟩ m
  fun r H' m' =>ah m m' /\H' =⟨[],[]⟩/\∃ad b L,r= .v (.pointer (some ad))/\Ck m' ad pr (pr++bb) b a c L:=by
 obtain rfl:=h.1;refine UE (O3 pr a c m h) ?_;rintro r H' m' hm ⟨l,L,rfl,rfl,hM⟩;refine⟨1,0,_,_,_,(by decide:(100:Nat)<gn),rfl,rfl,fun p y m1 h1 h2 h3=> ?_⟩;have hp:=h2;have hy:=h3;obtain⟨ad,rfl,_⟩:=hp;obtain⟨b,_,_,_,rfl,_⟩:=hy;refine⟨ae l (.inr h1),rfl,ad,b,L,rfl,h2,nC (ae l (.inr h1)) h,h3,hM.up (.inr h1),?_⟩;rw[aZ];have:bb.length=21:=rfl;omega
structure Vis (E:List Cd) (out:List Nm):Prop where
 nd:out.Nodup
 kn:∀x∈out,(cls E x).isSome=true
theorem Vis.nil (E:List Cd):Vis E []:=⟨List.nodup_nil,fun x hx=>by cases hx⟩
theorem JN {α:Type} [DecidableEq α]:∀{l L:List α},l.Nodup->(∀x∈l,x∈L)->l.length<=L.length
 |[],_,_,_=>aF _
 |a::r,L,hn,hs=>by
  have ha:=hs a (bL ..);have hr:r.length<=(L.erase a).length:=JN (List.nodup_cons.1 hn).2 fun x hx=>(List.mem_erase_of_ne (fun e=>(List.nodup_cons.1 hn).1 (by rw[<- e];exact hx))).2 (hs x (bt _ hx))
  rw[List.length_erase_of_mem ha] at hr;have:0<L.length:=List.length_pos_of_mem ha;simp only[cQ];omega
theorem Kb {E:List Cd} {s:Nm} {d:Cd} (h:cls E s=some d):d∈E/\d.name=s:=by
 unfold cls at h;exact⟨List.mem_of_find?_eq_some h,by simpa using List.find?_some h⟩
theorem Vu {E:List Cd} {s:Nm} (h:(cls E s).isSome=true):s∈E.map (·.name):=by
 obtain⟨d,hd⟩:=Option.isSome_iff_exists.1 h;exact List.mem_map.2 ⟨d,(Kb hd).1,(Kb hd).2⟩
theorem Vis.len {E:List Cd} {out:List Nm} (h:Vis E out):out.length<=E.length:=by
 have:=JN h.nd fun x hx=>Vu (h.kn x hx)
 rwa [List.length_map] at this
theorem Vis.snoc {E:List Cd} {out:List Nm} {s:Nm} (h:Vis E out) (hs:(cls E s).isSome=true) (hn:out.contains s=false):Vis E (out++[s]):=by
 refine⟨List.nodup_append.2 ⟨h.nd,by simp,fun a ha b hb e=> ?_⟩,fun x hx=> ?_⟩
 ·rw[List.mem_singleton.1 hb] at e;rw[e,<- List.contains_iff_mem,hn] at ha;cases ha
 ·rcases List.mem_append.1 hx with hx |hx
  ·exact h.kn x hx
  ·rw[List.mem_singleton.1 hx];exact hs
theorem H8 {E:List Cd}:∀{f:Nat} {out:List Nm} {s:Nm},Vis E out->Vis E (fT E f out s)
 |0,_,_,h=>h
 |f+1,out,s,h=>by
  unfold fT;split
  ·exact h
  ·rename_i d hd;split
   ·exact h
   ·rename_i hc;exact H8 (h.snoc (by rw[hd];rfl) (by simpa using hc))
theorem ir (E:List Cd) (s:Nm):Vis E (bP E s):=H8 (Vis.nil E)
def fm (E:List Cd) (f:Nat) (out:List Nm) (s:Nm):List Nm:=
 match cls E s with
 |some d=>if out.contains s=true then out else gk E f (out++[s]) d.ifs
 |none=>out
theorem sT (E:List Cd) (f:Nat) (out l:List Nm):gk E (f+1) out l=l.foldl (fm E f) out:=rfl
theorem IQ {α β:Type} (Q:α->α->Prop) (hr:∀a,Q a a) (ht:∀a b c,Q a b->Q b c->Q a c) (g:α->β->α) (h:∀a b,Q a (g a b)):∀(l:List β) (a:α),Q a (l.foldl g a)
 |[],a=>hr a
 |b::r,a=>ht _ _ _ (h a b) (IQ Q hr ht g h r (g a b))
theorem Ad {E:List Cd}:∀{f:Nat} {out l:List Nm},out<+:gk E f out l
 |0,out,_=>List.prefix_refl out
 |f+1,out,l=>by
  rw[sT];refine IQ (fun a b=>a<+:b) List.prefix_refl (fun _ _ _ h1 h2=>List.IsPrefix.trans h1 h2) _ (fun a s=> ?_) l out;unfold fm;split
  ·split
   ·exact List.prefix_refl _
   ·exact List.IsPrefix.trans (List.prefix_append _ _) Ad
  ·exact List.prefix_refl _
theorem OJ {E:List Cd} {f:Nat} {out:List Nm} {s:Nm}:out<+:fm E f out s:=by
 unfold fm;split
 ·split
  ·exact List.prefix_refl _
  ·exact List.IsPrefix.trans (List.prefix_append _ _) Ad
 ·exact List.prefix_refl _
theorem DC {α β:Type} (I:α->Prop) (g:α->β->α) (h:∀a b,I a->I (g a b)):∀(l:List β) (a:α),I a->I (l.foldl g a)
 |[],_,ha=>ha
 |b::r,a,ha=>DC I g h r (g a b) (h a b ha)
theorem Ac {E:List Cd}:∀{f:Nat} {out l:List Nm},Vis E out->Vis E (gk E f out l)
 |0,_,_,h=>h
 |f+1,out,l,h=>by
  rw[sT];refine DC (Vis E) _ (fun a s ha=> ?_) l out h;unfold fm;split
  ·rename_i d hd;split
   ·exact ha
   ·rename_i hc;exact Ac (ha.snoc (by rw[hd];rfl) (by simpa using hc))
  ·exact ha
theorem OI {E:List Cd} {f:Nat} {out:List Nm} {s:Nm} (ha:Vis E out):Vis E (fm E f out s):=by
 unfold fm;split
 ·rename_i d hd;split
  ·exact ha
  ·rename_i hc;exact Ac (ha.snoc (by rw[hd];rfl) (by simpa using hc))
 ·exact ha
theorem Gh {E:List Cd}:∀{f:Nat} {out l:List Nm},Vis E out->E.length<out.length+f->gk E (f+1) out l=gk E f out l
 |0,out,l,h,hf=>by have:=h.len;omega
 |f+1,out,l,h,hf=>by
  rw[sT,sT];have key:∀(l:List Nm) (a:List Nm),Vis E a->out.length<=a.length->l.foldl (fm E (f+1)) a=l.foldl (fm E f) a:=by
   intro l;induction l with
   |nil=>intro a _ _;rfl
   |cons s r ih=>
    intro a ha hl;have e:fm E (f+1) a s=fm E f a s:=by
     unfold fm;cases hc:cls E s with
     |none=>rfl
     |some d=>
      dsimp only;split
      ·rfl
      ·rename_i hn;exact Gh (ha.snoc (by rw[hc];rfl) (by simpa using hn)) (by rw[aZ,nz];omega)
    rw[List.foldl_cons,List.foldl_cons,e];exact ih _ (OI ha) (dk hl OJ.length_le)
  exact key l out h (aA _)
theorem G7 {E:List Cd}:∀{f:Nat} {out:List Nm} {s:Nm},Vis E out->E.length<out.length+f->fT E (f+1) out s=fT E f out s
 |0,out,s,h,hf=>by have:=h.len;omega
 |f+1,out,s,h,hf=>by
  rw[fT,fT.eq_2];cases hc:cls E s with
  |none=>rfl
  |some d=>
   dsimp only;split
   ·rfl
   ·rename_i hn;exact G7 (h.snoc (by rw[hc];rfl) (by simpa using hn)) (by rw[aZ,nz];omega)
theorem Ab {E:List Cd} {out l:List Nm} (h:Vis E out):Vis E (gU E out l):=Ac h
theorem ld (E:List Cd) (s:Nm):Vis E (cH E s):=DC (Vis E) _ (fun _ _ h=>Ab h) _ _ (Vis.nil E)
/-! Functions of values alone. -/
def vQ (F:Ty->Value):List Value->Option (Prop×Value)
 |[.agg ⟨[.int .i64 d,.int .u8 b,.string s]⟩]=>some (True,F ⟨d,b,tl s⟩)
 |_=>none
def tH (v:Value):List Value->Option (Prop×Value)
 |[]=>some (True,v)
 |_=>none
def yB (F:Nm->Value):List Value->Option (Prop×Value)
 |[.string s]=>some (True,F (tl s))
 |_=>none
def Bt:List Value->Option (Prop×Value)
 |[.bool b,.agg ⟨[.int .i64 d,.int .u8 k,.string s]⟩]=>some (True,.tuple ⟨[.agg ⟨aD (eC b ⟨d,k,tl s⟩).1⟩,.int .i64 (eC b ⟨d,k,tl s⟩).2]⟩)
 |_=>none
attribute [go_sem] vQ.eq_1 tH.eq_1 yB.eq_1 Bt.eq_1
theorem DV {P:Program} {f:FuncId} {F:Ty->Value} (h:∀(t:Ty) (m:Mem),FnH P f [.v (.agg ⟨aD t⟩)] ⟨[],[]⟩ m fun r H' _=>r= .v (F t)/\H' =⟨[],[]⟩):
  ∀aN y,vQ F aN=some y->y.1->∀m,FnH P f (aN.map SV.v) ⟨[],[]⟩ m fun r H' _=>r= .v y.2/\H' =⟨[],[]⟩:=fun aN y hy hB m=>by
 unfold vQ at hy;split at hy
 ·rename_i d b s;cases hy;have:=h ⟨d,b,tl s⟩ m;unfold aD at this;rwa [eW] at this
 ·cases hy
theorem AN {P:Program} {f:FuncId} {v:Value} (h:∀(m:Mem),FnH P f [] ⟨[],[]⟩ m fun r H' _=>r= .v v/\H' =⟨[],[]⟩):
  ∀aN y,tH v aN=some y->y.1->∀m,FnH P f (aN.map SV.v) ⟨[],[]⟩ m fun r H' _=>r= .v y.2/\H' =⟨[],[]⟩:=fun aN y hy hB m=>by
 unfold tH at hy;split at hy
 ·cases hy;exact h m
 ·cases hy
theorem Jt {P:Program} {f:FuncId} {F:Nm->Value} (h:∀(s:Nm) (m:Mem),FnH P f [.v (.string (bs s))] ⟨[],[]⟩ m fun r H' _=>r= .v (F s)/\H' =⟨[],[]⟩):
  ∀aN y,yB F aN=some y->y.1->∀m,FnH P f (aN.map SV.v) ⟨[],[]⟩ m fun r H' _=>r= .v y.2/\H' =⟨[],[]⟩:=fun aN y hy hB m=>by
 unfold yB at hy;split at hy
 ·rename_i s;cases hy;have:=h (tl s) m;rwa [eW] at this
 ·cases hy
theorem SF {P:Program} {f:FuncId} (h:∀(b:Bool) (t:Ty) (m:Mem),FnH P f [.v (.bool b),.v (.agg ⟨aD t⟩)] ⟨[],[]⟩ m fun r H' _=>r= .v (.tuple ⟨[.agg ⟨aD (eC b t).1⟩,.int .i64 (eC b t).2]⟩)/\H' =⟨[],[]⟩):
  ∀aN y,Bt aN=some y->y.1->∀m,FnH P f (aN.map SV.v) ⟨[],[]⟩ m fun r H' _=>r= .v y.2/\H' =⟨[],[]⟩:=fun aN y hy hB m=>by
 unfold Bt at hy;split at hy
 ·rename_i b d k s;cases hy;have:=h b ⟨d,k,tl s⟩ m;simp only[aD,eW] at this;exact this
 ·cases hy
section
variable (m:Mem)
theorem Hm:FnH Tryz.prog 85 [] ⟨[],[]⟩ m fun r H' _=>r= .v (.agg ⟨aD ko⟩)/\H' =⟨[],[]⟩:=by
 refine ka (R:=fun r H' m' =>r=dD ko/\H' =⟨[],[]⟩) ?_ fun r H' m' _ hr=>⟨_,fun V=>by rw[hr.1];rfl,rfl,hr.2⟩
 refine br aq Tryz.func85 ?_
 ·simp only[go_sem];exact rfl
theorem Rc:FnH Tryz.prog 191 [] ⟨[],[]⟩ m fun r H' _=>r= .v (.agg ⟨aD b8⟩)/\H' =⟨[],[]⟩:=by
 refine ka (R:=fun r H' m' =>r=dD b8/\H' =⟨[],[]⟩) ?_ fun r H' m' _ hr=>⟨_,fun V=>by rw[hr.1];rfl,rfl,hr.2⟩
 refine br aq Tryz.func191 ?_
 ·simp only[go_sem];exact rfl
theorem O9:FnH Tryz.prog 196 [] ⟨[],[]⟩ m fun r H' _=>r= .v (.agg ⟨aD dT⟩)/\H' =⟨[],[]⟩:=by
 refine ka (R:=fun r H' m' =>r=dD dT/\H' =⟨[],[]⟩) ?_ fun r H' m' _ hr=>⟨_,fun V=>by rw[hr.1];rfl,rfl,hr.2⟩
 refine br aq Tryz.func196 ?_
 ·simp only[go_sem];exact rfl
theorem HM (s:Nm):FnH Tryz.prog 86 [.v (.string (bs s))] ⟨[],[]⟩ m fun r H' _=>r= .v (.agg ⟨aD (eY s)⟩)/\H' =⟨[],[]⟩:=by
 refine ka (R:=fun r H' m' =>r=dD (eY s)/\H' =⟨[],[]⟩) ?_ fun r H' m' _ hr=>⟨_,fun V=>by rw[hr.1];rfl,rfl,hr.2⟩
 refine br aq Tryz.func86 ?_
 ·simp only[go_sem];exact rfl
theorem GU (t:Ty):FnH Tryz.prog 84 [.v (.agg ⟨aD t⟩)] ⟨[],[]⟩ m fun r H' _=>r= .v (.bool (eM t))/\H' =⟨[],[]⟩:=by
 refine enter bj aq Tryz.func84 rfl rfl (by kernel_rfl) rfl ?_ ?_
 ·simp only[go_sem,aD]
 ·simp only[go_sem,aD];rfl
theorem O7 (t:Ty):FnH Tryz.prog 193 [.v (.agg ⟨aD t⟩)] ⟨[],[]⟩ m fun r H' _=>r= .v (.string (bs (o7 t)))/\H' =⟨[],[]⟩:=by
 refine enter bj aq Tryz.func193 rfl rfl (by kernel_rfl) rfl ?_ ?_
 ·simp only[go_sem,aD]
 ·simp only[go_sem,aD];refine⟨fun h=> ?_,fun h=> ?_⟩
  ·unfold o7;rw[aa h];rfl
  ·unfold o7;rw[ai h]
theorem Q9 (b:Bool) (t:Ty):FnH Tryz.prog 190 [.v (.bool b),.v (.agg ⟨aD t⟩)] ⟨[],[]⟩ m fun r H' _=>r= .v (.tuple ⟨[.agg ⟨aD (eC b t).1⟩,.int .i64 (eC b t).2]⟩)/\H' =⟨[],[]⟩:=by
 refine ka (R:=fun r H' m' =>r= .tup [dD (eC b t).1,.v (.int .i64 (eC b t).2)]/\H' =⟨[],[]⟩) ?_ fun r H' m' _ hr=>⟨_,fun V=>by rw[hr.1];rfl,rfl,hr.2⟩
 refine enter bj aq Tryz.func190 rfl rfl (by kernel_rfl) rfl ?_ ?_
 ·simp only[go_sem,aD]
 ·simp only[go_sem,aD];refine⟨fun h=> ?_,fun h=> ?_⟩
  ·subst h;rfl
  ·subst h;rfl
end
/-! Lists of names in memory. -/
def E7 (m:Mem) (a:Option Addr) (n:Nat):List Nm:=(List.range n).map fun j=>match a with
 |some ad=>(match m.w.cell? (ad.add j) with |some (.string s)=>tl s |_=>[])
 |none=>[]
theorem xS {m:Mem} {a:Option Addr} {n:Nat} {l:List Nm} (h:ax m a n 1 (strs l)):E7 m a n=l:=by
 have hl:l.length=n:=by have:=h.1;simpa [strs] using this
 unfold E7;refine List.ext_getElem? fun j=> ?_
 by_cases hj:j<n
 ·obtain⟨ad,rfl,_,hc⟩:=h.2 (by omega);have h1:=(hc j (by omega)).1;have h2:(strs l)[j]? =some (.string (bs (l[j]'(by omega)))):=by unfold strs;rw[List.getElem?_map,List.getElem?_eq_getElem (by omega)];rfl
  rw[List.getElem?_map,List.getElem?_range hj,Option.map_some];simp only[h1,h2,Ep];rw[List.getElem?_eq_getElem (by omega)]
 ·rw[List.getElem?_eq_none (by simp;omega),List.getElem?_eq_none (by omega)]
def Bu:Mem->List Value->Option (Prop×Value)
 |m,[.slice a n _,.string s]=>some ((∃l,ax m a n 1 (strs l))/\n<=4611686018427387904,.bool ((E7 m a n).contains (tl s)))
 |_,_=>none
attribute [go_sem] Bu.eq_1
theorem SG:∀m aN y,Bu m aN=some y->y.1->FnH Tryz.prog 98 (aN.map SV.v) ⟨[],[]⟩ m fun r H' _=>r= .v y.2/\H' =⟨[],[]⟩:=fun m aN y hy hB=>by
 unfold Bu at hy;split at hy
 ·rename_i a n c s;cases hy;obtain⟨⟨l,h⟩,hn⟩:=hB;have:=uR l (tl s) a n c m h hn;rw[xS h];rwa [eW] at this
 ·cases hy
/-! The checker in memory. -/
def Zn (pr E:List Cd) (F:Nm->Value):Mem->List Value->Option (Prop×Value)
 |m,[p,.string s]=>some (ChkR m p pr E,F (tl s))
 |_,_=>none
def vB (pr E:List Cd) (F:Nm->Nm->Value):Mem->List Value->Option (Prop×Value)
 |m,[p,.string s,.string t]=>some (ChkR m p pr E,F (tl s) (tl t))
 |_,_=>none
def vR (pr E:List Cd) (F:Ty->Value):Mem->List Value->Option (Prop×Value)
 |m,[p,.agg ⟨[.int .i64 d,.int .u8 b,.string s]⟩]=>some (ChkR m p pr E,F ⟨d,b,tl s⟩)
 |_,_=>none
def yi (pr E:List Cd) (F:Ty->Ty->Value):Mem->List Value->Option (Prop×Value)
 |m,[p,.agg ⟨[.int .i64 d,.int .u8 b,.string s]⟩,.agg ⟨[.int .i64 d',.int .u8 b',.string s']⟩]=>some (ChkR m p pr E,F ⟨d,b,tl s⟩ ⟨d',b',tl s'⟩)
 |_,_=>none
attribute [go_sem] Zn.eq_1 vB.eq_1 vR.eq_1 yi.eq_1
section
variable {P:Program} {f:FuncId} {pr E:List Cd}
theorem Dx {F:Nm->Nm->Value} (h:∀(p:Value) (s t:Nm) (m:Mem),ChkR m p pr E->FnH P f [.v p,.v (.string (bs s)),.v (.string (bs t))] ⟨[],[]⟩ m fun r H' _=>r= .v (F s t)/\H' =⟨[],[]⟩):
  ∀m aN y,vB pr E F m aN=some y->y.1->FnH P f (aN.map SV.v) ⟨[],[]⟩ m fun r H' _=>r= .v y.2/\H' =⟨[],[]⟩:=fun m aN y hy hB=>by
 unfold vB at hy;split at hy
 ·rename_i p s t;cases hy;have:=h p (tl s) (tl t) m hB;rwa [eW,eW] at this
 ·cases hy
theorem DW {F:Ty->Value} (h:∀(p:Value) (t:Ty) (m:Mem),ChkR m p pr E->FnH P f [.v p,.v (.agg ⟨aD t⟩)] ⟨[],[]⟩ m fun r H' _=>r= .v (F t)/\H' =⟨[],[]⟩):
  ∀m aN y,vR pr E F m aN=some y->y.1->FnH P f (aN.map SV.v) ⟨[],[]⟩ m fun r H' _=>r= .v y.2/\H' =⟨[],[]⟩:=fun m aN y hy hB=>by
 unfold vR at hy;split at hy
 ·rename_i p d b s;cases hy;have:=h p ⟨d,b,tl s⟩ m hB;simp only[aD,eW] at this;exact this
 ·cases hy
theorem Iq {F:Ty->Ty->Value} (h:∀(p:Value) (t u:Ty) (m:Mem),ChkR m p pr E->FnH P f [.v p,.v (.agg ⟨aD t⟩),.v (.agg ⟨aD u⟩)] ⟨[],[]⟩ m fun r H' _=>r= .v (F t u)/\H' =⟨[],[]⟩):
  ∀m aN y,yi pr E F m aN=some y->y.1->FnH P f (aN.map SV.v) ⟨[],[]⟩ m fun r H' _=>r= .v y.2/\H' =⟨[],[]⟩:=fun m aN y hy hB=>by
 unfold yi at hy;split at hy
 ·rename_i p d b s d' b' s';cases hy;have:=h p ⟨d,b,tl s⟩ ⟨d',b',tl s'⟩ m hB;simp only[aD,eW] at this;exact this
 ·cases hy
end
section
variable {ad:Addr} {pr E:List Cd} {b:Nat} {a:Option Addr} {c:Nat} {L:List Cc}
theorem Pg (t:Ty) (m:Mem) (hC:Ck m ad pr E b a c L):FnH Tryz.prog 159 [.v (.pointer (some ad)),.v (.agg ⟨aD t⟩)] ⟨[],[]⟩ m fun r H' _=>r= .v (.bool (cu E t))/\H' =⟨[],[]⟩:=by
 cases hc:cls E t.name with
 |none=>
  have hf:=hC.mp.none hc;have hb:cu E t=(!decide (t.base=76)||false):=by unfold cu;rw[hc];rfl
  refine enter bj aq Tryz.func159 rfl rfl (by kernel_rfl) rfl ?_ ?_
  ·simp only[go_sem,aD]
  ·simp only[go_sem,aD];refine bX (.hoist 0 (.hoist 1 (.hoist 2 (.hoist 3 (.hoist 4 (.hoist 5 (.hoist 6 (.hoist 7 (.hoist 8 (.hoist 9 (.alt 10 [9,8,7,6,5,4,3,2,1,0] (.alt 11 [9] (.hoist 12 .done) .stop) .stop))))))))))) aq (by kernel_rfl) (by kernel_rfl) ?_;simp only[go_sem,bY (j:=0) hC.rd rfl,bY (j:=1) hC.rd rfl,fG hC.rm,iN,Option.map_none,Option.map_some,cn,forall_eq',false_implies,and_true,true_and,eV,hf];rw[hb,Bool.or_false]
 |some d=>
  obtain⟨X,hf,hX⟩:=hC.mp.some hc;have hb:cu E t=(!decide (t.base=76)||true):=by unfold cu;rw[hc];rfl
  refine enter bj aq Tryz.func159 rfl rfl (by kernel_rfl) rfl ?_ ?_
  ·simp only[go_sem,aD]
  ·simp only[go_sem,aD];refine bX (.hoist 0 (.hoist 1 (.hoist 2 (.hoist 3 (.hoist 4 (.hoist 5 (.hoist 6 (.hoist 7 (.hoist 8 (.hoist 9 (.alt 10 [9,8,7,6,5,4,3,2,1,0] (.alt 11 [9] (.hoist 12 .done) .stop) .stop))))))))))) aq (by kernel_rfl) (by kernel_rfl) ?_;simp only[go_sem,bY (j:=0) hC.rd rfl,bY (j:=1) hC.rd rfl,fG hC.rm,iN,Option.map_none,Option.map_some,cn,forall_eq',false_implies,and_true,true_and,eV,hf,Cc.cs];rw[hb]
theorem GS (p:Value) (t:Ty) (m:Mem) (h:ChkR m p pr E):FnH Tryz.prog 159 [.v p,.v (.agg ⟨aD t⟩)] ⟨[],[]⟩ m fun r H' _=>r= .v (.bool (cu E t))/\H' =⟨[],[]⟩:=by
 obtain⟨ad,b,a,c,L,rfl,hC⟩:=h;exact Pg t m hC
theorem Cc.inj {X Y:Cc} (h:X.cs=Y.cs):X=Y:=by
 cases X;cases Y;simp only[Cc.cs,List.cons.injEq,Value.int.injEq,Value.string.injEq,Value.slice.injEq,true_and,and_true] at h;obtain⟨h1,h2,h3,⟨h4,h5,h6⟩,⟨h7,h8,h9⟩,⟨g1,g2,g3⟩,g4,g5,g6⟩:=h;have h2:=oM h2;have h3:=oM h3;subst h1 h2 h3 h4 h5 h6 h7 h8 h9 g1 g2 g3 g4 g5 g6;rfl
structure CdX (m:Mem) (d:Cd) (X:Cc):Prop where
 fl:X.fl=d.fl
 name:X.name=d.name
 sup:X.super=d.super
 il:X.il=d.ifs.length
 ic:X.il<=X.ic
 fn:X.fn=d.fields.length
 fc:X.fn<=X.fc
 ml:X.ml=d.methods.length
 mc:X.ml<=X.mc
 sl:X.sl=d.init.length
 sc:X.sl<=X.sc
 ok:CdOk d
 ifs:ax m X.ia X.il 1 (strs d.ifs)
 fds:ax m X.fa X.fn 5 (flat Fc.cs d.fields)
 mth:∃xs,ax m X.ma X.ml 8 xs/\eu (gW m) 8 d.methods xs
 ini:∃ys,ax m X.sa X.sl 23 ys/\bG m d.init ys
theorem MC {m:Mem} {d:Cd} {X:Cc} (h:gY m d X.cs):CdX m d X:=by
 obtain⟨Y,⟨e,h1,h2,h3⟩,⟨q1,q2,q3,q4,q5,q6,q7,q8⟩,h4,h5,h6,xs,ys,h7,h8,h9,nq⟩:=h;cases Cc.inj e;exact⟨h1,h2,h3,q1,q2,q3,q4,q5,q6,q7,q8,h4,h5,h6,⟨xs,h7,h8⟩,ys,h9,nq⟩
theorem Ck.none {m:Mem} (hC:Ck m ad pr E b a c L) {s:Nm} (hc:cls E s= .none):fnd L s= .none:=hC.mp.none hc
theorem Ck.some {m:Mem} (hC:Ck m ad pr E b a c L) {s:Nm} {d:Cd} (hc:cls E s= .some d):∃X,fnd L s= .some X/\CdX m d X:=(hC.mp.some hc).elim fun X h=>⟨X,h.1,MC h.2⟩
theorem R9 (m:Mem):CdX m ej ⟨0,[],[],none,0,0,none,0,0,none,0,0,none,0,0⟩:=
 ⟨rfl,rfl,rfl,rfl,aA _,rfl,aA _,rfl,aA _,rfl,aA _,⟨by unfold aB;decide,aF _,aF _,aF _,fun s hs=>(by cases hs),aF _,fun s hs=>(by cases hs),aF _,aF _⟩,
  ⟨rfl,fun h=>absurd h (Nat.lt_irrefl 0)⟩,⟨rfl,fun h=>absurd h (Nat.lt_irrefl 0)⟩,⟨[],⟨rfl,fun h=>absurd h (Nat.lt_irrefl 0)⟩,trivial⟩,[],⟨rfl,fun h=>absurd h (Nat.lt_irrefl 0)⟩,trivial⟩
def E9 (L:List Cc) (s:Nm):Option Value:=(fnd L s).map fun X=> .agg ⟨X.cs⟩
def gD (o:Option Value) (z:Value):Value:=o.getD z
theorem nI (s:Nm) (L:List Cc):gK (kO L) (.string (bs s))=E9 L s:=iN s L
theorem Ck.get {m:Mem} (hC:Ck m ad pr E b a c L) (s:Nm):∃X:Cc,gD (E9 L s) (.agg ⟨[.int .i64 0,.string (bs []),.string (bs []),.slice .none 0 0,.slice .none 0 0,.slice .none 0 0,.slice .none 0 0]⟩)= .agg ⟨X.cs⟩/\CdX m (cd E s) X:=by
 unfold cd E9 gD;cases hc:cls E s with
 |none=>exact⟨_,by rw[hC.none hc];rfl,R9 m⟩
 |some d=>
  obtain⟨X,h1,h2⟩:=hC.some hc;exact⟨X,by rw[h1];rfl,h2⟩
theorem oq {o:Option Value} {z:Value} {K:Value->Prop}:((∀v,o= .some v->K v)/\(o= .none->K z))=K (gD o z):=by
 cases o with
 |none=>simp [gD]
 |some v=>simp [gD]
theorem Aj (l:List Nm) (s:Nm):strs (l++[s])=strs l++[.string (bs s)]:=by unfold strs;simp
theorem GI (s:Nm) (m:Mem) (hC:Ck m ad pr E b a c L):FnH Tryz.prog 49 [.v (.pointer (some ad)),.v (.string (bs s))] ⟨[],[]⟩ m
  fun r H' m' =>ah m m' /\∃u,r= .vec 0 u/\H' =⟨[],[⟨0,u,9,1,(bP E s).length,strs (bP E s)⟩]⟩:=by
 have iE:fT E (E.length+1) [] s=bP E s:=rfl;revert iE;generalize bP E s=K
 intro iE;refine br aq Tryz.func49 ?_
 ·simp only[go_sem];refine xA 5 9 1 (by decide) rfl ?_;simp only[go_sem];refine ct aq (fun x:Nat×List Nm×Nm×Mem=>⟨[⟨5,[],.vec 0 x.2.1.length⟩,⟨4,[],.v (.slice none 0 0)⟩,⟨1,[],.v (.string (bs x.2.2.1))⟩,⟨0,[],.v (.pointer (some ad))⟩],[],[],[⟨0,x.2.1.length,9,1,x.2.1.length,strs x.2.1⟩],1,x.2.2.2⟩)
   (fun x=>ah m x.2.2.2/\Vis E x.2.1/\x.1+x.2.1.length=E.length+1/\fT E x.1 x.2.1 x.2.2.1=K) (fun x=>x.1) (E.length+1,[],s,m) (by kernel_rfl) (fun _ _=>aU rfl) (fun x hx=>hx.1) (fun _=> ?_) ?_ ⟨.inl rfl,Vis.nil E,rfl,iE⟩ ?_
  ·simp only[go_sem]
  ·simp only[go_sem];rfl
  ·rintro⟨f,out,q,mm⟩ ⟨i1,i2,i3,i4⟩;dsimp only at i1 i2 i3 i4;have hC:=hC.up i1;have hl:=i2.len;have hw:=hC.fw;cases f with
   |zero=>exfalso;omega
   |succ f=>
    rw[fT] at i4;cases hc:cls E q with
    |none=>
     rw[hc] at i4;have hf:=hC.none hc;simp only[go_sem,bY (j:=0) hC.rd rfl,bY (j:=1) hC.rd rfl,fG hC.rm,iN,Option.map_none,Option.map_some,cn,forall_eq',false_implies,and_true,true_and,eV,hf];subst i4;exact⟨i1,_,rfl,rfl⟩
    |some d=>
     rw[hc] at i4;dsimp only at i4;refine Exists.elim (hC.some hc) fun X hX=> ?_
     have hf:=hX.1;simp only[go_sem,bY (j:=0) hC.rd rfl,bY (j:=1) hC.rd rfl,fG hC.rm,iN,Option.map_none,Option.map_some,cn,forall_eq',false_implies,and_true,true_and,eV,hf,Cc.cs];refine⟨by kernel_rfl,fun a1 c1 m1 h1 h2 h3=>bF ((uR out q a1 out.length c1 m1 h3 (by omega)).mono ?_)⟩;rintro r H' m2 aJ ⟨rfl,rfl⟩;have hle:=ae i1 (ae (.inr h1) (.inr aJ));by_cases hq:out.contains q=true
     ·rw[ai hq] at i4;simp only[go_sem,hq];subst i4;exact⟨hle,_,rfl,rfl⟩
     ·rw[aa hq] at i4;have hq:=(Bool.not_eq_true _).mp hq;simp only[go_sem,hq];refine⟨jq (by omega) (by decide),(f,out++[q],d.super,m2),⟨⟨by rw[aZ];rfl,by rw[hX.2.sup]⟩,⟨by rw[aZ];rfl,by rw[aZ];rfl,by rw[Aj]⟩,.inl rfl⟩,⟨hle,i2.snoc (by rw[hc];rfl) hq,?_,i4⟩,Nat.lt_succ_self _⟩;dsimp only;rw[aZ,nz];omega
theorem qX (s:Nm) (m:Mem) (hC:Ck m ad pr E b a c L):FnH Tryz.prog 49 [.v (.pointer (some ad)),.v (.string (bs s))] ⟨[],[]⟩ m
  fun r H' m' =>ah m m' /\H' =⟨[],[]⟩/\∃a c,r= .v (.slice a (bP E s).length c)/\(bP E s).length<=c/\ax m' a (bP E s).length 1 (strs (bP E s)):=by
 refine nL ((GI s m hC).mono ?_);rintro r H' m' hm ⟨l,u,rfl,rfl⟩;exact xE (b:=⟨0,u,9,1,(bP E s).length,strs (bP E s)⟩) (by simp [cq]) ⟨[],[]⟩ (List.Sublist.refl _) (List.nil_sublist _) fun a c m1 h1 h2 h3=>⟨ae l (.inr h1),rfl,a,c,rfl,h2,h3⟩
end
end Go.Proofs.YtmdokbohofchgaaGreatDoor.E

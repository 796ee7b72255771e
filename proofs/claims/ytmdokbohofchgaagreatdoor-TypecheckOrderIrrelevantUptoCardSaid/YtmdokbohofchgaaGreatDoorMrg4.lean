/- Several texts in one. -/
import Derived.Test.YtmdokbohofchgaaGreatDoorMrg3
set_option linter.unusedSimpArgs false
set_option linter.unusedVariables false
set_option maxHeartbeats 4000000
set_option maxRecDepth 20000
namespace Go.Proofs.YtmdokbohofchgaaGreatDoor.E
open Go
/-! Descriptors. -/
def Bv (t:Ty):Bool:=kz t.dim t.base t.name
def fT (s:Nm):Ty×Nm×Bool:=
  match s.drop (s.takeWhile (· ==91)).length with
  |[]=>(an,[],false)
  |c::r=>if c=76 then(if Lib.indexByte r 59<0 then(an,[],false)
    else(⟨(s.takeWhile (· ==91)).length,76,r.take (Lib.indexByte r 59).toNat⟩,r.drop ((Lib.indexByte r 59).toNat+1),Bv ⟨(s.takeWhile (· ==91)).length,76,r.take (Lib.indexByte r 59).toNat⟩))
    else(⟨(s.takeWhile (· ==91)).length,c.toNat,[]⟩,r,Bv ⟨(s.takeWhile (· ==91)).length,c.toNat,[]⟩)
def jV (s:Nm):Ty×Int:=if(fT s).2.2=true/\(fT s).2.1=[] then((fT s).1,0) else(an,13)
def ud:Nat->List Ty->Nm->Option (List Ty×Nm)
 |0,_,_=>none
 |f+1,acc,s=>match s with
  |[]=>some (acc,[])
  |c::_=>if c=41 then some (acc,s) else if(fT s).2.2=true/\(fT s).1.base≠86 then ud f (acc++[(fT s).1]) (fT s).2.1 else none
def fk (s:Nm):(Ty×List Ty)×Int:=
  match s with
  |[]=>((an,[]),13)
  |c::r=>if c=40 then(match ud (r.length+1) [] r with
    |none=>((an,[]),13)
    |some (_,[])=>((an,[]),13)
    |some (l,_::q)=>if(jV q).2=0 then(if 16<l.length then((an,[]),5) else(((jV q).1,l),0)) else((an,[]),(jV q).2)) else((an,[]),13)
/-! The built-in classes: as the program builds them, and as declarations. -/
structure Mb where
 fl:Int
 name:Nm
 desc:Nm
structure Cm where
 fl:Int
 name:Nm
 super:Nm
 fields:List Mb
 methods:List Mb
def wE (f:Mb):Fc:=⟨f.fl,(jV f.desc).1,f.name⟩
def zb (m:Mb):Md:=⟨m.fl,(fk m.desc).1.1,m.name,(fk m.desc).1.2.map fun t=>⟨t,[]⟩,true,[]⟩
def sv (u:Cm):Cd:=⟨u.fl,u.name,u.super,[],u.fields.map wE,u.methods.map zb,[]⟩
def df:List Cm:=[
 ⟨1,[108,97,110,103,47,79,98,106,101,99,116],[],[],[⟨1,[60,105,110,105,116,62],[40,41,86]⟩,⟨273,[119,97,105,116],[40,41,86]⟩,⟨273,[110,111,116,105,102,121],[40,41,86]⟩,⟨273,[110,111,116,105,102,121,65,108,108],[40,41,86]⟩]⟩,
 ⟨17,[108,97,110,103,47,83,116,114,105,110,103],[108,97,110,103,47,79,98,106,101,99,116],[],[⟨257,[108,101,110,103,116,104],[40,41,73]⟩,⟨257,[97,116],[40,73,41,73]⟩]⟩,
 ⟨1,[108,97,110,103,47,84,104,114,111,119,97,98,108,101],[108,97,110,103,47,79,98,106,101,99,116],[],[⟨1,[60,105,110,105,116,62],[40,41,86]⟩]⟩,
 ⟨1,[108,97,110,103,47,69,114,114,111,114],[108,97,110,103,47,84,104,114,111,119,97,98,108,101],[],[⟨1,[60,105,110,105,116,62],[40,41,86]⟩]⟩,
 ⟨1,[108,97,110,103,47,78,117,108,108,80,111,105,110,116,101,114,69,120,99,101,112,116,105,111,110],[108,97,110,103,47,84,104,114,111,119,97,98,108,101],[],[⟨1,[60,105,110,105,116,62],[40,41,86]⟩]⟩,
 ⟨1,[108,97,110,103,47,73,110,100,101,120,79,117,116,79,102,66,111,117,110,100,115,69,120,99,101,112,116,105,111,110],[108,97,110,103,47,84,104,114,111,119,97,98,108,101],[],[⟨1,[60,105,110,105,116,62],[40,41,86]⟩]⟩,
 ⟨1,[108,97,110,103,47,65,114,105,116,104,109,101,116,105,99,69,120,99,101,112,116,105,111,110],[108,97,110,103,47,84,104,114,111,119,97,98,108,101],[],[⟨1,[60,105,110,105,116,62],[40,41,86]⟩]⟩,
 ⟨1,[108,97,110,103,47,65,114,114,97,121,83,116,111,114,101,69,120,99,101,112,116,105,111,110],[108,97,110,103,47,84,104,114,111,119,97,98,108,101],[],[⟨1,[60,105,110,105,116,62],[40,41,86]⟩]⟩,
 ⟨1,[108,97,110,103,47,67,108,97,115,115,67,97,115,116,69,120,99,101,112,116,105,111,110],[108,97,110,103,47,84,104,114,111,119,97,98,108,101],[],[⟨1,[60,105,110,105,116,62],[40,41,86]⟩]⟩,
 ⟨1,[108,97,110,103,47,65,114,114,97,121,83,105,122,101,69,120,99,101,112,116,105,111,110],[108,97,110,103,47,84,104,114,111,119,97,98,108,101],[],[⟨1,[60,105,110,105,116,62],[40,41,86]⟩]⟩,
 ⟨1,[108,97,110,103,47,73,108,108,101,103,97,108,77,111,110,105,116,111,114,83,116,97,116,101,69,120,99,101,112,116,105,111,110],[108,97,110,103,47,84,104,114,111,119,97,98,108,101],[],[⟨1,[60,105,110,105,116,62],[40,41,86]⟩]⟩,
 ⟨1,[108,97,110,103,47,76,105,110,107,97,103,101,69,114,114,111,114],[108,97,110,103,47,69,114,114,111,114],[],[⟨1,[60,105,110,105,116,62],[40,41,86]⟩]⟩,
 ⟨1,[108,97,110,103,47,73,110,105,116,105,97,108,105,122,101,114,69,114,114,111,114],[108,97,110,103,47,69,114,114,111,114],[],[⟨1,[60,105,110,105,116,62],[40,41,86]⟩]⟩,
 ⟨1,[108,97,110,103,47,79,117,116,79,102,77,101,109,111,114,121,69,114,114,111,114],[108,97,110,103,47,69,114,114,111,114],[],[⟨1,[60,105,110,105,116,62],[40,41,86]⟩]⟩,
 ⟨1,[108,97,110,103,47,83,116,97,99,107,79,118,101,114,102,108,111,119,69,114,114,111,114],[108,97,110,103,47,69,114,114,111,114],[],[⟨1,[60,105,110,105,116,62],[40,41,86]⟩]⟩,
 ⟨1,[108,97,110,103,47,84,104,114,101,97,100],[108,97,110,103,47,79,98,106,101,99,116],[],[⟨1,[60,105,110,105,116,62],[40,41,86]⟩,⟨1,[114,117,110],[40,41,86]⟩,⟨257,[115,116,97,114,116],[40,41,86]⟩]⟩,
 ⟨17,[108,97,110,103,47,67,111,110,115,111,108,101],[108,97,110,103,47,79,98,106,101,99,116],[],[⟨265,[112,114,105,110,116,73,110,116],[40,73,41,86]⟩,⟨265,[112,114,105,110,116,83,116,114,105,110,103],[40,76,108,97,110,103,47,83,116,114,105,110,103,59,41,86]⟩,⟨265,[112,114,105,110,116,76,111,110,103],[40,74,41,86]⟩]⟩,
 ⟨1025,[108,97,110,103,47,82,101,102,101,114,101,110,99,101],[108,97,110,103,47,79,98,106,101,99,116],[⟨1,[114,101,102,101,114,101,110,116],[76,108,97,110,103,47,79,98,106,101,99,116,59]⟩,⟨1,[99,108,101,97,114,101,100],[73]⟩],[⟨1,[60,105,110,105,116,62],[40,76,108,97,110,103,47,79,98,106,101,99,116,59,41,86]⟩]⟩,
 ⟨1,[108,97,110,103,47,83,111,102,116,82,101,102,101,114,101,110,99,101],[108,97,110,103,47,82,101,102,101,114,101,110,99,101],[],[⟨1,[60,105,110,105,116,62],[40,76,108,97,110,103,47,79,98,106,101,99,116,59,41,86]⟩]⟩,
 ⟨1,[108,97,110,103,47,87,101,97,107,82,101,102,101,114,101,110,99,101],[108,97,110,103,47,82,101,102,101,114,101,110,99,101],[],[⟨1,[60,105,110,105,116,62],[40,76,108,97,110,103,47,79,98,106,101,99,116,59,41,86]⟩]⟩,
 ⟨1,[108,97,110,103,47,80,104,97,110,116,111,109,82,101,102,101,114,101,110,99,101],[108,97,110,103,47,82,101,102,101,114,101,110,99,101],[],[⟨1,[60,105,110,105,116,62],[40,76,108,97,110,103,47,79,98,106,101,99,116,59,41,86]⟩]⟩]
def aH:List Cd:=df.map sv
def lh (L:List Cc):List Value:=(L.map fun X=>[Value.string (bs X.name),.agg ⟨X.cs⟩]).flatten
def fnd (L:List Cc) (s:Nm):Option Cc:=L.find? fun X=>decide (X.name=s)
theorem IN (X:Cc) (L:List Cc):lh (X::L)= .string (bs X.name):: .agg ⟨X.cs⟩::lh L:=rfl
theorem Kr {a b:Nm}:(Value.string (bs a)= .string (bs b))=(a=b):=eq_iff_iff.2 ⟨fun h=>oS (Value.string.inj h),fun h=>by rw[h]⟩
theorem iV (s:Nm):∀L:List Cc,gN (lh L) (.string (bs s))=(fnd L s).map fun X=> .agg ⟨X.cs⟩
 |[]=>rfl
 |X::L=>by
  rw[IN,gN,fnd,List.find?_cons];by_cases h:X.name=s
  ·rw[ak (by rw[h]),aQ h];rfl
  ·rw[ae (by rw[Kr];exact h),ab h];exact iV s L
theorem LD (s:Nm) (v:Cc) (hv:v.name=s):∀L:List Cc,fnd L s=none->pj (lh L) (.string (bs s)) (.agg ⟨v.cs⟩)=lh (L++[v])
 |[],_=>by subst hv;rfl
 |X::L,h=>by
  rw[fnd,List.find?_cons] at h;by_cases e:X.name=s
  ·rw[aQ e] at h;cases h
  ·rw[ab e] at h;rw[IN,pj,ae (by rw[Kr];exact e),LD s v hv L h];rfl
def MpR (m:Mem) (E:List Cd) (L:List Cc):Prop:=∀s,match cls E s,fnd L s with
 |none,none=>True
 |some d,some X=>gO m d X.cs
 |_,_=>False
theorem MpR.nil (m:Mem):MpR m [] []:=fun _=>trivial
theorem MpR.up {m m' :Mem} {E:List Cd} {L:List Cc} (h:MpR m E L) (hle:af m m'):MpR m' E L:=fun s=>by
 have:=h s;revert this;cases cls E s<;>cases fnd L s<;>intro h
 ·trivial
 ·exact h.elim
 ·exact h.elim
 ·exact vK hle h
theorem MpR.none {m:Mem} {E:List Cd} {L:List Cc} (h:MpR m E L) {s:Nm} (hc:cls E s= .none):fnd L s= .none:=by
 have:=h s;rw[hc] at this;cases hf:fnd L s with
 |none=>rfl
 |some X=>rw[hf] at this;exact this.elim
theorem MpR.some {m:Mem} {E:List Cd} {L:List Cc} (h:MpR m E L) {s:Nm} {d:Cd} (hc:cls E s= .some d):∃X,fnd L s= .some X/\gO m d X.cs:=by
 have:=h s;rw[hc] at this;cases hf:fnd L s with
 |none=>rw[hf] at this;exact this.elim
 |some X=>rw[hf] at this;exact⟨X,rfl,this⟩
theorem Ln (E:List Cd) (d:Cd) (s:Nm):cls (E++[d]) s=(match cls E s with | .some x=> .some x | .none=>if d.name=s then .some d else .none):=by
 unfold cls;rw[List.find?_append];cases E.find? fun d=>decide (d.name=s) with
 |some x=>rfl
 |none=>
  by_cases h:d.name=s
  ·simp [h]
  ·simp [h]
theorem UQ (L:List Cc) (X:Cc) (s:Nm):fnd (L++[X]) s=(match fnd L s with | .some x=> .some x | .none=>if X.name=s then .some X else .none):=by
 unfold fnd;rw[List.find?_append];cases L.find? fun d=>decide (d.name=s) with
 |some x=>rfl
 |none=>
  by_cases h:X.name=s
  ·simp [h]
  ·simp [h]
theorem MpR.new {m:Mem} {E:List Cd} {L:List Cc} (h:MpR m E L) {d:Cd} {X:Cc} (hX:X.name=d.name) (hd:gO m d X.cs) (hn:cls E d.name= .none):MpR m (E++[d]) (L++[X]):=fun s=>by
 have hs:=h s;rw[Ln,UQ];revert hs;cases hc:cls E s<;>cases hf:fnd L s<;>intro hs
 ·dsimp only;rw[hX];by_cases e:d.name=s
  ·rw[ak e,ak e];exact hd
  ·rw[ae e,ae e];trivial
 ·exact hs.elim
 ·exact hs.elim
 ·exact hs
theorem MpR.old {m:Mem} {E:List Cd} {L:List Cc} (h:MpR m E L) {d x:Cd} (hn:cls E d.name= .some x):MpR m (E++[d]) L:=fun s=>by
 have hs:=h s;rw[Ln];revert hs;cases hc:cls E s with
 |none=>
  dsimp only;rw[ae fun e=>by rw[e,hc] at hn;cases hn];exact id
 |some y=>exact id
section
variable {P:Program} {cfg:Cfg}
def lH (V:Vl) (b:Bx):Bx:=⟨b.id,b.ty,b.cs.map fun s=> .v (aJ V s)⟩
theorem JV (V:Vl) (l:List SV):(l.map fun s=>SV.v (aJ V s)).map (aJ V)=l.map (aJ V):=by
 induction l with
 |nil=>rfl
 |cons s r ih=>simp only[aG,ih];rfl
theorem El {nid:Nat} {vc:List Vc} {V:Vl}:∀l:List SV,cP nid vc (l.map fun s=>SV.v (aJ V s))
 |[]=>trivial
 |s::r=>⟨trivial,El r⟩
theorem JU (V:Vl):∀l:List Bx,(l.map (lH V)).map (fun b=>V.β b.id)=l.map (fun b=>V.β b.id)
 |[]=>rfl
 |b::r=>by simp only[aG,JU V r];rfl
theorem A4 (V:Vl) (H:Hp):aE V ⟨H.bx.map (lH V),H.vc⟩=aE V H:=by
 unfold aE;rw[JU]
theorem I2 {V:Vl} {D:Nat->Nat} {w:World} {H:Hp} (h:HSat V D w H):HSat V D w ⟨H.bx.map (lH V),H.vc⟩:=by
 refine⟨fun b hb=> ?_,h.vc,?_,h.uniq⟩
 ·obtain⟨b0,h0,rfl⟩:=List.mem_map.1 hb;obtain⟨⟨o,h1,h2⟩,h3⟩:=h.bx b0 h0;refine⟨⟨o,h1,?_⟩,h3⟩;show gP b0.ty ((b0.cs.map fun s=>SV.v (aJ V s)).map (aJ V)) o;rw[JV];exact h2
 ·rw[A4];exact h.apart
theorem Hx {V:Vl} {D:Nat->Nat} {w:World} {H:Hp} (h:HSat V D w ⟨H.bx.map (lH V),H.vc⟩):HSat V D w H:=by
 refine⟨fun b hb=> ?_,h.vc,?_,h.uniq⟩
 ·obtain⟨⟨o,h1,h2⟩,h3⟩:=h.bx (lH V b) (List.mem_map.2 ⟨b,hb,rfl⟩);refine⟨⟨o,h1,?_⟩,h3⟩;have xE:gP b.ty ((b.cs.map fun s=>SV.v (aJ V s)).map (aJ V)) o:=h2;rw[JV] at xE;exact xE
 ·have:=h.apart;rw[A4] at this;exact this
theorem A3 {V:Vl} {H H2:Hp} (hb:H2.bx.Sublist H.bx) (hv:H2.vc.Sublist H.vc):(aE V H2).Sublist (aE V H):=by
 unfold aE;exact(hb.map _).append (hv.filterMap _)
theorem DZ {V:Vl} {D:Nat->Nat} {w:World} {H H2:Hp} (h:HSat V D w H) (hb:H2.bx.Sublist H.bx) (hv:H2.vc.Sublist H.vc):HSat V D w H2:=
 ⟨fun b h0=>h.bx b (hb.subset h0),fun b h0=>h.vc b (hv.subset h0),h.apart.sublist (A3 hb hv),h.uniq.sublist (hv.map _)⟩
theorem V7 {f:FuncId} {args:List SV} {H:Hp} {m:Mem} {R R' :SV->Hp->Mem->Prop} (h:FnH P f args H m R)
  (hR:∀r H' m',m.le m' ->R r H' m' ->R' r H' m' \/∃(g:SV->SV) (k u:Nat) (b:Vc) (H2:Hp),cz H'.vc k u=some b/\r=g (.vec k u)/\
   (∀(V:Vl) (v:Value),(V.γ k u).val=v->den V (g (.vec k u))=den V (g (.v v)))/\H2.bx.Sublist H'.bx/\H2.vc.Sublist H'.vc/\
   ∀(a:Option Addr) (c:Nat) (m1:Mem),m'.le m1->b.n<=c->aw m1 a b.n b.sz b.xs->R' (g (.v (.slice a b.n c))) H2 m1):FnH P f args H m R' :=by
 intro V w D eg hle hH;refine(h V w D eg hle hH).mono ?_;rintro e w' ⟨r,V',D',H',m',e1,e2,e3,e4,e5,e6,e7,e8,e9,cn,cu⟩;rcases hR r H' m' e9 cu with hr |⟨g,k,u,b,H2,hb,rfl,hg,s1,s2,hK⟩
 ·exact⟨r,V',D',H',m',e1,e2,e3,e4,e5,e6,e7,e8,e9,cn,hr⟩
 ·have hW:SatW ⟨w,D,(· ∈aE V H),⟨[],[]⟩,V',m⟩ (H'.bx.map (lH V')) H'.vc (max (jF (H'.bx.map (lH V'))) (jE H'.vc)) m' V' D' w' :=by
   refine⟨I2 e3,e2,e6,fun x hx=> ?_,fun x hx=>(by cases hx),fun x hx=>(by cases hx),⟨fun x hx=>⟨?_,?_⟩,fun x hx=> ?_⟩,e8,e9,cn⟩
   ·rw[A4] at hx;exact e7 x hx
   ·exact dt (ym hx) (Nat.le_max_left _ _)
   ·obtain⟨b0,_,rfl⟩:=List.mem_map.1 hx;exact El _
   ·exact dt (yl hx) (Nat.le_max_right _ _)
  obtain⟨a,c,m1,D2,q1,q2,q3,q4,q5⟩:=SatW.pub (st:=⟨[],[],H'.bx.map (lH V'),H'.vc,max (jF (H'.bx.map (lH V'))) (jE H'.vc),m'⟩) hW hb;have hS:=DZ (Hx q5.heap) s1 s2;refine⟨g (.v (.slice a b.n c)),V',D2,H2,m1,?_,q5.wf,hS,e4,e5,q5.frm,fun x hx=>e7 x ((A3 s1 s2).subset hx),q5.le0,q5.m0,q5.mle,hK a c m1 q1 q2 q3⟩;rw[e1,hg V' _ q4]
def sS (R' :SV->Hp->Mem->Prop) (r:SV) (H' :Hp) (m' :Mem):Prop:=R' r H' m' \/∃(g:SV->SV) (k u:Nat) (b:Vc) (H2:Hp),cz H'.vc k u=some b/\r=g (.vec k u)/\
 (∀(V:Vl) (v:Value),(V.γ k u).val=v->den V (g (.vec k u))=den V (g (.v v)))/\H2.bx.Sublist H'.bx/\H2.vc.Sublist H'.vc/\
 ∀(a:Option Addr) (c:Nat) (m1:Mem),m'.le m1->b.n<=c->aw m1 a b.n b.sz b.xs->R' (g (.v (.slice a b.n c))) H2 m1
theorem nQ {f:FuncId} {args:List SV} {H:Hp} {m:Mem} {R' :SV->Hp->Mem->Prop} (h:FnH P f args H m (sS R')):FnH P f args H m R' :=
 V7 h fun _ _ _ _ hr=>hr
theorem yo {R' :SV->Hp->Mem->Prop} {H' :Hp} {m' :Mem} {k u:Nat} {b:Vc} (hb:cz H'.vc k u=some b) (H2:Hp) (s1:H2.bx.Sublist H'.bx) (s2:H2.vc.Sublist H'.vc)
  (h:∀(a:Option Addr) (c:Nat) (m1:Mem),m'.le m1->b.n<=c->aw m1 a b.n b.sz b.xs->R' (.v (.slice a b.n c)) H2 m1):sS R' (.vec k u) H' m' :=
 .inr ⟨id,k,u,b,H2,hb,rfl,fun _ _ h=>h,s1,s2,h⟩
theorem EI {V:Vl} {v:Value}:∀{cs:List SV} {i k u:Nat},cs[i]? =some (.vec k u)->(V.γ k u).val=v->(cs.set i (.vec k u)).map (aJ V)=(cs.set i (.v v)).map (aJ V)
 |c::r,0,k,u,h,e=>by
  show aJ V (.vec k u)::_=v::_;rw[<- e];rfl
 |c::r,i+1,k,u,h,e=>by
  simp only[List.set_cons_succ,aG];rw[EI (cs:=r) (i:=i) (by simpa using h) e]
theorem tO {R' :SV->Hp->Mem->Prop} {H' :Hp} {m' :Mem} {cs:List SV} {k u:Nat} {b:Vc} (i:Nat) (hi:cs[i]? =some (.vec k u)) (hb:cz H'.vc k u=some b) (H2:Hp) (s1:H2.bx.Sublist H'.bx) (s2:H2.vc.Sublist H'.vc)
  (h:∀(a:Option Addr) (c:Nat) (m1:Mem),m'.le m1->b.n<=c->aw m1 a b.n b.sz b.xs->R' (.agg (cs.set i (.v (.slice a b.n c)))) H2 m1):sS R' (.agg cs) H' m' :=by
 refine .inr ⟨fun z=> .agg (cs.set i z),k,u,b,H2,hb,?_,fun V v e=> ?_,s1,s2,h⟩
 ·obtain⟨hl,he⟩:=List.getElem?_eq_some_iff.1 hi;simp only[<- he,List.set_getElem_self]
 ·show Value.agg ⟨_⟩=Value.agg ⟨_⟩;rw[EI hi e]
def wm (k:Nat) (K:LS->Prop) (st:LS):Prop:=
 aA (.mk (k:=fun b:Bx=>fJ (.mk (k:=fun bh ah=>cP ah.nid ah.vc bh/\K ⟨ah.env,ah.rho,fX ah.bx k bh,ah.vc,ah.nid,ah.m⟩) (st,b.cs))) (dz st.bx k))
theorem oM {k:Nat} {K:LS->Prop} {st:LS}:wm k K st=
  aA (.mk (k:=fun b:Bx=>fJ (.mk (k:=fun bh ah=>cP ah.nid ah.vc bh/\K ⟨ah.env,ah.rho,fX ah.bx k bh,ah.vc,ah.nid,ah.m⟩) (st,b.cs))) (dz st.bx k)):=rfl
theorem ye {k:Nat} {cs:List SV}:∀bx:List Bx,(fX bx k cs).map (·.id)=bx.map (·.id)
 |[]=>rfl
 |⟨k',t',bh⟩::r=>by
  simp only[fX];split
  ·rfl
  ·simp only[aG,ye r]
theorem yd {k:Nat} {cs:List SV}:∀{bx:List Bx} {b:Bx},b∈fX bx k cs->b∈bx\/∃b0,b0∈bx/\dz bx k=some b0/\b=⟨b0.id,b0.ty,cs⟩
 |⟨k',t',bh⟩::r,b,h=>by
  simp only[fX] at h;split at h
  ·rename_i e;rcases List.mem_cons.1 h with rfl |h
   ·refine .inr ⟨⟨k',t',bh⟩,bN ..,?_,rfl⟩;simp only[dz,ak e]
   ·exact .inl (bw _ h)
  ·rename_i e;rcases List.mem_cons.1 h with rfl |h
   ·exact .inl (bN ..)
   ·rcases yd h with h |⟨b0,h1,h2,h3⟩
    ·exact .inl (bw _ h)
    ·refine .inr ⟨b0,bw _ h1,?_,h3⟩;simp only[dz,ae e];exact h2
theorem UA {V:Vl} {l l' :List Bx} (h:l'.map (·.id)=l.map (·.id)):l'.map (fun b=>V.β b.id)=l.map (fun b=>V.β b.id):=by
 have:=congrArg (List.map V.β) h;simpa only[List.map_map,Function.comp_def] using this
theorem Bf {V:Vl} {bx fg:List Bx} {vc:List Vc} (h:fg.map (·.id)=bx.map (·.id)):aE V ⟨fg,vc⟩=aE V ⟨bx,vc⟩:=by
 unfold aE;simp only[UA h]
theorem Hj {C:Ctx} {n:Nat} {st:LS} {a:Act} {w:World} {k:Nat} {K:LS->Prop} (hE:jq C n st a w) (h:wm k K st):∃ah,jq C n ah a w/\K ah:=by
 obtain⟨eD,V,D,hS⟩:=hE;unfold wm at h;obtain⟨b,hb,h⟩:=ax h;obtain⟨bh,m1,D1,⟨ho,hK⟩,hW,hd,_⟩:=kS (st:=st) b.cs _ st.m D h hS.w;have cR:=(nN hb).2;refine⟨⟨st.env,st.rho,fX st.bx k bh,st.vc,st.nid,m1⟩,⟨eD,V,D1,⟨hS.f,hS.ids,⟨⟨fun x hx=> ?_,hW.heap.vc,?_,hW.heap.uniq⟩,hW.wf,hW.frm,?_,hW.baseB,hW.baseV,⟨fun x hx=> ?_,hW.ids.2⟩,hW.le0,hW.m0,hW.mle⟩⟩⟩,hK⟩
 ·rcases yd hx with hx |⟨b0,h1,h2,rfl⟩
  ·exact hW.heap.bx x hx
  ·have e:b0=b:=by rw[h2] at hb;exact Option.some.inj hb
   subst e;obtain⟨⟨o,q1,q2⟩,q3⟩:=hW.heap.bx b0 h1;refine⟨⟨o,q1,?_⟩,q3⟩;show gP b0.ty (bh.map (aJ V)) o;rw[hd];exact q2
 ·rw[Bf (ye st.bx)];exact hW.heap.apart
 ·rw[Bf (ye st.bx)];exact hW.own
 ·rcases yd hx with hx |⟨b0,h1,h2,rfl⟩
  ·exact hW.ids.1 x hx
  ·exact⟨(hW.ids.1 b0 h1).1,ho⟩
theorem TE (di:cw cfg P) {n:Nat} {st:LS} {body:Code} {Q:Exit->LS->Prop} {X:Type} (T:(LS->Prop)->LS->Prop) (hT:∀(K:LS->Prop) (C:Ctx) (st:LS) (a:Act) (w:World),jq C n st a w->T K st->∃ah,jq C n ah a w/\K ah) (S:X->LS) (I:X->Prop) (μ:X->Nat)
  (hd:jX n body=true) (hn:∀x,I x->st.nid<=(S x).nid) (hm:∀x,I x->af st.m (S x).m) (ao:∀x,po (S x)) (h0:T (fun ah=>∃x,Match ah (S x)/\I x) st)
  (round:∀x,I x->cZ (.mk (k:=(cfg,P,n,body,iC (T fun ah=>∃x',Match ah (S x')/\I x' /\μ x' <μ x) Q)) (S x))):jR (.mk (k:=(P,n,.loop body,Q)) st):=by
 rintro C a w ⟨eD,V,D,hS⟩;have hB:∀b∈C.H0.bx,b.id<st.nid:=fun b hb=>(hS.w.baseB b hb).2
 have hV:∀b∈C.H0.vc,b.id<st.nid:=fun b hb=>(hS.w.baseV b hb).2.1
 have Gv:∀x,I x->C.m0.le (S x).m:=fun x hx=>by
  rcases hm x hx with e |h
  ·rw[<- e];exact hS.w.m0
  ·exact Mem.le_trans hS.w.m0 h
 have zf:∀(lj:LS) (a1:Act) (w1:World) (x:X),jq C n lj a1 w1->Match lj (S x)->I x->jq C n (S x) a1 w1:=by
  rintro lj a1 w1 x ⟨_,V1,D1,jt⟩ hM hx;exact⟨hM.2.1,V1,D1,jt.weaken hM (ao x) (fun b hb=>dt (hB b hb) (hn x hx)) (fun b hb=>dt (hV b hb) (hn x hx)) (Gv x hx)⟩
 obtain⟨lj,hE1,x0,hM0,hI0⟩:=hT _ _ _ _ _ ⟨eD,V,D,hS⟩ h0;refine wp_loop_ghost (fun k a w=>∃x,I x/\μ x=k/\jq C n (S x) a w) (μ x0) ⟨x0,hI0,rfl,zf _ _ _ _ hE1 hM0 hI0⟩ ?_;rintro k a1 w1 ⟨x,hx,rfl,hE⟩;refine wp_mono (gl di hd (round x hx) C a1 w1 hE) ?_;rintro e a2 w2 ⟨cI,hE2,hq⟩;cases e with
 |normal=>
  obtain⟨st3,hE3,x',hM,db,aj⟩:=hT _ _ _ _ _ hE2 hq;exact⟨μ x',aj,x',db,rfl,zf _ _ _ _ hE3 hM db⟩
 |exit id=>exact⟨cI,hE2,hq⟩
 |goto l=>exact⟨cI,hE2,hq⟩
 |ret=>exact⟨cI,hE2,hq⟩
 |panic ch=>exact⟨cI,hE2,hq⟩
 |outgrown=>exact⟨cI,hE2,hq⟩
end
section
variable {P:Program} {cfg:Cfg} {C:Ctx} {n:Nat} {st:LS} {V:Vl} {D:Nat->Nat} {w:World}
theorem SatW.reCells {bx:List Bx} {vc:List Vc} {nid:Nat} {m:Mem} (hW:SatW C bx vc nid m V D w) {k:Nat} {b:Bx} {bh:List SV} (hb:dz bx k=some b) (hd:bh.map (aJ V)=b.cs.map (aJ V)) (ho:cP nid vc bh):SatW C (fX bx k bh) vc nid m V D w:=by
 have cR:=(nN hb).2;refine⟨⟨fun x hx=> ?_,hW.heap.vc,?_,hW.heap.uniq⟩,hW.wf,hW.frm,?_,hW.baseB,hW.baseV,⟨fun x hx=> ?_,hW.ids.2⟩,hW.le0,hW.m0,hW.mle⟩
 ·rcases yd hx with hx |⟨b0,h1,h2,rfl⟩
  ·exact hW.heap.bx x hx
  ·have e:b0=b:=by rw[h2] at hb;exact Option.some.inj hb
   subst e;obtain⟨⟨o,q1,q2⟩,q3⟩:=hW.heap.bx b0 h1;refine⟨⟨o,q1,?_⟩,q3⟩;show gP b0.ty (bh.map (aJ V)) o;rw[hd];exact q2
 ·rw[Bf (ye bx)];exact hW.heap.apart
 ·rw[Bf (ye bx)];exact hW.own
 ·rcases yd hx with hx |⟨b0,h1,h2,rfl⟩
  ·exact hW.ids.1 x hx
  ·exact⟨(hW.ids.1 b0 h1).1,ho⟩
theorem KJ {nid:Nat} {vc:List Vc} {x:SV} (hx:gU nid vc x):∀{l:List SV} {i:Nat},cP nid vc l->cP nid vc (l.set i x)
 |[],_,h=>h
 |s::r,0,h=>⟨hx,h.2⟩
 |s::r,i+1,h=>⟨h.1,KJ hx (i:=i) h.2⟩
theorem Hf {V:Vl} {k u:Nat} (hv:(V.γ k u).val= .slice none 0 0):∀{cs:List SV} {i:Nat},cs[i]? =some (.v (.slice none 0 0))->(cs.set i (.vec k u)).map (aJ V)=cs.map (aJ V)
 |c::r,0,h=>by
  have e:c= .v (.slice none 0 0):=by simpa using h
  subst e;show(V.γ k u).val::_=_::_;rw[hv];rfl
 |c::r,i+1,h=>by
  simp only[List.set_cons_succ,aG];rw[Hf hv (cs:=r) (i:=i) (by simpa using h)]
theorem yc {x:Code} {Q:Exit->LS->Prop} (k i:Nat) (b:Bx) (e:TypeId) (sz:Nat) (h0:0<sz) (hb:dz st.bx k=some b) (hc:b.cs[i]? =some (.v (.slice none 0 0)))
  (h:jR (.mk (k:=(P,n,x,Q)) ⟨st.env,st.rho,fX st.bx k (b.cs.set i (.vec st.nid 0)),⟨st.nid,0,e,sz,0,[]⟩::st.vc,st.nid+1,st.m⟩)):jR (.mk (k:=(P,n,x,Q)) st):=by
 rintro C a w ⟨eD,V,D,hS⟩;obtain⟨V',ha,hγ,hW⟩:=hS.w.addVc (w' :=w) (hd:=⟨none,0,0⟩) (e:=e) (sz:=sz) (n:=0) (xs:=[]) rfl rfl rfl (aC _) (fun _ _=>rfl) (World.ownsRow_nil w 0 e sz) (fun g hg=>by cases hg) h0 (fun u hu=>by cases hu);have hv:(V'.γ st.nid 0).val= .slice none 0 0:=by rw[hγ];rfl
 have cR:=(nN hb).2;have iA:=hW.reCells hb (Hf hv hc) (KJ (x:= .vec st.nid 0) (show st.nid<st.nid+1/\ba (⟨st.nid,0,e,sz,0,[]⟩::st.vc) st.nid 0 from⟨Nat.lt_succ_self _,by simp [ba]⟩) (hW.ids.1 b cR).2);exact h C a w ⟨eD,V',D,hS.to ha (Nat.le_succ _) (fun k u hk hv=>pX rfl k u hk hv) iA⟩
theorem mM {a rest:Code} {Q:Exit->LS->Prop} {X:Type} (S:X->LS) (J:X->Prop) (hn:∀x,J x->st.nid<=(S x).nid) (hm:∀x,J x->af st.m (S x).m) (ao:∀x,po (S x))
  (h:WP P n a (iC (fun ah=>∃x,Match ah (S x)/\J x) Q) st) (hr:∀x,J x->WP P n rest Q (S x)):WP P n (.seq a rest) Q st:=by
 rintro C a1 w ⟨eD,V,D,hS⟩;refine wp_seq (wp_mono (h C a1 w ⟨eD,V,D,hS⟩) ?_);rintro e a2 w2 ⟨cI,hE2,hq⟩;cases e with
 |normal=>
  obtain⟨x,hM,hx⟩:=hq;obtain⟨_,V2,D2,nA⟩:=hE2;refine hr x hx C a2 w2 ⟨hM.2.1,V2,D2,nA.weaken hM (ao x) (fun b hb=>dt (hS.w.baseB b hb).2 (hn x hx)) (fun b hb=>dt (hS.w.baseV b hb).2.1 (hn x hx)) ?_⟩;rcases hm x hx with e |h
  ·rw[<- e];exact hS.w.m0
  ·exact Mem.le_trans hS.w.m0 h
 |exit id=>exact⟨cI,hE2,hq⟩
 |goto l=>exact⟨cI,hE2,hq⟩
 |ret=>exact⟨cI,hE2,hq⟩
 |panic ch=>exact⟨cI,hE2,hq⟩
 |outgrown=>exact⟨cI,hE2,hq⟩
end
def rb (k:Nat):SV->Bool
 | .box j _=>decide (j=k)
 | .mp j=>decide (j=k)
 | .mv _ j _=>decide (j=k)
 | .sl j _ _=>decide (j=k)
 | .cl _ ks=>ks.contains k
 |_=>false
def CH (k:Nat):SV->Bool
 | .agg cs=>cs.any (rb k)
 |s=>rb k s
def Nq (k:Nat):SV->Bool
 | .tup l=>l.any (CH k)
 |s=>CH k s
def xF (k u n c:Nat):SV->SV
 | .vec j v=>if j=k/\v=u then .sl k n c else .vec j v
 | .vp j v o=>if j=k/\v=u then .box k o else .vp j v o
 |s=>s
def C1 (k u n c:Nat):SV->SV
 | .agg cs=> .agg (cs.map (xF k u n c))
 |s=>xF k u n c s
def GY (k u n c:Nat):SV->SV
 | .tup l=> .tup (l.map (C1 k u n c))
 |s=>C1 k u n c s
def GX (k u n c:Nat) (x:Bx):Bx:=⟨x.id,x.ty,x.cs.map (xF k u n c)⟩
section
variable {V:Vl} {k u n c g:Nat}
abbrev dV (V:Vl) (k g:Nat):Vl:={V with β:=fun j=>if j=k then g else V.β j}
theorem nP {j:Nat} (h:j≠k):(dV V k g).β j=V.β j:=ae h
theorem VR {ks:List Nat} (h:ks.contains k=false):(ks.map fun j=>Value.pointer (some ⟨(dV V k g).β j,0,none⟩))=ks.map fun j=> .pointer (some ⟨V.β j,0,none⟩):=
 List.map_congr_left fun j hj=>by
  have b9:¬j=k:=fun e=>by
   subst e;rw[List.contains_iff_mem.2 hj] at h;cases h
  show Value.pointer (some ⟨if j=k then g else V.β j,0,none⟩)=_;rw[ae b9]
theorem rQ (hg:V.γ k u=⟨some ⟨g,0,none⟩,n,c⟩) {s:SV} (hs:rb k s=false):aJ (dV V k g) (xF k u n c s)=aJ V s:=by
 cases s with
 |v x=>rfl
 |box j o=>show Value.pointer (some ⟨(dV V k g).β j,o,none⟩)=_;rw[nP (by simpa [rb] using hs)];rfl
 |mp j=>show Value.map (some ((dV V k g).β j))=_;rw[nP (by simpa [rb] using hs)];rfl
 |mv f j o=>show Value.func _ ⟨[.pointer (some ⟨(dV V k g).β j,o,none⟩)]⟩ _=_;rw[nP (by simpa [rb] using hs)];rfl
 |sl j a b=>show Value.slice (some ⟨(dV V k g).β j,0,none⟩) _ _=_;rw[nP (by simpa [rb] using hs)];rfl
 |cl f ks=>show Value.func _ _ ⟨_⟩=Value.func _ _ ⟨_⟩;rw[VR hs]
 |vec j v=>
  show aJ (dV V k g) (if j=k/\v=u then .sl k n c else .vec j v)=_;by_cases e:j=k/\v=u
  ·rw[ak e];obtain⟨rfl,rfl⟩:=e;show Value.slice (some ⟨(if j=j then g else V.β j),0,none⟩) n c=(V.γ j v).val;rw[hg,ak rfl];rfl
  ·rw[ae e];rfl
 |vp j v o=>
  show aJ (dV V k g) (if j=k/\v=u then .box k o else .vp j v o)=_;by_cases e:j=k/\v=u
  ·rw[ak e];obtain⟨rfl,rfl⟩:=e;show Value.pointer (some ⟨(if j=j then g else V.β j),o,none⟩)=Value.pointer ((V.γ j v).a.map (·.add o));rw[hg,ak rfl];simp [Addr.add_lit]
  ·rw[ae e];rfl
 |vo j v o z=>rfl
 |agg cs=>rfl
 |tup l=>rfl
theorem EZ (hg:V.γ k u=⟨some ⟨g,0,none⟩,n,c⟩):∀{l:List SV},l.any (rb k)=false->(l.map (xF k u n c)).map (aJ (dV V k g))=l.map (aJ V)
 |[],_=>rfl
 |s::r,h=>by
  simp only[List.any_cons,Bool.or_eq_false_iff] at h;simp only[aG];rw[rQ hg h.1,EZ hg h.2]
theorem qh (hg:V.γ k u=⟨some ⟨g,0,none⟩,n,c⟩) {s:SV} (hs:CH k s=false):fL (dV V k g) (C1 k u n c s)=fL V s:=by
 cases s with
 |agg cs=>show Value.agg ⟨_⟩=Value.agg ⟨_⟩;rw[EZ hg hs]
 |v x=>rfl
 |vo j v o z=>rfl
 |vec j v=>
  have:=rQ (s:= .vec j v) hg rfl;revert this;show aJ _ (if j=k/\v=u then .sl k n c else .vec j v)=_->fL _ (if j=k/\v=u then .sl k n c else .vec j v)=_;by_cases e:j=k/\v=u
  ·rw[ak e];exact id
  ·rw[ae e];exact id
 |vp j v o=>
  have:=rQ (s:= .vp j v o) hg rfl;revert this;show aJ _ (if j=k/\v=u then .box k o else .vp j v o)=_->fL _ (if j=k/\v=u then .box k o else .vp j v o)=_;by_cases e:j=k/\v=u
  ·rw[ak e];exact id
  ·rw[ae e];exact id
 |box j o=>exact rQ (s:= .box j o) hg hs
 |mp j=>exact rQ (s:= .mp j) hg hs
 |mv f j o=>exact rQ (s:= .mv f j o) hg hs
 |sl j a b=>exact rQ (s:= .sl j a b) hg hs
 |cl f ks=>exact rQ (s:= .cl f ks) hg hs
 |tup l=>rfl
theorem Lj (hg:V.γ k u=⟨some ⟨g,0,none⟩,n,c⟩):∀{l:List SV},l.any (CH k)=false->(l.map (C1 k u n c)).map (fL (dV V k g))=l.map (fL V)
 |[],_=>rfl
 |s::r,h=>by
  simp only[List.any_cons,Bool.or_eq_false_iff] at h;simp only[aG];rw[qh hg h.1,Lj hg h.2]
theorem Vy (hg:V.γ k u=⟨some ⟨g,0,none⟩,n,c⟩) {s:SV} (hs:Nq k s=false):den (dV V k g) (GY k u n c s)=den V s:=by
 cases s with
 |tup l=>show Value.tuple ⟨_⟩=Value.tuple ⟨_⟩;rw[Lj hg hs]
 |v x=>rfl
 |vo j v o z=>rfl
 |vec j v=>
  have:=qh (s:= .vec j v) hg rfl;revert this;show fL _ (if j=k/\v=u then .sl k n c else .vec j v)=_->den _ (if j=k/\v=u then .sl k n c else .vec j v)=_;by_cases e:j=k/\v=u
  ·rw[ak e];exact id
  ·rw[ae e];exact id
 |vp j v o=>
  have:=qh (s:= .vp j v o) hg rfl;revert this;show fL _ (if j=k/\v=u then .box k o else .vp j v o)=_->den _ (if j=k/\v=u then .box k o else .vp j v o)=_;by_cases e:j=k/\v=u
  ·rw[ak e];exact id
  ·rw[ae e];exact id
 |box j o=>exact qh (s:= .box j o) hg hs
 |mp j=>exact qh (s:= .mp j) hg hs
 |mv f j o=>exact qh (s:= .mv f j o) hg hs
 |sl j a b=>exact qh (s:= .sl j a b) hg hs
 |cl f ks=>exact qh (s:= .cl f ks) hg hs
 |agg cs=>exact qh (s:= .agg cs) hg hs
end
section
variable {P:Program}
theorem Sp {m:Mem} {x:Mem} (h:m.le x):m.le m:=fun b=>⟨aC _,fun h0=>⟨((h b).2 h0).1,by
 unfold mJ;split
 ·rename_i c t f e;exact⟨c,t,f,e,fun _ _=>rfl⟩
 ·rfl⟩⟩
theorem Bn {w:World} {D:Nat->Nat} (h:Wf w D):Mem.le ⟨w,D⟩ ⟨w,D⟩:=fun b=>⟨aC _,fun h0=>⟨by
 dsimp only at h0;rcases Nat.lt_or_ge b w.heap.size with q |q
 ·exact q
 ·rw[h b q] at h0;omega,by
 unfold mJ;split
 ·rename_i c t f e;exact⟨c,t,f,e,fun _ _=>rfl⟩
 ·rfl⟩⟩
theorem Rq {f:FuncId} {args:List SV} {H:Hp} {m:Mem} {R R' :SV->Hp->Mem->Prop} (h:FnH P f args H m R) (hv:H.vc=[])
  (hR:∀r H' m',m.le m' ->R r H' m' ->∃b:Vc,H'.vc=[b]/\0<b.n/\b.el<gv/\Nq b.id r=false/\(∀x∈H'.bx,x.id≠b.id/\x.cs.any (rb b.id)=false)/\(∀x∈H.bx,x.id≠b.id/\∃y∈H'.bx,y.id=x.id)/\
   ∀(c:Nat) (rest:List Value),b.n<=c->c<=maxLen->rest.length=(c - b.n) * b.sz->R' (GY b.id b.ver b.n c r) ⟨⟨b.id,b.el,b.xs.map .v++rest.map .v⟩::H'.bx.map (GX b.id b.ver b.n c),[]⟩ m):FnH P f args H m R' :=by
 intro V w D eg hle hH;refine(h V w D eg hle hH).mono ?_;rintro e w' ⟨r,V',D',H',m',e1,e2,e3,e4,e5,e6,e7,e8,e9,cn,cu⟩;obtain⟨b,hb,hn,hel,pO,kp,hiH,hK⟩:=hR r H' m' e9 cu;have cR:b∈H'.vc:=by rw[hb];exact List.mem_singleton.2 rfl
 obtain⟨bT,hDb,fe,_⟩:=e3.vc b cR;rcases bT.2 with ⟨_,h0⟩ |⟨g,cap,cur,ri,_,hg,pL,kQ,dG,rj⟩
 ·omega
 have hγ:V'.γ b.id b.ver=⟨some ⟨g,0,none⟩,b.n,cap⟩:=by
  generalize V'.γ b.id b.ver=q at ri
  obtain⟨qa,qn,qc⟩:=q;simp only[Hd.val,Value.slice.injEq] at ri;obtain⟨rfl,rfl,rfl⟩:=ri;rfl
 have zC:(V'.γ b.id b.ver).blk=some g:=by rw[hγ];rfl
 have ft:=e3.apart;have eA:aE V' H' =H'.bx.map (fun x=>V'.β x.id)++[g]:=by
  unfold aE;rw[hb];simp [zC]
 rw[eA] at ft;have GA:∀x∈H'.bx,V'.β x.id≠g:=fun x hx e=>(List.nodup_append.1 ft).2.2 (V'.β x.id) (List.mem_map.2 ⟨x,hx,rfl⟩) g (List.mem_singleton.2 rfl) e
 have lT:w.heap.size<=g:=by
  rcases e7 g (by rw[eA];exact List.mem_append.2 (.inr (List.mem_singleton.2 rfl))) with bg |bg
  ·exfalso;unfold aE at bg;rw[hv] at bg;simp only[List.filterMap_nil,List.append_nil] at bg;obtain⟨x,hx,rfl⟩:=List.mem_map.1 bg;obtain⟨y,hy,hyx⟩:=(hiH x hx).2;exact GA y hy (by rw[hyx,e4 x hx])
  ·exact bg
 have GN:D g=0:=eg g lT;refine⟨GY b.id b.ver b.n cap r,dV V' b.id g,fun x=>if x=g then 0 else D' x,⟨⟨b.id,b.el,b.xs.map .v++(cur.toList.drop (b.n * b.sz)).map .v⟩::H'.bx.map (GX b.id b.ver b.n cap),[]⟩,m,?_,fun x hx=> ?_,⟨fun x hx=> ?_,fun x hx=>(by cases hx),?_,by simp⟩,fun x hx=> ?_,fun x hx=>(by rw[hv] at hx;cases hx),⟨e6.os,e6.tape,e6.output,e6.size,fun x hx hF=> ?_⟩,fun x hx=> ?_,fun x=> ?_,Sp hle,?_,hK cap _ pL kQ (by rw[gI,Array.length_toList,dG,Nat.sub_mul])⟩
 ·rw[e1,Vy hγ pO]
 ·show(if x=g then 0 else D' x)=0;split
  ·rfl
  ·exact e2 x hx
 ·rcases List.mem_cons.1 hx with rfl |hx
  ·refine⟨⟨.cells cur b.el (0,0),?_,?_⟩,?_⟩
   ·show w'.heap[(if b.id=b.id then g else V'.β b.id)]? =_;rw[ak rfl];exact hg
   ·have hc:cur=⟨(b.xs.map SV.v++(cur.toList.drop (b.n * b.sz)).map SV.v).map (aJ (dV V' b.id g))⟩:=by
     rw[List.map_append,lI,lI,<- rj,List.take_append_drop]
    have:=xJ (t:=b.el) (vs:=(b.xs.map SV.v++(cur.toList.drop (b.n * b.sz)).map SV.v).map (aJ (dV V' b.id g))) hel;rwa [<- hc] at this
   ·show(if(if b.id=b.id then g else V'.β b.id)=g then 0 else _)=0;rw[ak rfl,ak rfl]
  ·obtain⟨y,hy,rfl⟩:=List.mem_map.1 hx;obtain⟨⟨o,h1,h2⟩,h3⟩:=e3.bx y hy;have b9:=(kp y hy).1;refine⟨⟨o,?_,?_⟩,?_⟩
   ·show w'.heap[(dV V' b.id g).β y.id]? =_;rw[nP b9];exact h1
   ·show gP y.ty ((y.cs.map (xF b.id b.ver b.n cap)).map (aJ (dV V' b.id g))) o;rw[EZ hγ (kp y hy).2];exact h2
   ·show(if(dV V' b.id g).β y.id=g then 0 else D' ((dV V' b.id g).β y.id))=0;rw[nP b9,ae (GA y hy)];exact h3
 ·unfold aE;simp only[aG,List.filterMap_nil,List.append_nil,if_true];have hm:(H'.bx.map (GX b.id b.ver b.n cap)).map (fun x=>(dV V' b.id g).β x.id)=H'.bx.map fun x=>V'.β x.id:=by
   rw[List.map_map];exact List.map_congr_left fun y hy=>nP (kp y hy).1
  rw[hm];exact List.nodup_cons.2 ⟨fun bg=>by obtain⟨y,hy,e⟩:=List.mem_map.1 bg;exact GA y hy e,(List.nodup_append.1 ft).1⟩
 ·rw[nP (hiH x hx).1];exact e4 x hx
 ·obtain⟨h1,h2⟩:=e6.same x hx hF;exact⟨h1,by show(if x=g then 0 else D' x)=D x;rw[ae (by omega)];exact h2⟩
 ·unfold aE at hx;simp only[aG,List.filterMap_nil,List.append_nil,if_true] at hx;rcases List.mem_cons.1 hx with rfl |hx
  ·exact .inr lT
  ·obtain⟨z,hz,rfl⟩:=List.mem_map.1 hx;obtain⟨y,hy,rfl⟩:=List.mem_map.1 hz;show(dV V' b.id g).β y.id∈_\/_<=(dV V' b.id g).β y.id;rw[show(dV V' b.id g).β y.id=V'.β y.id from nP (kp y hy).1];exact e7 _ (by rw[eA];exact List.mem_append.2 (.inl (List.mem_map.2 ⟨y,hy,rfl⟩)))
 ·obtain⟨h1,h2⟩:=e8 x;dsimp only at h1 h2 ⊢;by_cases hx:x=g
  ·subst hx;rw[ak rfl,GN];exact⟨aC _,fun h=>absurd h (by omega)⟩
  ·rw[ae hx];exact⟨h1,h2⟩
 ·refine Mem.le_trans hle fun x=> ?_
  obtain⟨h1,h2⟩:=e8 x;dsimp only at h1 h2 ⊢;by_cases hx:x=g
  ·subst hx;rw[ak rfl,GN];exact⟨aC _,fun h=>absurd h (by omega)⟩
  ·rw[ae hx];exact⟨h1,h2⟩
theorem V6 {f:FuncId} {args:List SV} {H:Hp} {m:Mem} {R R' :SV->Hp->Mem->Prop} (h:FnH P f args H m R)
  (hR:∀r H' m',m.le m' ->R r H' m' ->∃H2:Hp,H2.bx.Sublist H'.bx/\H2.vc.Sublist H'.vc/\R' r H2 m'):FnH P f args H m R' :=by
 intro V w D eg hle hH;refine(h V w D eg hle hH).mono ?_;rintro e w' ⟨r,V',D',H',m',e1,e2,e3,e4,e5,e6,e7,e8,e9,cn,cu⟩;obtain⟨H2,s1,s2,hr⟩:=hR r H' m' e9 cu;exact⟨r,V',D',H2,m',e1,e2,DZ e3 s1 s2,e4,e5,e6,fun x hx=>e7 x ((A3 s1 s2).subset hx),e8,e9,cn,hr⟩
/-! Results shown: an own slice in a box's cell; a whole box. -/
def lO (V:Vl) (b:Bx):Nat×TypeId×List Value:=(b.id,b.ty,b.cs.map (aJ V))
theorem ED {V:Vl}:∀{bx fg:List Bx},bx.map (lO V)=fg.map (lO V)->bx.map (fun b=>V.β b.id)=fg.map (fun b=>V.β b.id)
 |[],[],_=>rfl
 |[],_::_,h=>by cases h
 |_::_,[],h=>by cases h
 |x::r,y::q,h=>by
  simp only[aG,List.cons.injEq,lO,Prod.mk.injEq] at h ⊢;exact⟨by rw[h.1.1],ED h.2⟩
theorem TI {V:Vl} {D:Nat->Nat} {w:World} {bx fg:List Bx} {vc:List Vc} (h:HSat V D w ⟨bx,vc⟩) (e:bx.map (lO V)=fg.map (lO V)):HSat V D w ⟨fg,vc⟩:=by
 refine⟨fun b hb=> ?_,h.vc,?_,h.uniq⟩
 ·have bg:lO V b∈bx.map (lO V):=by rw[e];exact List.mem_map.2 ⟨b,hb,rfl⟩
  obtain⟨b0,h0,q⟩:=List.mem_map.1 bg;simp only[lO,Prod.mk.injEq] at q;obtain⟨⟨o,h1,h2⟩,h3⟩:=h.bx b0 h0;rw[q.1] at h1 h3;rw[q.2.1,q.2.2] at h2;exact⟨⟨o,h1,h2⟩,h3⟩
 ·have:=h.apart;unfold aE at this ⊢;rwa [ED e] at this
theorem TK {f:FuncId} {args:List SV} {H:Hp} {m:Mem} {R R' :SV->Hp->Mem->Prop} (h:FnH P f args H m R)
  (hR:∀r H' m',m.le m' ->R r H' m' ->∃(g:SV->SV) (G:SV->List Bx) (k u:Nat) (b:Vc) (zH:List Vc),cz H'.vc k u=some b/\r=g (.vec k u)/\H'.bx=G (.vec k u)/\
   (∀(V:Vl) (v:Value),(V.γ k u).val=v->den V (g (.vec k u))=den V (g (.v v))/\(G (.vec k u)).map (lO V)=(G (.v v)).map (lO V))/\zH.Sublist H'.vc/\
   ∀(a:Option Addr) (c:Nat) (m1:Mem),m'.le m1->b.n<=c->aw m1 a b.n b.sz b.xs->R' (g (.v (.slice a b.n c))) ⟨G (.v (.slice a b.n c)),zH⟩ m1):FnH P f args H m R' :=by
 intro V w D eg hle hH;refine(h V w D eg hle hH).mono ?_;rintro e w' ⟨r,V',D',H',m',e1,e2,e3,e4,e5,e6,e7,e8,e9,cn,cu⟩;obtain⟨g,G,k,u,b,zH,hb,rfl,hG,hg,s2,hK⟩:=hR r H' m' e9 cu;have hW:SatW ⟨w,D,(· ∈aE V H),⟨[],[]⟩,V',m⟩ (H'.bx.map (lH V')) H'.vc (max (jF (H'.bx.map (lH V'))) (jE H'.vc)) m' V' D' w' :=by
  refine⟨I2 e3,e2,e6,fun x hx=> ?_,fun x hx=>(by cases hx),fun x hx=>(by cases hx),⟨fun x hx=>⟨?_,?_⟩,fun x hx=> ?_⟩,e8,e9,cn⟩
  ·rw[A4] at hx;exact e7 x hx
  ·exact dt (ym hx) (Nat.le_max_left _ _)
  ·obtain⟨b0,_,rfl⟩:=List.mem_map.1 hx;exact El _
  ·exact dt (yl hx) (Nat.le_max_right _ _)
 obtain⟨a,c,m1,D2,q1,q2,q3,q4,q5⟩:=SatW.pub (st:=⟨[],[],H'.bx.map (lH V'),H'.vc,max (jF (H'.bx.map (lH V'))) (jE H'.vc),m'⟩) hW hb;obtain⟨u4,nz⟩:=hg V' _ q4;have th:=Hx q5.heap;have jt:HSat V' D2 w' ⟨G (.v (.slice a b.n c)),H'.vc⟩:=TI (bx:=H'.bx) th (by rw[hG];exact nz);have hS:=DZ (H2:=⟨G (.v (.slice a b.n c)),zH⟩) jt (List.Sublist.refl _) s2;refine⟨g (.v (.slice a b.n c)),V',D2,_,m1,?_,q5.wf,hS,e4,e5,q5.frm,fun x hx=>e7 x ?_,q5.le0,q5.m0,q5.mle,hK a c m1 q1 q2 q3⟩
 ·rw[e1,u4]
 ·have db:=(A3 (V:=V') (H:=⟨G (.v (.slice a b.n c)),H'.vc⟩) (H2:=⟨G (.v (.slice a b.n c)),zH⟩) (List.Sublist.refl _) s2).subset hx;unfold aE at db ⊢;dsimp only at db;rw[hG,ED nz];exact db
theorem TJ {f:FuncId} {args:List SV} {H:Hp} {m:Mem} {R R' :SV->Hp->Mem->Prop} (h:FnH P f args H m R)
  (hR:∀r H' m',m.le m' ->R r H' m' ->∃(g:SV->SV) (k n c sz:Nat) (t:TypeId) (xs:List Value) (C2:List Bx),r=g (.sl k n c)/\H'.bx=⟨k,t,xs.map .v⟩::C2/\t<gv/\n * sz<=xs.length/\
   (∀(V:Vl),den V (g (.sl k n c))=den V (g (.v (.slice (some ⟨V.β k,0,none⟩) n c))))/\
   ∀(a:Option Addr) (m1:Mem),m'.le m1->aw m1 a n sz (xs.take (n * sz))->R' (g (.v (.slice a n c))) ⟨C2,H'.vc⟩ m1):FnH P f args H m R' :=by
 intro V w D eg hle hH;refine(h V w D eg hle hH).mono ?_;rintro e w' ⟨r,V',D',H',m',e1,e2,e3,e4,e5,e6,e7,e8,e9,cn,cu⟩;obtain⟨g,k,n,c,sz,t,xs,C2,rfl,oF,ht,hlen,hg,hK⟩:=hR r H' m' e9 cu;have cR:(⟨k,t,xs.map .v⟩:Bx)∈H'.bx:=by rw[oF];exact bN ..
 obtain⟨⟨o,h1,h2⟩,h3⟩:=e3.bx _ cR;have xE:=yj ht h2;subst xE;dsimp only at h1 h3;rw[lI] at h1;have ft:=e3.apart;unfold aE at ft;rw[oF] at ft;simp only[aG,fv] at ft;have qN:=(List.nodup_cons.1 ft).1;have bg:V'.β k∈aE V' H' :=by
  unfold aE;rw[oF];simp only[aG,fv];exact bN ..
 have fe:V'.β k<w'.heap.size:=by
  by_cases q:V'.β k<w'.heap.size
  ·exact q
  ·rw[Array.getElem?_eq_none (by omega)] at h1;cases h1
 obtain⟨D2,hDk,hD2⟩:∃D2:Nat->Nat,D2 (V'.β k)=n * sz/\∀x,x≠V'.β k->D2 x=D' x:=⟨fun x=>if x=V'.β k then n * sz else D' x,ak rfl,fun x hx=>ae hx⟩;have lu:Wf w' D2:=fun x hx=>by
  rw[hD2 x (by omega)];exact e2 x hx
 have bH:Mem.le ⟨w',D'⟩ ⟨w',D2⟩:=fun x=>by
  refine⟨?_,fun h0=>((Bn e2) x).2 h0⟩;dsimp only;by_cases q:x=V'.β k
  ·rw[q,h3];exact aF _
  ·rw[hD2 x q];exact aC _
 refine⟨g (.v (.slice (some ⟨V'.β k,0,none⟩) n c)),V',D2,⟨C2,H'.vc⟩,⟨w',D2⟩,by rw[e1,hg],lu,⟨fun x hx=> ?_,fun x hx=> ?_,(List.nodup_cons.1 ft).2,e3.uniq⟩,fun x hx=>e4 x hx,e5,⟨e6.os,e6.tape,e6.output,e6.size,fun x hx hF=> ?_⟩,fun x hx=>e7 x ?_,Mem.le_trans e8 bH,Mem.le_trans e9 (Mem.le_trans cn bH),Bn lu,hK _ _ (Mem.le_trans cn bH) ⟨by rw[List.length_take];exact Nat.min_eq_left hlen,fun _=>⟨_,rfl,rfl,fun j hj=> ?_⟩⟩⟩
 ·obtain⟨q1,q2⟩:=e3.bx x (by rw[oF];exact bw _ hx);refine⟨q1,?_⟩;rw[hD2 _ fun e=>qN (by rw[<- e];exact List.mem_append.2 (.inl (List.mem_map.2 ⟨x,hx,rfl⟩)))];exact q2
 ·obtain⟨q1,q2,q3,q4⟩:=e3.vc x hx;refine⟨q1,fun y hy=> ?_,q3,q4⟩;rw[hD2 _ fun e=>qN (by rw[<- e];exact List.mem_append.2 (.inr (List.mem_filterMap.2 ⟨x,hx,hy⟩)))];exact q2 y hy
 ·obtain⟨q1,q2⟩:=e6.same x hx hF;refine⟨q1,?_⟩;rw[hD2 _ fun e=> ?_]
  ·exact q2
  ·rcases e7 _ bg with q |q
   ·exact hF (e▸q)
   ·omega
 ·unfold aE at hx ⊢;rw[oF];simp only[aG,fv];exact bw _ hx
 ·rw[Addr.add_lit];refine⟨?_,?_⟩
  ·show w'.cell? ⟨V'.β k,0+j,none⟩=_;rw[Nat.zero_add,List.getElem?_take,ak hj];simp [World.cell?,h1]
  ·show 0+j<D2 (V'.β k);rw[hDk];omega
theorem Kb {V:Vl} {bx fg:List Bx} {vc:List Vc} (hp:bx.Perm fg) {x:Nat}:x∈aE V ⟨bx,vc⟩↔x∈aE V ⟨fg,vc⟩:=(IZ hp).mem_iff
theorem tL {f:FuncId} {args:List SV} {bx fg:List Bx} {vc:List Vc} {m:Mem} {R:SV->Hp->Mem->Prop} (h:FnH P f args ⟨bx,vc⟩ m R) (hp:bx.Perm fg):FnH P f args ⟨fg,vc⟩ m R:=by
 intro V w D eg hle hH;refine(h V w D eg hle (hH.permBx hp.symm)).mono ?_;rintro e w' ⟨r,V',D',H',m',e1,e2,e3,e4,e5,e6,e7,e8,e9,cn,cu⟩;exact⟨r,V',D',H',m',e1,e2,e3,fun b hb=>e4 b (hp.mem_iff.2 hb),e5,⟨e6.os,e6.tape,e6.output,e6.size,fun x hx hF=>e6.same x hx fun bg=>hF ((Kb hp).1 bg)⟩,fun x hx=>(e7 x hx).imp (Kb hp).1 id,e8,e9,cn,cu⟩
theorem VY {n:Nat} {st:LS} {a rest:Code} {Q:Exit->LS->Prop} {X:Type} (T:(LS->Prop)->LS->Prop) (hT:∀(K:LS->Prop) (C:Ctx) (st:LS) (a:Act) (w:World),jq C n st a w->T K st->∃ah,jq C n ah a w/\K ah)
  (S:X->LS) (J:X->Prop) (hn:∀x,J x->st.nid<=(S x).nid) (hm:∀x,J x->af st.m (S x).m) (ao:∀x,po (S x))
  (h:WP P n a (iC (T fun ah=>∃x,Match ah (S x)/\J x) Q) st) (hr:∀x,J x->WP P n rest Q (S x)):WP P n (.seq a rest) Q st:=by
 rintro C a1 w ⟨eD,V,D,hS⟩;refine wp_seq (wp_mono (h C a1 w ⟨eD,V,D,hS⟩) ?_);rintro e a2 w2 ⟨cI,hE2,hq⟩;cases e with
 |normal=>
  obtain⟨st3,⟨_,V2,D2,nA⟩,x,hM,hx⟩:=hT _ C cI a2 w2 hE2 hq;refine hr x hx C a2 w2 ⟨hM.2.1,V2,D2,nA.weaken hM (ao x) (fun b hb=>dt (hS.w.baseB b hb).2 (hn x hx)) (fun b hb=>dt (hS.w.baseV b hb).2.1 (hn x hx)) ?_⟩;rcases hm x hx with e |h
  ·rw[<- e];exact hS.w.m0
  ·exact Mem.le_trans hS.w.m0 h
 |exit id=>exact⟨cI,hE2,hq⟩
 |goto l=>exact⟨cI,hE2,hq⟩
 |ret=>exact⟨cI,hE2,hq⟩
 |panic ch=>exact⟨cI,hE2,hq⟩
 |outgrown=>exact⟨cI,hE2,hq⟩
theorem vV {n:Nat} {st:LS} {a rest:Code} {Q:Exit->LS->Prop} {X:Type} (k:Nat) (S:X->LS) (J:X->Prop) (hn:∀x,J x->st.nid<=(S x).nid) (hm:∀x,J x->af st.m (S x).m) (ao:∀x,po (S x))
  (h:WP P n a (iC (wm k fun ah=>∃x,Match ah (S x)/\J x) Q) st) (hr:∀x,J x->WP P n rest Q (S x)):WP P n (.seq a rest) Q st:=
 VY (wm k) (fun _ _ _ _ _ hE h=>Hj hE h) S J hn hm ao h hr
theorem mF {K:List SV->LS->Prop} {st:LS} {r:List SV}:∀{l:List Value},fJ (.mk (k:=K) (st,l.map .v++r))=fJ (.mk (k:=fun r' ah=>K (l.map .v++r') ah) (st,r))
 |[]=>rfl
 |x::l=>by
  rw[aG,fv,LH,mF]
theorem oN {K:List SV->LS->Prop} {st:LS} {l:List Value}:fJ (.mk (k:=K) (st,l.map .v))=K (l.map .v) st:=by
 have:=mF (K:=K) (st:=st) (r:=[]) (l:=l);rw[List.append_nil] at this;rw[this,Jr,List.append_nil]
end
theorem aaM:aM Tryz.prog 107=7:=by kernel_rfl
theorem aaP:aM Tryz.prog 158=1:=by kernel_rfl
theorem abK:iP Tryz.prog 107=128:=by kernel_rfl
theorem aai:cH Tryz.prog 107=some (some 7):=by kernel_rfl
theorem aal:cH Tryz.prog 158=some (some 1):=by kernel_rfl
theorem abt:eo Tryz.prog 102=some 107:=by kernel_rfl
theorem Yp:cH Tryz.prog 102=some none:=by kernel_rfl
theorem YJ:aM Tryz.prog 102=1:=by kernel_rfl
theorem Wl:cY Tryz.prog 107=some [.v (.int .i64 0),.v (.string (bs [])),.v (.string (bs [])),.v (.slice none 0 0),.v (.slice none 0 0),.v (.slice none 0 0),.v (.string (bs []))]:=by kernel_rfl
theorem ZZ:fV Tryz.prog 107=true:=by kernel_rfl
theorem Zr:bf Tryz.prog 158 0=some (0,none,1):=by kernel_rfl
theorem XT:bf Tryz.prog 107 0=some (0,none,1):=by kernel_rfl
theorem XS:bf Tryz.prog 107 1=some (1,none,1):=by kernel_rfl
theorem XR:bf Tryz.prog 107 2=some (2,none,1):=by kernel_rfl
theorem XQ:bf Tryz.prog 107 3=some (3,none,1):=by kernel_rfl
theorem XP:bf Tryz.prog 107 4=some (4,none,1):=by kernel_rfl
theorem XO:bf Tryz.prog 107 5=some (5,none,1):=by kernel_rfl
attribute [go_sem] aaM aaP abK aai aal abt Yp YJ Wl ZZ Zr XT XS XR XQ XP XO
/-! Lists of plain cells among others. -/
theorem K4 (acc:List Nat) (r:List SV):∀l:List Value,eJ acc (l.map .v++r)=eJ acc r
 |[]=>rfl
 |_::q=>K4 acc r q
theorem bm (acc:List Nat):∀l:List Value,eJ acc (l.map .v)=acc
 |[]=>rfl
 |_::q=>bm acc q
theorem KI {n:Nat} {vc:List Vc} (r:List SV):∀l:List Value,cP n vc (l.map .v++r)=cP n vc r
 |[]=>rfl
 |_::q=>by
  simp only[aG,fv];show(True/\cP n vc (q.map .v++r))=_;rw[KI r q,true_and]
theorem bC {n:Nat} {vc:List Vc} (l:List Value):cP n vc (l.map .v)=True:=eq_true (BB l)
theorem K0 {L:List Nat} (r:List SV):∀l:List Value,nv L (l.map .v++r)=nv L r
 |[]=>rfl
 |_::q=>by
  simp only[aG,fv];show(True/\nv L (q.map .v++r))=_;rw[K0 r q,true_and]
theorem bo {L:List Nat}:∀l:List Value,nv L (l.map .v)=True
 |[]=>rfl
 |_::q=>by
  simp only[aG];show(True/\nv L (q.map .v))=_;rw[bo q,true_and]
theorem Lq {nB nV:List Nat} {len:Nat} (r:List SV):∀l:List Value,nH nB nV len (l.map .v++r)=nH nB nV len r
 |[]=>rfl
 |_::q=>by
  simp only[aG,fv];show(True/\nH nB nV len (q.map .v++r))=_;rw[Lq r q,true_and]
theorem bp {nB nV:List Nat} {len:Nat}:∀l:List Value,nH nB nV len (l.map .v)=True
 |[]=>rfl
 |_::q=>by
  simp only[aG];show(True/\nH nB nV len (q.map .v))=_;rw[bp q,true_and]
theorem bA (ρ:Nat->Nat) (l:List Value):(l.map SV.v).map (im ρ)=l.map .v:=by
 rw[List.map_map];rfl
attribute [go_sem] K4 bm KI bC K0 bo Lq bp bA List.map_append List.append_assoc
theorem jz {n b:Nat} (h:n<=100000000) (hb:b<=1000):room n b:=⟨cQ (Nat.mul_le_mul h hb) (by decide),cQ h (by decide)⟩
@[reducible] def dH (h:SV):Bx:=⟨0,158,[h]⟩
attribute [go_sem] dH
def mY (fl:Int) (s sup:Nm):List Value:=[.int .i64 fl,.string (bs s),.string (bs sup),.slice none 0 0,.slice none 0 0,.slice none 0 0,.string (bs [])]
theorem vA (s sup:Nm) (fl:Int) (gX:0<=fl/\fl<=4096) (hs:s.length<=1000) (n c:Nat) (vs rest:List Value) (hn:vs.length=n * 7) (hr:rest.length=(c - n) * 7) (hc:n<=c/\c<=maxLen) (fE:n<=1000) (m:Mem):
  FnH Tryz.prog 150 [.box 0 0,.v (.string (bs s)),.v (.string (bs sup)),.v (.int .i64 fl)] ⟨[dH (.sl 1 n c),⟨1,107,vs.map .v++rest.map .v⟩],[]⟩ m
   fun r H' m' =>af m m' /\∃(c' :Nat) (bF:List Value),n+1<=c' /\c' <=maxLen/\bF.length=(c' - (n+1)) * 7/\r= .box 3 (n * 7)/\H' =⟨[⟨3,107,(vs++mY (1+fl) ([108,97,110,103,47]++s) sup).map .v++bF.map .v⟩,dH (.sl 3 (n+1) c')],[]⟩:=by
 refine br aq Tryz.func150 ?_
 ·have ht:(vs.map SV.v++rest.map SV.v).take (n * 7)=vs.map SV.v:=by
   rw[List.take_append_of_le_length (by rw[List.length_map,hn];exact aC _),jS (by rw[List.length_map,hn];exact aC _)]
  simp only[go_sem,ht];refine⟨by unfold az;omega,by omega,⟨by rw[bc,List.length_map,List.length_map];omega,hc⟩,jz (by omega) (by decide),fun c' bF rz vb u9=> ?_⟩;refine bZ (.hoist 0 (.hoist 1 (.hoist 2 (.hoist 3 (.hoist 4 (.hoist 5 (.hoist 6 (.hoist 7 (.hoist 8 (.hoist 9 (.hoist 10 (.hoist 11 .done)))))))))))) aq (by kernel_rfl) (by kernel_rfl) ?_;simp only[go_sem];exact⟨by unfold az;omega,by omega,c',bF,rz,vb,u9,by rw[show((n+1:Nat):Int) - 1=n by omega];rfl,rfl⟩
theorem OR (s sup:Nm) (fl:Int) (gX:0<=fl/\fl<=4096) (hs:s.length<=1000) (m:Mem):
  FnH Tryz.prog 150 [.box 0 0,.v (.string (bs s)),.v (.string (bs sup)),.v (.int .i64 fl)] ⟨[dH (.v (.slice none 0 0))],[]⟩ m
   fun r H' m' =>af m m' /\∃(c' :Nat) (bF:List Value),1<=c' /\c' <=maxLen/\bF.length=(c' - 1) * 7/\r= .box 2 0/\H' =⟨[⟨2,107,(mY (1+fl) ([108,97,110,103,47]++s) sup).map .v++bF.map .v⟩,dH (.sl 2 1 c')],[]⟩:=by
 refine Rq (R:=fun r H' m' =>r= .vp 2 0 0/\H' =⟨[dH (.vec 2 0)],[⟨2,0,107,7,1,mY (1+fl) ([108,97,110,103,47]++s) sup⟩]⟩) (enter bb aq Tryz.func150 rfl rfl (by kernel_rfl) rfl ?_ ?_) rfl ?_
 ·simp only[go_sem]
 ·simp only[go_sem];refine⟨by unfold az;omega,by omega,jz (by omega) (by decide),?_⟩;refine bZ (.hoist 0 (.hoist 1 (.hoist 2 (.hoist 3 (.hoist 4 (.hoist 5 (.hoist 6 (.hoist 7 (.hoist 8 (.hoist 9 (.hoist 10 (.hoist 11 .done)))))))))))) aq (by kernel_rfl) (by kernel_rfl) ?_;simp only[go_sem];exact⟨by unfold az;omega,by decide,rfl,rfl⟩
 ·rintro r H' m' hm ⟨rfl,rfl⟩;refine⟨_,rfl,Nat.zero_lt_one,(by decide:(107:Nat)<gv),rfl,fun x hx=> ?_,fun x hx=> ?_,fun c rest h1 h2 h3=>⟨.inl rfl,c,rest,h1,h2,h3,rfl,?_⟩⟩
  ·rw[List.mem_singleton.1 hx];exact⟨(by decide:(0:Nat)≠2),rfl⟩
  ·rw[List.mem_singleton.1 hx];exact⟨(by decide:(0:Nat)≠2),_,List.mem_singleton.2 rfl,rfl⟩
  ·rfl
theorem aaF:aM Tryz.prog 176=11:=by kernel_rfl
theorem abF:iP Tryz.prog 176=184:=by kernel_rfl
theorem aaa:cH Tryz.prog 176=some (some 11):=by kernel_rfl
theorem abo:eo Tryz.prog 105=some 176:=by kernel_rfl
theorem Yg:cH Tryz.prog 105=some none:=by kernel_rfl
theorem YC:aM Tryz.prog 105=1:=by kernel_rfl
theorem ZT:fV Tryz.prog 176=true:=by kernel_rfl
theorem We:cY Tryz.prog 176=some [.v (.int .i64 0),.v (.string (bs [])),.v (.string (bs [])),.v (.bool false),.v (.int .i64 0),.v (.int .i64 0),.v (.slice none 0 0),.v (.slice none 0 0),.v (.slice none 0 0),.v (.slice none 0 0),.v (.slice none 0 0)]:=by kernel_rfl
theorem XE:bf Tryz.prog 176 0=some (0,none,1):=by kernel_rfl
theorem XD:bf Tryz.prog 176 1=some (1,none,1):=by kernel_rfl
theorem XC:bf Tryz.prog 176 2=some (2,none,1):=by kernel_rfl
theorem XB:bf Tryz.prog 176 3=some (3,none,1):=by kernel_rfl
theorem XA:bf Tryz.prog 176 4=some (4,some 6,6):=by kernel_rfl
attribute [go_sem] aaF abF aaa abo Yg YC ZT We XE XD XC XB XA
theorem Y9 {m:Mem} {p v:Value} (h0:Rd m p [v]) {K:Value->Prop}:(∃c,Rd m p [c]/\K c)=K v:=by
 refine eq_iff_iff.2 ⟨fun h=> ?_,fun h=>⟨_,h0,h⟩⟩;obtain⟨c,⟨ad,e1,_,h1⟩,hk⟩:=h;obtain⟨ad',e2,_,h2⟩:=h0;rw[e1] at e2;cases e2;have h3:=(h1 0 (by simp)).1;have h4:=(h2 0 (by simp)).1;rw[h3] at h4;simp only[List.getElem?_cons_zero,cv] at h4;rw[<- h4];exact hk
theorem iL {m:Mem} {a:Option Addr} {n:Nat} {xs:List Value} (hr:aw m a n 1 xs) {j:Nat} (hj:j<n) {v:Value} (hv:xs[j]? =some v) {K:Value->Prop}:(∃c,Rd m (bk a j) [c]/\K c)=K v:=by
 refine Y9 ?_;have h:=(dM hr hj).1;rw[Nat.mul_one] at h;obtain⟨h1,h2⟩:=List.getElem?_eq_some_iff.1 hv;rw[List.drop_eq_getElem_cons h1,h2] at h;exact h
theorem js {m:Mem} {a:Option Addr} {n:Nat} {xs:List Value} (hr:aw m a n 1 xs) {j:Nat} (hj:j<n):bS a n (j:Int)=True:=eq_true ⟨by omega,by omega,(dM hr hj).2⟩
@[reducible] def eP (k:Nat) (pre:List Value) (fl:Int) (nm sup:Nm) (fs:Value) (x:SV) (rest:List Value):Bx:=⟨k,107,pre.map .v++(.v (.int .i64 fl):: .v (.string (bs nm)):: .v (.string (bs sup)):: .v (.slice none 0 0):: .v fs::x:: .v (.string (bs []))::rest.map .v)⟩
attribute [go_sem] eP
def F9 (v:Value):Value:=match v with
 | .slice a n c=> .slice a n c
 |_=> .slice none 0 0
theorem jx (v:Value):(F9 v).oneCell' =true:=by cases v<;>rfl
theorem jG (b:Bool) (i j:Int) (x:Value) (hx:x.oneCell' =true):([Value.bool b,.int .i64 i,.int .i64 j,x,.slice none 0 0,.slice none 0 0,.slice none 0 0,.slice none 0 0].all fun v=>v.oneCell')=true:=by
 simp only[List.all_cons,hx];rfl
def sG (fl:Int) (x:Nm×Nm):List Value:=[.int .i64 (257+fl),.string (bs x.1),.string (bs x.2),.bool false,.int .i64 0,.int .i64 0,.slice none 0 0,.slice none 0 0,.slice none 0 0,.slice none 0 0,.slice none 0 0]
def oX (l:List (Nm×Nm)):List Value:=(l.map fun x=>[Value.string (bs x.1),.string (bs x.2)]).flatten
theorem yf:∀(l:List (Nm×Nm)) (i:Nat) (h:i<l.length),(oX l)[2 * i]? =some (.string (bs l[i].1))/\(oX l)[2 * i+1]? =some (.string (bs l[i].2))
 |[],_,h=>by simp at h
 |x::r,0,_=>⟨rfl,rfl⟩
 |x::r,i+1,h=>by
  have e:oX (x::r)= .string (bs x.1):: .string (bs x.2)::oX r:=rfl;have:=yf r i (by simpa using h);rw[e,show 2 * (i+1)=2 * i+1+1 by omega];simpa using this
theorem tW {pre:List Value} {o:Nat} (h:pre.length=o) (r:List SV) (k:Nat):(pre.map SV.v++r)[o+k]? =r[k]? :=by
 rw[List.getElem?_append_right (by rw[List.length_map];omega),List.length_map,h,Nat.add_sub_cancel_left]
theorem tS {pre:List Value} {o:Nat} (h:pre.length=o) (r:List SV) (k:Nat) (x:SV):(pre.map SV.v++r).set (o+k) x=pre.map SV.v++r.set k x:=by
 rw[List.set_append_right _ _ (by rw[List.length_map];omega),List.length_map,h,Nat.add_sub_cancel_left]
theorem Hl (pre:List Value) (o:Nat) (ho:pre.length=o) (fl:Int) (nm sup:Nm) (fs:Value) (rest:List Value) (u q:Nat) (xs:List Value) (hq:q<=100) (hx:xs.length=q * 11) (nf:Int) (hnf:0<=nf/\nf<=4096) (l:List (Nm×Nm)) (hl:l.length<=100) (a:Option Addr) (c:Nat) (m:Mem) (hr:aw m a (2 * l.length) 1 (oX l)):
  FnH Tryz.prog 152 [.box 0 o,.v (.int .i64 nf),.v (.slice a (2 * l.length) c)] ⟨[eP 0 pre fl nm sup fs (.vec 1 u) rest],[⟨1,u,176,11,q,xs⟩]⟩ m
   fun r H' m' =>af m m' /\r= .tup []/\H' =⟨[eP 0 pre fl nm sup fs (.vec 1 (u+l.length)) rest],[⟨1,u+l.length,176,11,q+l.length,xs++(l.map (sG nf)).flatten⟩]⟩:=by
 refine br aq Tryz.func152 ?_
 ·simp only[go_sem];refine gC aq (fun i:Nat=>⟨[⟨0,[],.box 0 o⟩,⟨1,[],.v (.int .i64 nf)⟩,⟨2,[],.v (.slice a (2 * l.length) c)⟩,⟨6,[],.v (.int .i64 ((2 * i:Nat):Int))⟩],[],[eP 0 pre fl nm sup fs (.vec 1 (u+i)) rest],[⟨1,u+i,176,11,q+i,xs++((l.take i).map (sG nf)).flatten⟩],40,m⟩)
   (fun i=>i<=l.length) (fun i=>l.length - i) 0 (fun _ _=>aZ rfl) (fun _ _=> .inl rfl) ?_ ?_ ?_
  ·simp only[go_sem];exact⟨rfl,rfl,rfl,rfl,by simp⟩
  ·exact aF _
  ·intro i hi;by_cases aj:i<l.length
   ·have hc:(((2 * i:Nat):Int)+1<((2 * l.length:Nat):Int))=True:=eq_true (by omega);have e0:(oX l)[2 * i]? =some (.string (bs l[i].1)):=(yf l i aj).1;have e1:(oX l)[2 * i+1]? =some (.string (bs l[i].2)):=(yf l i aj).2;have Ap:az (((2 * i:Nat):Int)+1)=True:=eq_true (by unfold az;omega);have GP:az (257+nf)=True:=eq_true (by unfold az;omega);have Gn:(((2 * i:Nat):Int)+1).toNat=2 * i+1:=by omega
    have Gz:=js hr (j:=2 * i) (by omega);have Aj:bS a (2 * l.length) (((2 * i:Nat):Int)+1)=True:=js hr (j:=2 * i+1) (by omega);have Ah:∀{K:Value->Prop},(∃c,Rd m (bk a (2 * i)) [c]/\K c)=K (.string (bs l[i].1)):=fun{K}=>iL hr (by omega) e0
    have bE:∀{K:Value->Prop},(∃c,Rd m (bk a (2 * i+1)) [c]/\K c)=K (.string (bs l[i].2)):=fun{K}=>iL hr (by omega) e1
    simp only[go_sem,hc,Ap,not_true_eq_false,false_implies,and_true,true_and];refine bZ (.hoist 0 (.hoist 1 (.hoist 2 (.hoist 3 (.hoist 4 (.hoist 5 (.hoist 6 (.hoist 7 (.hoist 8 (.hoist 9 (.hoist 10 (.hoist 11 (.hoist 12 (.hoist 13 (.hoist 14 (.hoist 15 (.hoist 16 (.alt 17 [4,3,2,1,0] (.alt 18 [0] (.hoist 19 (.hoist 20 (.alt 21 [] .done .stop))) .stop) .stop)))))))))))))))))) aq (by kernel_rfl) (by kernel_rfl) ?_;simp only[go_sem,tW ho,tS ho,Gz,Aj,Ah,bE,Gn,Ap,GP,Nat.mul_one];refine⟨jz (by omega) (by decide),by rw[bc,List.length_map];simp only[dk];omega,by unfold az;omega,i+1,⟨by omega,rfl,rfl,rfl,?_⟩,aj,by omega⟩;rw[List.take_succ_eq_append_getElem aj,List.map_append,List.flatten_append];rfl
   ·have hc:(((2 * i:Nat):Int)+1<((2 * l.length:Nat):Int))=False:=eq_false (by omega);simp only[go_sem,hc];have dF:i=l.length:=by omega
    refine⟨by unfold az;omega,?_⟩;rw[dF,List.take_length]
theorem Hm (pre:List Value) (o:Nat) (ho:pre.length=o) (fl:Int) (nm sup:Nm) (fs:Value) (rest:List Value) (nf:Int) (hnf:0<=nf/\nf<=4096) (l:List (Nm×Nm)) (hl:l.length<=100) (a:Option Addr) (c:Nat) (m:Mem) (hr:aw m a (2 * l.length) 1 (oX l)):
  FnH Tryz.prog 152 [.box 0 o,.v (.int .i64 nf),.v (.slice a (2 * l.length) c)] ⟨[eP 0 pre fl nm sup fs (.v (.slice none 0 0)) rest],[]⟩ m
   fun r H' m' =>af m m' /\r= .tup []/\H' =⟨[eP 0 pre fl nm sup fs (.vec 1 l.length) rest],[⟨1,l.length,176,11,l.length,(l.map (sG nf)).flatten⟩]⟩:=by
 refine br aq Tryz.func152 ?_
 ·simp only[go_sem];refine yc 0 (o+5) _ 176 11 (by decide) rfl (tW ho _ 5) ?_;refine gC aq (fun i:Nat=>⟨[⟨0,[],.box 0 o⟩,⟨1,[],.v (.int .i64 nf)⟩,⟨2,[],.v (.slice a (2 * l.length) c)⟩,⟨6,[],.v (.int .i64 ((2 * i:Nat):Int))⟩],[],[eP 0 pre fl nm sup fs (.vec 1 i) rest],[⟨1,i,176,11,i,((l.take i).map (sG nf)).flatten⟩],40,m⟩)
   (fun i=>i<=l.length) (fun i=>l.length - i) 0 (fun _ _=>aZ rfl) (fun _ _=> .inl rfl) ?_ ?_ ?_
  ·simp only[go_sem,tS ho];exact⟨rfl,rfl⟩
  ·exact aF _
  ·intro i hi;by_cases aj:i<l.length
   ·have hc:(((2 * i:Nat):Int)+1<((2 * l.length:Nat):Int))=True:=eq_true (by omega);have e0:(oX l)[2 * i]? =some (.string (bs l[i].1)):=(yf l i aj).1;have e1:(oX l)[2 * i+1]? =some (.string (bs l[i].2)):=(yf l i aj).2;have Ap:az (((2 * i:Nat):Int)+1)=True:=eq_true (by unfold az;omega);have GP:az (257+nf)=True:=eq_true (by unfold az;omega);have Gn:(((2 * i:Nat):Int)+1).toNat=2 * i+1:=by omega
    have Gz:=js hr (j:=2 * i) (by omega);have Aj:bS a (2 * l.length) (((2 * i:Nat):Int)+1)=True:=js hr (j:=2 * i+1) (by omega);have Ah:∀{K:Value->Prop},(∃c,Rd m (bk a (2 * i)) [c]/\K c)=K (.string (bs l[i].1)):=fun{K}=>iL hr (by omega) e0
    have bE:∀{K:Value->Prop},(∃c,Rd m (bk a (2 * i+1)) [c]/\K c)=K (.string (bs l[i].2)):=fun{K}=>iL hr (by omega) e1
    simp only[go_sem,hc,Ap,not_true_eq_false,false_implies,and_true,true_and];refine bZ (.hoist 0 (.hoist 1 (.hoist 2 (.hoist 3 (.hoist 4 (.hoist 5 (.hoist 6 (.hoist 7 (.hoist 8 (.hoist 9 (.hoist 10 (.hoist 11 (.hoist 12 (.hoist 13 (.hoist 14 (.hoist 15 (.hoist 16 (.alt 17 [4,3,2,1,0] (.alt 18 [0] (.hoist 19 (.hoist 20 (.alt 21 [] .done .stop))) .stop) .stop)))))))))))))))))) aq (by kernel_rfl) (by kernel_rfl) ?_;simp only[go_sem,tW ho,tS ho,Gz,Aj,Ah,bE,Gn,Ap,GP,Nat.mul_one];refine⟨jz (by omega) (by decide),by rw[bc,List.length_map];simp only[dk];omega,by unfold az;omega,i+1,⟨by omega,rfl,rfl,rfl,?_⟩,aj,by omega⟩;rw[List.take_succ_eq_append_getElem aj,List.map_append,List.flatten_append];rfl
   ·have hc:(((2 * i:Nat):Int)+1<((2 * l.length:Nat):Int))=False:=eq_false (by omega);simp only[go_sem,hc];have dF:i=l.length:=by omega
    refine⟨by unfold az;omega,?_⟩;rw[dF,List.take_length]
theorem aaJ:aM Tryz.prog 168=10:=by kernel_rfl
theorem abH:iP Tryz.prog 168=144:=by kernel_rfl
theorem aaf:cH Tryz.prog 168=some (some 10):=by kernel_rfl
theorem abq:eo Tryz.prog 169=some 168:=by kernel_rfl
theorem Yn:cH Tryz.prog 169=some none:=by kernel_rfl
theorem ZV:fV Tryz.prog 168=true:=by kernel_rfl
theorem ZY:fV Tryz.prog 174=true:=by kernel_rfl
theorem Wk:cY Tryz.prog 174=some [.v (.int .i64 0),.v (.int .i64 0),.v (.slice none 0 0),.v (.slice none 0 0),.v (.slice none 0 0),.v (.slice none 0 0)]:=by kernel_rfl
theorem XN:bf Tryz.prog 174 0=some (0,none,1):=by kernel_rfl
theorem XM:bf Tryz.prog 174 1=some (1,none,1):=by kernel_rfl
theorem XL:bf Tryz.prog 174 2=some (2,none,1):=by kernel_rfl
theorem Wh:cY Tryz.prog 168=some [.v (.int .i64 0),.v (.int .i64 0),.v (.int .i64 0),.v (.int .i64 0),.v (.slice none 0 0),.v (.slice none 0 0),.v (.string (bs [])),.v (.string (bs [])),.v (.string (bs [])),.v (.string (bs []))]:=by kernel_rfl
theorem XH:bf Tryz.prog 168 0=some (0,none,1):=by kernel_rfl
theorem XG:bf Tryz.prog 168 1=some (1,none,1):=by kernel_rfl
theorem XF:bf Tryz.prog 168 6=some (6,some 3,3):=by kernel_rfl
theorem Wc:cY Tryz.prog 166=some [.v (.string (bs [])),.v (.string (bs [])),.v (.string (bs []))]:=by kernel_rfl
theorem ZR:fV Tryz.prog 166=true:=by kernel_rfl
theorem Xz:bf Tryz.prog 166 0=some (0,none,1):=by kernel_rfl
theorem Xy:bf Tryz.prog 166 1=some (1,none,1):=by kernel_rfl
theorem Xx:bf Tryz.prog 166 2=some (2,none,1):=by kernel_rfl
attribute [go_sem] aaJ abH aaf abq Yn ZV ZY Wk XN XM XL Wh XH XG XF Wc ZR Xz Xy Xx
def kR (d:Nm) (st lo:Int) (v:Value):List Value:=[.int .i64 1,.string (bs bJ),.string (bs d),.bool true,.int .i64 st,.int .i64 lo,F9 v,.slice none 0 0,.slice none 0 0,.slice none 0 0,.slice none 0 0]
theorem yg (pre:List Value) (o:Nat) (ho:pre.length=o) (fl:Int) (nm sup:Nm) (fs:Value) (rest:List Value) (d:Nm) (st lo:Int) (k:Nat) (hk:k<=100) (xi:List Value) (m:Mem):
  FnH Tryz.prog 151 [.box 0 o,.v (.string (bs d)),.v (.int .i64 st),.v (.int .i64 lo),.vec 1 0] ⟨[eP 0 pre fl nm sup fs (.v (.slice none 0 0)) rest],[⟨1,0,168,10,k,xi⟩]⟩ m
   fun r H' m' =>af m m' /\r= .tup []/\∃v:Value,H' =⟨[eP 0 pre fl nm sup fs (.vec 4 0) rest],[⟨4,0,176,11,1,kR d st lo v⟩]⟩:=by
 refine V6 (R:=fun r H' m' =>af m m' /\r= .tup []/\∃(v:Value) (x:Vc),H' =⟨[eP 0 pre fl nm sup fs (.vec 4 0) rest],[⟨4,0,176,11,1,kR d st lo v⟩,x]⟩) (enter bb aq Tryz.func151 rfl rfl (by kernel_rfl) rfl ?_ ?_) ?_
 ·simp only[go_sem]
 ·simp only[go_sem];refine bZ (.hoist 0 (.hoist 1 (.hoist 2 (.hoist 3 (.hoist 4 (.hoist 5 (.hoist 6 (.hoist 7 (.hoist 8 (.hoist 9 (.alt 10 [8,7,6,5,4,3,2,1,0] (.alt 11 [7,6,5,4,3,2,1,0] (.hoist 12 (.hoist 13 (.alt 14 [4,3,2,1,0] (.alt 15 [0] (.hoist 16 (.hoist 17 (.alt 18 [] .done .stop))) .stop) .stop))) .stop) .stop))))))))))) aq (by kernel_rfl) (by kernel_rfl) ?_;simp only[go_sem,tW ho,tS ho];have hlen:o+5+1<=(pre.map SV.v++SV.v (.int .i64 fl)::SV.v (.string (bs nm))::SV.v (.string (bs sup))::SV.v (.slice none 0 0)::SV.v fs::SV.v (.slice none 0 0)::SV.v (.string (bs []))::rest.map SV.v).length:=by
   rw[bc,List.length_map];simp only[dk];omega
  exact⟨jz (by omega) (by decide),fun a c m1 h1 h2 h3=>⟨⟨.inr h1,.inr h1,.inr h1,.inr h1,.inr h1⟩,jz (by decide) (by decide),.inr h1,hlen,.inr h1,.slice a _ c,_,rfl⟩⟩
 ·rintro r H' m' hm ⟨h1,h2,v,x,rfl⟩;exact⟨⟨_,[_]⟩,List.Sublist.refl _,.cons_cons _ (.cons _ (List.Sublist.refl _)),h1,h2,v,rfl⟩
theorem Tj (pre:List Value) (o:Nat) (ho:pre.length=o) (fl:Int) (nm sup:Nm) (fs:Value) (rest:List Value) (d:Nm) (st lo:Int) (m:Mem):
  FnH Tryz.prog 151 [.box 0 o,.v (.string (bs d)),.v (.int .i64 st),.v (.int .i64 lo),.v (.slice none 0 0)] ⟨[eP 0 pre fl nm sup fs (.v (.slice none 0 0)) rest],[]⟩ m
   fun r H' m' =>af m m' /\r= .tup []/\∃v:Value,H' =⟨[eP 0 pre fl nm sup fs (.vec 4 0) rest],[⟨4,0,176,11,1,kR d st lo v⟩]⟩:=by
 refine br aq Tryz.func151 ?_
 ·simp only[go_sem];refine bZ (.hoist 0 (.hoist 1 (.hoist 2 (.hoist 3 (.hoist 4 (.hoist 5 (.hoist 6 (.hoist 7 (.hoist 8 (.hoist 9 (.alt 10 [8,7,6,5,4,3,2,1,0] (.alt 11 [7,6,5,4,3,2,1,0] (.hoist 12 (.hoist 13 (.alt 14 [4,3,2,1,0] (.alt 15 [0] (.hoist 16 (.hoist 17 (.alt 18 [] .done .stop))) .stop) .stop))) .stop) .stop))))))))))) aq (by kernel_rfl) (by kernel_rfl) ?_;simp only[go_sem,tW ho,tS ho];have hlen:o+5+1<=(pre.map SV.v++SV.v (.int .i64 fl)::SV.v (.string (bs nm))::SV.v (.string (bs sup))::SV.v (.slice none 0 0)::SV.v fs::SV.v (.slice none 0 0)::SV.v (.string (bs []))::rest.map SV.v).length:=by
   rw[bc,List.length_map];simp only[dk];omega
  exact⟨jz (by decide) (by decide),fun a c m1 h1 h2 h3=>⟨⟨.inr h1,.inr h1,.inr h1,.inr h1,.inr h1⟩,jz (by decide) (by decide),.inr h1,hlen,.inr h1,.slice a _ c,rfl⟩⟩
def cF (op a:Int) (rf:List Nm):List SV:=[.v (.int .i64 op),.v (.int .i64 a),.v (.int .i64 0),.v (.int .i64 0),.v (.slice none 0 0),.v (.slice none 0 0)]++(rf.map fun s=> .v (.string (bs s)))++[.v (.string (bs []))]
theorem vD (m:Mem):FnH Tryz.prog 237 [] ⟨[],[]⟩ m fun r H' m' =>m' =m/\r= .agg (cF 6 0 [[],[],[]])/\H' =⟨[],[]⟩:=by
 refine br aq Tryz.func237 ?_
 ·simp only[go_sem];exact rfl
theorem xK (cl d:Nm) (m:Mem):FnH Tryz.prog 238 [.v (.string (bs cl)),.v (.string (bs d))] ⟨[],[]⟩ m fun r H' m' =>m' =m/\r= .agg (cF 64 0 [cl,bJ,d])/\H' =⟨[],[]⟩:=by
 refine br aq Tryz.func238 ?_
 ·simp only[go_sem];exact rfl
abbrev cfC:Cfg:=eZ (fun f=>f==151) []
theorem fO:cw cfC Tryz.prog:=aq
def cN (s:Nm):Nm:=[108,97,110,103,47]++s
theorem Im (s sup:Nm) (hs:s.length<=1000) (n c:Nat) (vs rest:List Value) (hn:vs.length=n * 7) (hr:rest.length=(c - n) * 7) (hc:n<=c/\c<=maxLen) (fE:n<=1000) (m:Mem):
  FnH Tryz.prog 153 [.box 0 0,.v (.string (bs s)),.v (.string (bs sup))] ⟨[dH (.sl 1 n c),⟨1,107,vs.map .v++rest.map .v⟩],[]⟩ m
   fun r H' m' =>af m m' /\∃(c' :Nat) (bF:List Value) (v:Value),n+1<=c' /\c' <=maxLen/\bF.length=(c' - (n+1)) * 7/\r= .box 5 (n * 7)/\
    H' =⟨[eP 5 vs 1 (cN s) sup (.slice none 0 0) (.vec 11 0) bF,dH (.sl 5 (n+1) c')],[⟨11,0,176,11,1,kR [40,41,86] 1 1 v⟩]⟩:=by
 have h1:=vA s sup 0 ⟨by decide,by decide⟩ hs n c vs rest hn hr hc fE m;have h2:=fun m' =>vD m'
 have h3:=fun m' =>xK sup [40,41,86] m'
 refine br fO Tryz.func153 ?_
 ·simp only[go_sem];refine ai (h1.mono ?_);clear h1;rintro r H' m1 aR ⟨l1,c',bF,rz,vb,u9,rfl,rfl⟩;have h4:=fun m' =>yg vs (n * 7) hn 1 (cN s) sup (.slice none 0 0) bF [40,41,86] 1 1 2 (by decide) [.int .i64 6,.int .i64 0,.int .i64 0,.int .i64 0,.slice none 0 0,.slice none 0 0,.string (bs []),.string (bs []),.string (bs []),.string (bs []),.int .i64 64,.int .i64 0,.int .i64 0,.int .i64 0,.slice none 0 0,.slice none 0 0,.string (bs sup),.string (bs bJ),.string (bs [40,41,86]),.string (bs [])] m'
  simp only[go_sem,mY];refine ai ((h2 m1).mono ?_);clear h2;rintro r H' m2 aK ⟨rfl,rfl,rfl⟩;simp only[go_sem,cF,List.map_nil];refine ai ((h3 _).mono ?_);clear h3;rintro r H' m3 cA ⟨rfl,rfl,rfl⟩;simp only[go_sem,cF,List.map_nil];refine ai ((h4 _).mono ?_);clear h4;rintro r H' m4 gW ⟨l4,rfl,v,rfl⟩;simp only[go_sem];exact⟨aa l1 l4,c',bF,v,rz,vb,u9,rfl⟩
def eK (fl:Int) (nm sup:Nm) (fs ms:Value):List Value:=[.int .i64 fl,.string (bs nm),.string (bs sup),.slice none 0 0,fs,ms,.string (bs [])]
theorem W5 {V:Vl} {k j u:Nat} {pre rest:List Value} {fl:Int} {nm sup:Nm} {fs:Value} {h:SV} {v:Value} (e:(V.γ j u).val=v):
  ([eP k pre fl nm sup fs (.vec j u) rest,dH h]:List Bx).map (lO V)=([eP k pre fl nm sup fs (.v v) rest,dH h]:List Bx).map (lO V):=by
 have e2:aJ V (.vec j u)=aJ V (.v v):=e;simp only[aG,List.map_nil,lO,List.map_append,e2]
theorem vM (k:Nat) (pre rest:List Value) (fl:Int) (nm sup:Nm) (fs ms:Value):eP k pre fl nm sup fs (.v ms) rest=⟨k,107,(pre++eK fl nm sup fs ms).map .v++rest.map .v⟩:=by
 simp only[eK,List.map_append,aG,List.map_nil,List.append_assoc,fv,List.nil_append]
theorem Qr (s sup:Nm) (hs:s.length<=1000) (n c:Nat) (vs rest:List Value) (hn:vs.length=n * 7) (hr:rest.length=(c - n) * 7) (hc:n<=c/\c<=maxLen) (fE:n<=1000) (m:Mem):
  FnH Tryz.prog 153 [.box 0 0,.v (.string (bs s)),.v (.string (bs sup))] ⟨[dH (.sl 1 n c),⟨1,107,vs.map .v++rest.map .v⟩],[]⟩ m
   fun r H' m' =>af m m' /\∃(c' :Nat) (bF:List Value) (v:Value) (a:Option Addr) (ca:Nat),n+1<=c' /\c' <=maxLen/\bF.length=(c' - (n+1)) * 7/\r= .box 5 (n * 7)/\1<=ca/\aw m' a 1 11 (kR [40,41,86] 1 1 v)/\
    H' =⟨[⟨5,107,(vs++eK 1 (cN s) sup (.slice none 0 0) (.slice a 1 ca)).map .v++bF.map .v⟩,dH (.sl 5 (n+1) c')],[]⟩:=by
 refine TK (Im s sup hs n c vs rest hn hr hc fE m) ?_;rintro r H' m' hm ⟨l,c',bF,v,h1,h2,h3,rfl,rfl⟩;refine⟨fun _=> .box 5 (n * 7),fun z=>[eP 5 vs 1 (cN s) sup (.slice none 0 0) z bF,dH (.sl 5 (n+1) c')],11,0,_,[],rfl,rfl,rfl,fun V v e=>⟨rfl,W5 e⟩,List.nil_sublist _,fun a ca m1 q1 q2 q3=>⟨aa l (.inr q1),c',bF,v,a,ca,h1,h2,h3,rfl,q2,q3,?_⟩⟩;rw[<- vM]
theorem v7 {α:Type} {R:α->List Value->Prop} {sz:Nat} {l2:List α} {ys:List Value} (h2:dZ R sz l2 ys):∀{l:List α} {xs:List Value},xs.length=l.length * sz->dZ R sz l xs->dZ R sz (l++l2) (xs++ys)
 |[],xs,hl,_=>by
  have:xs=[]:=List.eq_nil_of_length_eq_zero (by simpa using hl);subst this;exact h2
 |y::r,xs,hl,h=>by
  simp only[dZ,fv] at h ⊢;rw[dk,Nat.succ_mul] at hl;have h8:sz<=xs.length:=by omega
  rw[List.take_append_of_le_length h8,List.drop_append_of_le_length h8];exact⟨h.1,v7 h2 (by rw[gI];omega) h.2⟩
def BO (z:Nat) (x:Mb) (cs:List Value):Prop:=∃t,cs= .int .i64 x.fl:: .string (bs x.name):: .string (bs x.desc)::t/\t.length=z/\(t.all fun v=>v.oneCell')=true
def sA (m:Mem) (u:Cm) (cs:List Value):Prop:=∃(fa ma:Option Addr) (fc mc:Nat) (xf xm:List Value),cs=eK u.fl u.name u.super (.slice fa u.fields.length fc) (.slice ma u.methods.length mc)/\(u.fields.length<=fc/\u.methods.length<=mc)/\
 (aw m fa u.fields.length 6 xf/\dZ (BO 3) 6 u.fields xf)/\aw m ma u.methods.length 11 xm/\dZ (BO 8) 11 u.methods xm
theorem tK {m m' :Mem} (hle:af m m') {u:Cm} {cs:List Value} (h:sA m u cs):sA m' u cs:=by
 obtain⟨fa,ma,fc,mc,xf,xm,h1,h2,⟨h3,h4⟩,h5,h6⟩:=h;exact⟨fa,ma,fc,mc,xf,xm,h1,h2,⟨aN hle h3,h4⟩,aN hle h5,h6⟩
structure Bld (m:Mem) (us:List Cm) (c:Nat) (vs rest:List Value):Prop where
 rep:dZ (sA m) 7 us vs
 vl:vs.length=us.length * 7
 rl:rest.length=(c - us.length) * 7
 le:us.length<=c
 cm:c<=maxLen
theorem Bld.up {m m' :Mem} {us:List Cm} {c:Nat} {vs rest:List Value} (h:Bld m us c vs rest) (hle:af m m'):Bld m' us c vs rest:=
 ⟨jf (fun _ _=>tK hle) h.rep,h.vl,h.rl,h.le,h.cm⟩
@[reducible] def iQ (k n c:Nat) (vs rest:List Value):Hp:=⟨[⟨k,107,vs.map .v++rest.map .v⟩,dH (.sl k n c)],[]⟩
attribute [go_sem] iQ
def vN:Nm:=[40,41,86]
theorem Qt (s sup:Nm) (hs:s.length<=1000) (us:List Cm) (hu:us.length<=1000) (c:Nat) (vs rest:List Value) (m:Mem) (hb:Bld m us c vs rest):
  FnH Tryz.prog 153 [.box 0 0,.v (.string (bs s)),.v (.string (bs sup))] (iQ 1 us.length c vs rest) m
   fun r H' m' =>af m m' /\∃(c' :Nat) (iI bF:List Value),Bld m' (us++[⟨1,cN s,sup,[],[⟨1,bJ,vN⟩]⟩]) c' iI bF/\r= .box 5 (us.length * 7)/\H' =iQ 5 (us.length+1) c' iI bF:=by
 refine tL ((Qr s sup hs us.length c vs rest hb.vl hb.rl ⟨hb.le,hb.cm⟩ hu m).mono ?_) (List.Perm.swap _ _ _);rintro r H' m' hm ⟨l,c',bF,v,a,ca,h1,h2,h3,rfl,h4,h5,rfl⟩;refine⟨l,c',_,bF,⟨v7 (l2:=[(⟨1,cN s,sup,[],[⟨1,bJ,vN⟩]⟩:Cm)]) ⟨⟨none,a,0,ca,[],_,rfl,⟨aC _,h4⟩,⟨⟨rfl,fun h=>absurd h (Nat.lt_irrefl 0)⟩,trivial⟩,h5,⟨⟨_,rfl,rfl,by first |rfl |exact jG _ _ _ _ (jx _)⟩,trivial⟩⟩,trivial⟩ hb.vl (jf (fun _ _=>tK l) hb.rep),?_,?_,?_,h2⟩,rfl,rfl⟩
 ·rw[bc,hb.vl,bc];simp only[eK,dk,pU];omega
 ·rw[bc];exact h3
 ·rw[bc];exact h1
theorem PS {P:Program} {f:FuncId} {args:List SV} {H:Hp} {m:Mem} {R R' :SV->Hp->Mem->Prop} (h:FnH P f args H m R) (hi:∀x∈H.bx,x.id≠2) (hv:H.vc=[])
  (hR:∀r H' m',m.le m' ->R r H' m' ->∃(k n c:Nat) (t tb:TypeId) (xs:List Value),r= .tup []/\H' =⟨[⟨k,t,xs.map .v⟩,⟨0,tb,[.sl k n c]⟩],[]⟩/\R' (.tup []) ⟨[⟨2,t,xs.map .v⟩,⟨0,tb,[.sl 2 n c]⟩],[]⟩ m'):FnH P f args H m R' :=by
 intro V w D eg hle hH;refine(h V w D eg hle hH).mono ?_;rintro e w' ⟨r,V',D',H',m',e1,e2,e3,e4,e5,e6,e7,e8,e9,cn,cu⟩;obtain⟨k,n,c,t,tb,xs,rfl,rfl,hK⟩:=hR r H' m' e9 cu;have h0:(dV V' 2 (V'.β k)).β 0=V'.β 0:=nP (by decide);have h2:(dV V' 2 (V'.β k)).β 2=V'.β k:=by
  show(if(2:Nat)=2 then V'.β k else V'.β 2)=_;rw[ak rfl]
 have eA:aE (dV V' 2 (V'.β k)) ⟨[⟨2,t,xs.map .v⟩,⟨0,tb,[.sl 2 n c]⟩],[]⟩=aE V' ⟨[⟨k,t,xs.map .v⟩,⟨0,tb,[.sl k n c]⟩],[]⟩:=by
  simp [aE]
 refine⟨.tup [],dV V' 2 (V'.β k),D',⟨[⟨2,t,xs.map .v⟩,⟨0,tb,[.sl 2 n c]⟩],[]⟩,m',e1,e2,⟨fun x hx=> ?_,fun x hx=>(by cases hx),by rw[eA];exact e3.apart,by simp⟩,fun x hx=> ?_,fun x hx=>(by rw[hv] at hx;cases hx),e6,fun x hx=>e7 x (by rw[<- eA];exact hx),e8,e9,cn,hK⟩
 ·rcases List.mem_cons.1 hx with rfl |hx
  ·obtain⟨⟨o,q1,q2⟩,q3⟩:=e3.bx ⟨k,t,xs.map .v⟩ (bN ..);refine⟨⟨o,?_,?_⟩,?_⟩
   ·show w'.heap[(dV V' 2 (V'.β k)).β 2]? =_;rw[h2];exact q1
   ·rw[lI] at q2 ⊢;exact q2
   ·show D' ((dV V' 2 (V'.β k)).β 2)=0;rw[h2];exact q3
  ·rw[List.mem_singleton.1 hx];obtain⟨⟨o,q1,q2⟩,q3⟩:=e3.bx ⟨0,tb,[.sl k n c]⟩ (bw _ (List.mem_singleton.2 rfl));refine⟨⟨o,?_,?_⟩,?_⟩
   ·show w'.heap[(dV V' 2 (V'.β k)).β 0]? =_;rw[h0];exact q1
   ·show gP tb [Value.slice (some ⟨(dV V' 2 (V'.β k)).β 2,0,none⟩) n c] o;rw[h2];exact q2
   ·show D' ((dV V' 2 (V'.β k)).β 0)=0;rw[h0];exact q3
 ·rw[nP (hi x hx)];exact e4 x hx
theorem aaK:aM Tryz.prog 178=6:=by kernel_rfl
theorem abI:iP Tryz.prog 178=72:=by kernel_rfl
theorem aag:cH Tryz.prog 178=some (some 6):=by kernel_rfl
theorem abr:eo Tryz.prog 104=some 178:=by kernel_rfl
theorem Yo:cH Tryz.prog 104=some none:=by kernel_rfl
theorem YI:aM Tryz.prog 104=1:=by kernel_rfl
theorem ZW:fV Tryz.prog 178=true:=by kernel_rfl
theorem Wi:cY Tryz.prog 178=some [.v (.int .i64 0),.v (.string (bs [])),.v (.string (bs [])),.v (.int .i64 0),.v (.int .i64 0),.v (.string (bs []))]:=by kernel_rfl
theorem XK:bf Tryz.prog 178 0=some (0,none,1):=by kernel_rfl
theorem XJ:bf Tryz.prog 178 1=some (1,none,1):=by kernel_rfl
theorem XI:bf Tryz.prog 178 2=some (2,none,1):=by kernel_rfl
attribute [go_sem] aaK abI aag abr Yo YI ZW Wi XK XJ XI
def Le:List Value:=[.int .i64 1,.string (bs [114,101,102,101,114,101,110,116]),.string (bs [76,108,97,110,103,47,79,98,106,101,99,116,59]),.int .i64 0,.int .i64 0,.string (bs []),.int .i64 1,.string (bs [99,108,101,97,114,101,100]),.string (bs [73]),.int .i64 0,.int .i64 0,.string (bs [])]
def mX:Nm:=[40,76,108,97,110,103,47,79,98,106,101,99,116,59,41,86]
theorem E1 {m m' :Mem} {us:List Cm} {c:Nat} {vs rest:List Value} (h:Bld m us c vs rest) (hle:af m m') (fl:Int) (nm sup d:Nm) (st lo:Int) (v:Value) (c' :Nat) (bF:List Value) (h1:us.length+1<=c') (h2:c' <=maxLen) (h3:bF.length=(c' - (us.length+1)) * 7) {a:Option Addr} {ca:Nat} (ha:1<=ca) (hr:aw m' a 1 11 (kR d st lo v)):
  Bld m' (us++[⟨fl,nm,sup,[],[⟨1,bJ,d⟩]⟩]) c' (vs++eK fl nm sup (.slice none 0 0) (.slice a 1 ca)) bF:=by
 refine⟨v7 (l2:=[(⟨fl,nm,sup,[],[⟨1,bJ,d⟩]⟩:Cm)]) ⟨⟨none,a,0,ca,[],_,rfl,⟨aC _,ha⟩,⟨⟨rfl,fun h=>absurd h (Nat.lt_irrefl 0)⟩,trivial⟩,hr,⟨⟨_,rfl,rfl,by first |rfl |exact jG _ _ _ _ (jx _)⟩,trivial⟩⟩,trivial⟩ h.vl (jf (fun _ _=>tK hle) h.rep),?_,?_,?_,h2⟩
 ·rw[bc,h.vl,bc];simp only[eK,dk,pU];omega
 ·rw[bc];exact h3
 ·rw[bc];exact h1
def jj:Nm:=[108,97,110,103,47,82,101,102,101,114,101,110,99,101]
def FG:Cm:=⟨1025,cN [82,101,102,101,114,101,110,99,101],aY,[⟨1,[114,101,102,101,114,101,110,116],[76,108,97,110,103,47,79,98,106,101,99,116,59]⟩,⟨1,[99,108,101,97,114,101,100],[73]⟩],[⟨1,bJ,mX⟩]⟩
def ub:List Cm:=df.drop 17
theorem RU (us:List Cm) (hu:us.length<=900) (c:Nat) (vs rest:List Value) (m:Mem) (hb:Bld m us c vs rest):
  FnH Tryz.prog 154 [.box 0 0] (iQ 1 us.length c vs rest) m
   fun r H' m' =>af m m' /\r= .tup []/\∃(c' :Nat) (iI bF:List Value),Bld m' (us++ub) c' iI bF/\H' =iQ 2 (us.length+4) c' iI bF:=by
 have h1:FnH Tryz.prog 150 [.box 0 0,.v (.string (bs [82,101,102,101,114,101,110,99,101])),.v (.string (bs aY)),.v (.int .i64 1024)] (iQ 1 us.length c vs rest) m _:=
  tL (vA [82,101,102,101,114,101,110,99,101] aY 1024 ⟨by decide,by decide⟩ (by decide) us.length c vs rest hb.vl hb.rl ⟨hb.le,hb.cm⟩ (by omega) m) (List.Perm.swap _ _ _)
 refine PS (R:=fun r H' m' =>af m m' /\r= .tup []/\∃(c' k:Nat) (iI bF:List Value),Bld m' (us++ub) c' iI bF/\H' =iQ k (us.length+4) c' iI bF) (Fe Tryz.func154 rfl rfl (aZ rfl) ?_ ?_) (fun x hx=> ?_) rfl ?_
 ·simp only[go_sem]
 ·refine mM (fun _:Unit=>⟨[⟨0,[],.box 0 0⟩,⟨2,[],.box 2 0⟩],[],[⟨1,107,vs.map .v++rest.map .v⟩,dH (.sl 1 us.length c),⟨2,168,cF 6 1 [[],[],[]]⟩],[],20,m⟩) (fun _=>True) (fun _ _=>aZ rfl) (fun _ _=> .inl rfl) (fun _=> ?_) (gl aq (by kernel_rfl) ?_) fun _ _=> ?_
  ·simp only[go_sem,cF]
  ·simp only[go_sem,cF];exact⟨(),trivial⟩
  ·refine mM (fun y:Nat×List Value×Mem=>⟨[⟨0,[],.box 0 0⟩,⟨2,[],.box 2 0⟩,⟨3,[],.box 23 (us.length * 7)⟩],[],[eP 23 vs 1025 (cN [82,101,102,101,114,101,110,99,101]) aY (.slice none 0 0) (.v (.slice none 0 0)) y.2.1,dH (.sl 23 (us.length+1) y.1),⟨2,168,cF 6 1 [[],[],[]]⟩],[],40,y.2.2⟩)
    (fun y=>af m y.2.2/\us.length+1<=y.1/\y.1<=maxLen/\y.2.1.length=(y.1 - (us.length+1)) * 7) (fun _ _=>aZ rfl) (fun y hy=>hy.1) (fun _=> ?_) (gl aq (by kernel_rfl) ?_) ?_
   ·simp only[go_sem,cF]
   ·simp only[go_sem,cF];refine ai (h1.mono ?_);clear h1;rintro r H' m1 aR ⟨l1,c',bF,g1,g2,g3,rfl,rfl⟩;simp only[go_sem,mY,cN];exact⟨(c',bF,m1),⟨⟨rfl,rfl⟩,.inl rfl⟩,l1,g1,g2,g3⟩
   ·clear h1;rintro⟨c',bF,m1⟩ ⟨l1,g1,g2,g3⟩;dsimp only at l1 g1 g2 g3;refine vV 23 (fun y:Option Addr×Nat×Mem=>⟨[⟨0,[],.box 0 0⟩,⟨2,[],.box 2 0⟩,⟨3,[],.box 23 (us.length * 7)⟩],[],[eP 23 vs 1025 (cN [82,101,102,101,114,101,110,99,101]) aY (.slice y.1 2 y.2.1) (.v (.slice none 0 0)) bF,dH (.sl 23 (us.length+1) c'),⟨2,168,cF 6 1 [[],[],[]]⟩],[],60,y.2.2⟩)
     (fun y=>af m1 y.2.2/\2<=y.2.1/\aw y.2.2 y.1 2 6 Le) (fun _ _=>aZ rfl) (fun y hy=>hy.1) (fun _=> ?_) (gl aq (by kernel_rfl) ?_) ?_
    ·simp only[go_sem,cF]
    ·simp only[go_sem,cF,tW hb.vl,tS hb.vl,oM,mF,oN];have hlen:us.length * 7+4+1<=(vs.map SV.v++SV.v (.int .i64 1025)::SV.v (.string (bs (cN [82,101,102,101,114,101,110,99,101])))::SV.v (.string (bs aY))::SV.v (.slice none 0 0)::SV.v (.slice none 0 0)::SV.v (.slice none 0 0)::SV.v (.string (bs []))::bF.map SV.v).length:=by
      rw[bc,List.length_map,hb.vl];simp only[dk];omega
     exact⟨hlen,fun a cc m2 w1 w2 w3=>⟨(a,cc,m2),⟨rfl,.inl rfl⟩,.inr w1,w2,w3⟩⟩
    ·rintro⟨fa,fc,m2⟩ ⟨l2,g4,g5⟩;dsimp only at l2 g4 g5;refine vV 23 (fun y:Option Addr×Nat×Value×Mem=>⟨[⟨0,[],.box 0 0⟩,⟨2,[],.box 2 0⟩],[],[eP 23 vs 1025 (cN [82,101,102,101,114,101,110,99,101]) aY (.slice fa 2 fc) (.v (.slice y.1 1 y.2.1)) bF,dH (.sl 23 (us.length+1) c'),⟨2,168,cF 6 1 [[],[],[]]⟩],[],100,y.2.2.2⟩)
      (fun y=>af m2 y.2.2.2/\1<=y.2.1/\aw y.2.2.2 y.1 1 11 (kR mX 2 2 y.2.2.1)) (fun _ _=>aZ rfl) (fun y hy=>hy.1) (fun _=> ?_) ?_ ?_
     ·simp only[go_sem,cF]
     ·refine bZ (.hoist 0 (.hoist 4 (.hoist 5 (.hoist 6 (.alt 1 [6,5,4,0] (.alt 2 [6,5,4,0] (.alt 3 [6,5,4,0] (.alt 7 [0] (.alt 8 [] .done .stop) .stop) .stop) .stop) .stop))))) fO (by kernel_rfl) (by kernel_rfl) ?_;simp only[go_sem,cF,List.map_nil];refine ai ((vD _).mono ?_);rintro r H' m4 gW ⟨rfl,rfl,rfl⟩;simp only[go_sem,cF,List.map_nil];refine ai ((xK aY [40,41,86] _).mono ?_);rintro r H' m5 mq ⟨rfl,rfl,rfl⟩;simp only[go_sem,cF,List.map_nil];refine ai ((vD _).mono ?_);rintro r H' m6 pM ⟨rfl,rfl,rfl⟩;simp only[go_sem,cF,List.map_nil];refine ai ((yg vs _ hb.vl 1025 _ aY (.slice fa 2 fc) bF mX 2 2 5 (by decide) _ _).mono ?_);rintro r H' m7 mi ⟨l7,rfl,v,rfl⟩;simp only[go_sem,cF,List.map_nil,oM,mF,oN];exact fun a cc m8 w1 w2 w3=>⟨(a,cc,v,m8),⟨rfl,.inl rfl⟩,aa l7 (.inr w1),w2,w3⟩
     ·rintro⟨ma,mc,vv,m3⟩ ⟨l3,g6,g7⟩;dsimp only at l3 g6 g7;have dB:Bld m3 (us++[FG]) c' (vs++eK 1025 (cN [82,101,102,101,114,101,110,99,101]) aY (.slice fa 2 fc) (.slice ma 1 mc)) bF:=by
       refine⟨v7 (l2:=[FG]) ⟨⟨fa,ma,fc,mc,Le,_,rfl,⟨g4,g6⟩,⟨aN l3 g5,⟨_,rfl,rfl,by first |rfl |exact jG _ _ _ _ (jx _)⟩,⟨_,rfl,rfl,by first |rfl |exact jG _ _ _ _ (jx _)⟩,trivial⟩,g7,⟨_,rfl,rfl,by first |rfl |exact jG _ _ _ _ (jx _)⟩,trivial⟩,trivial⟩ hb.vl (jf (fun _ _=>tK (aa l1 (aa l2 l3))) hb.rep),?_,?_,?_,g2⟩
       ·rw[bc,hb.vl,bc];simp only[eK,dk,pU];omega
       ·rw[bc];exact g3
       ·rw[bc];exact g1
      rw[vM];have h3:af m m3:=aa l1 (aa l2 l3);have hul:(us++[FG]).length=us.length+1:=by rw[bc];rfl
      clear g1 g2 g3 g4 g5 g6 g7 l1 l2 l3;revert dB;generalize vs++eK 1025 (cN [82,101,102,101,114,101,110,99,101]) aY (.slice fa 2 fc) (.slice ma 1 mc)=ws
      intro dB;refine gl fO (by kernel_rfl) ?_;simp only[go_sem,cF,List.map_nil];refine TE fO (fun K st=>∃k,wm k K st) (fun _ _ _ _ _ hE h=>h.elim fun _ h=>Hj hE h)
       (fun x:Nat×Nat×Nat×List Value×List Value×Mem=>⟨[⟨24,[],.vec 100 0⟩,⟨25,[],.v (.int .i64 3)⟩,⟨26,[],.v (.int .i64 x.1)⟩,⟨0,[],.box 0 0⟩,⟨2,[],.box 2 0⟩],[],[⟨x.2.1,107,x.2.2.2.1.map .v++x.2.2.2.2.1.map .v⟩,dH (.sl x.2.1 (us.length+1+x.1) x.2.2.1),⟨2,168,cF 6 1 [[],[],[]]⟩],
        [⟨100,0,9,1,3,[.string (bs [83,111,102,116,82,101,102,101,114,101,110,99,101]),.string (bs [87,101,97,107,82,101,102,101,114,101,110,99,101]),.string (bs [80,104,97,110,116,111,109,82,101,102,101,114,101,110,99,101])]⟩],x.2.1+200,x.2.2.2.2.2⟩)
       (fun x=>af m3 x.2.2.2.2.2/\x.1<=3/\(x.2.1=23\/200<=x.2.1)/\Bld x.2.2.2.2.2 (us++ub.take (1+x.1)) x.2.2.1 x.2.2.2.1 x.2.2.2.2.1) (fun x=>3 - x.1) (by kernel_rfl) (fun x hx=> ?_) (fun x hx=>hx.1) (fun x=> ?_) ?_ ?_
      ·show 101<=x.2.1+200;omega
      ·simp only[go_sem,cF,List.map_nil];omega
      ·refine⟨23,?_⟩;simp only[go_sem,cF,List.map_nil,oM,mF,oN];refine⟨(0,23,c',ws,bF,m3),?_,.inl rfl,aF _,.inl rfl,dB⟩;simp [fR]
      ·rintro⟨i,k,cc,ys,rs,mm⟩ ⟨q1,q2,q3,q4⟩;dsimp only at q1 q2 q3 q4;have e0:(k=0)=False:=eq_false (by omega);have e1:(0=k)=False:=eq_false (by omega);have e2:(k=2)=False:=eq_false (by omega);have e3:(2=k)=False:=eq_false (by omega);have e4:(k=100)=False:=eq_false (by omega);have e5:(100=k)=False:=eq_false (by omega);have e6:(k=1)=False:=eq_false (by omega);have e7:(1=k)=False:=eq_false (by omega);have b0:(k==0)=false:=beq_eq_false_iff_ne.2 (by omega);have d0:(0==k)=false:=beq_eq_false_iff_ne.2 (by omega);have b1:(k==1)=false:=beq_eq_false_iff_ne.2 (by omega);have d1:(1==k)=false:=beq_eq_false_iff_ne.2 (by omega);have b2:(k==2)=false:=beq_eq_false_iff_ne.2 (by omega);have d2:(2==k)=false:=beq_eq_false_iff_ne.2 (by omega);have fC:(k==100)=false:=beq_eq_false_iff_ne.2 (by omega);have d100:(100==k)=false:=beq_eq_false_iff_ne.2 (by omega);have f1:(k+200+4==k+200+3)=false:=beq_eq_false_iff_ne.2 (by omega);have f2:(k+200+3==k+200+4)=false:=beq_eq_false_iff_ne.2 (by omega);have f3:(k+200+4=k+200+3)=False:=eq_false (by omega);have f4:(k+200+3=k+200+4)=False:=eq_false (by omega);have p1:(0==k+200+3)=false:=beq_eq_false_iff_ne.2 (by omega);have z1:(0=k+200+3)=False:=eq_false (by omega);have p2:(k+200+3==0)=false:=beq_eq_false_iff_ne.2 (by omega);have z2:(k+200+3=0)=False:=eq_false (by omega);have p3:(0==k+204)=false:=beq_eq_false_iff_ne.2 (by omega);have z3:(0=k+204)=False:=eq_false (by omega);have p4:(k+204==0)=false:=beq_eq_false_iff_ne.2 (by omega);have z4:(k+204=0)=False:=eq_false (by omega)
       have p5:(1==k+200+3)=false:=beq_eq_false_iff_ne.2 (by omega);have z5:(1=k+200+3)=False:=eq_false (by omega);have p6:(k+200+3==1)=false:=beq_eq_false_iff_ne.2 (by omega);have z6:(k+200+3=1)=False:=eq_false (by omega);have p7:(1==k+204)=false:=beq_eq_false_iff_ne.2 (by omega);have z7:(1=k+204)=False:=eq_false (by omega);have p8:(k+204==1)=false:=beq_eq_false_iff_ne.2 (by omega);have z8:(k+204=1)=False:=eq_false (by omega);have p9:(2==k+200+3)=false:=beq_eq_false_iff_ne.2 (by omega);have z9:(2=k+200+3)=False:=eq_false (by omega);have kh:(k+200+3==2)=false:=beq_eq_false_iff_ne.2 (by omega);have nk:(k+200+3=2)=False:=eq_false (by omega);have jK:(2==k+204)=false:=beq_eq_false_iff_ne.2 (by omega);have nj:(2=k+204)=False:=eq_false (by omega);have ns:(k+204==2)=false:=beq_eq_false_iff_ne.2 (by omega);have z12:(k+204=2)=False:=eq_false (by omega);have nr:(100==k+200+3)=false:=beq_eq_false_iff_ne.2 (by omega);have ni:(100=k+200+3)=False:=eq_false (by omega);have nq:(k+200+3==100)=false:=beq_eq_false_iff_ne.2 (by omega);have nh:(k+200+3=100)=False:=eq_false (by omega);have np:(100==k+204)=false:=beq_eq_false_iff_ne.2 (by omega);have ng:(100=k+204)=False:=eq_false (by omega);have nl:(k+204==100)=false:=beq_eq_false_iff_ne.2 (by omega);have nc:(k+204=100)=False:=eq_false (by omega);have nF:(k+204==k+200+3)=false:=beq_eq_false_iff_ne.2 (by omega);have nE:(k+200+3==k+204)=false:=beq_eq_false_iff_ne.2 (by omega);have nD:(k+204=k+200+3)=False:=eq_false (by omega);have nC:(k+200+3=k+204)=False:=eq_false (by omega)
       have e8:100<k+200:=by omega
       have e9:0<k+200:=by omega
       have cn:2<k+200:=by omega
       have cu:k<k+200:=by omega
       have gg:ys.length=(us.length+1+i) * 7:=by
        rw[q4.vl,bc,List.length_take,show ub.length=4 from rfl];congr 1
        omega
       have Gs:rs.length=(cc - (us.length+1+i)) * 7:=by
        rw[q4.rl,bc,List.length_take,show ub.length=4 from rfl];congr 2
        omega
       have hle:us.length+1+i<=cc:=by
        have:=q4.le;rw[bc,List.length_take,show ub.length=4 from rfl] at this;omega
       have kQ:=q4.cm;have fj:i=0\/i=1\/i=2\/i=3:=by omega
       rcases fj with rfl |rfl |rfl |rfl
       ·have h1:FnH Tryz.prog 150 [.box 0 0,.v (.string (bs [83,111,102,116,82,101,102,101,114,101,110,99,101])),.v (.string (bs jj)),.v (.int .i64 0)] (iQ 1 (us.length+1+0) cc ys rs) mm _:=
         tL (vA [83,111,102,116,82,101,102,101,114,101,110,99,101] jj 0 ⟨by decide,by decide⟩ (by decide) (us.length+1+0) cc ys rs gg Gs ⟨hle,kQ⟩ (by omega) mm) (List.Perm.swap _ _ _)
        have tf:(((0:Nat):Int)<3)=True:=eq_true (by decide);simp only[go_sem,cF,List.map_nil,e0,e1,e2,e3,e4,e5,e6,e7,b0,d0,b1,d1,b2,d2,fC,d100,e8,e9,cn,cu,tf,not_true_eq_false,false_implies,true_implies,and_true,true_and];refine⟨by omega,?_⟩;refine bZ (.hoist 0 (.hoist 1 (.hoist 4 (.alt 2 [4] (.alt 3 [4] (.alt 5 [4] (.alt 6 [] (.alt 7 [] .done .stop) .stop) .stop) .stop) .stop)))) fO (by kernel_rfl) (by kernel_rfl) ?_;simp only[go_sem,cF,List.map_nil,e0,e1,e2,e3,e4,e5,e6,e7,b0,d0,b1,d1,b2,d2,fC,d100,e8,e9,cn,cu];refine ai (h1.mono ?_);clear h1;rintro r H' m4 gW ⟨l4,c4,r4,g1,g2,g3,rfl,rfl⟩;simp only[go_sem,mY,cF,List.map_nil,e0,e1,e2,e3,e4,e5,e6,e7,b0,d0,b1,d1,b2,d2,fC,d100,e8,e9,cn,cu];refine⟨⟨by omega,by omega⟩,by omega,l4,by kernel_rfl,bD ((vD _).mono ?_)⟩;rintro r H' m5 mq ⟨rfl,rfl,rfl⟩;simp only[go_sem,cF,List.map_nil,e0,e1,e2,e3,e4,e5,e6,e7,b0,d0,b1,d1,b2,d2,fC,d100,e8,e9,cn,cu];refine⟨l4,by kernel_rfl,bD ((xK jj mX _).mono ?_)⟩;rintro r H' m6 pM ⟨rfl,rfl,rfl⟩;simp only[go_sem,cF,List.map_nil,e0,e1,e2,e3,e4,e5,e6,e7,b0,d0,b1,d1,b2,d2,fC,d100,e8,e9,cn,cu,f1,f2,f3,f4,Nat.add_zero,nF,nE,nD,nC,p1,z1,p2,z2,p3,z3,p4,z4,p5,z5,p6,z6,p7,z7,p8,z8,p9,z9,kh,nk,jK,nj,ns,z12,nr,ni,nq,nh,np,ng,nl,nc];refine⟨l4,by omega,by kernel_rfl,⟨by omega,by omega⟩,bD ((yg ys _ gg 1 _ jj (.slice none 0 0) r4 mX 2 2 3 (by decide) _ _).mono ?_)⟩;rintro r H' m7 mi ⟨l7,rfl,v,rfl⟩;simp only[go_sem,cF,List.map_nil,e0,e1,e2,e3,e4,e5,e6,e7,b0,d0,b1,d1,b2,d2,fC,d100,e8,e9,cn,cu,f1,f2,f3,f4,Nat.add_zero,nF,nE,nD,nC,p1,z1,p2,z2,p3,z3,p4,z4,p5,z5,p6,z6,p7,z7,p8,z8,p9,z9,kh,nk,jK,nj,ns,z12,nr,ni,nq,nh,np,ng,nl,nc]
        refine⟨⟨by omega,by simp⟩,by unfold az;omega,k+200+3,?_⟩;simp only[go_sem,cF,List.map_nil,e0,e1,e2,e3,e4,e5,e6,e7,b0,d0,b1,d1,b2,d2,fC,d100,e8,e9,cn,cu,f1,f2,f3,f4,Nat.add_zero,nF,nE,nD,nC,p1,z1,p2,z2,p3,z3,p4,z4,p5,z5,p6,z6,p7,z7,p8,z8,p9,z9,kh,nk,jK,nj,ns,z12,nr,ni,nq,nh,np,ng,nl,nc,oM,mF,oN];intro a ca m8 w1 w2 w3;have sL:=aa l4 (aa l7 (.inr w1));refine⟨(1,k+200+3,c4,ys++eK 1 (cN [83,111,102,116,82,101,102,101,114,101,110,99,101]) jj (.slice none 0 0) (.slice a 1 ca),r4,m8),?_,⟨aa q1 sL,(show(1:Nat)<=3 by decide),.inr (show 200<=k+200+3 by omega),?_⟩,(show 3 - 1<3 - 0 by decide)⟩
        ·simp only[go_sem,cF,List.map_nil,e0,e1,e2,e3,e4,e5,e6,e7,b0,d0,b1,d1,b2,d2,fC,d100,e8,e9,cn,cu,f1,f2,f3,f4,Nat.add_zero,nF,nE,nD,nC,p1,z1,p2,z2,p3,z3,p4,z4,p5,z5,p6,z6,p7,z7,p8,z8,p9,z9,kh,nk,jK,nj,ns,z12,nr,ni,nq,nh,np,ng,nl,nc,eK,cN,fR];exact rfl
        ·have:=E1 q4 sL 1 (cN [83,111,102,116,82,101,102,101,114,101,110,99,101]) jj mX 2 2 v c4 r4 (by rw[bc,List.length_take];show us.length+1+1<=c4;exact g1) g2 (by rw[bc,List.length_take];exact g3) w2 w3;rw[List.append_assoc] at this;exact this
       ·have h1:FnH Tryz.prog 150 [.box 0 0,.v (.string (bs [87,101,97,107,82,101,102,101,114,101,110,99,101])),.v (.string (bs jj)),.v (.int .i64 0)] (iQ 1 (us.length+1+1) cc ys rs) mm _:=
         tL (vA [87,101,97,107,82,101,102,101,114,101,110,99,101] jj 0 ⟨by decide,by decide⟩ (by decide) (us.length+1+1) cc ys rs gg Gs ⟨hle,kQ⟩ (by omega) mm) (List.Perm.swap _ _ _)
        have tf:(((1:Nat):Int)<3)=True:=eq_true (by decide);simp only[go_sem,cF,List.map_nil,e0,e1,e2,e3,e4,e5,e6,e7,b0,d0,b1,d1,b2,d2,fC,d100,e8,e9,cn,cu,tf,not_true_eq_false,false_implies,true_implies,and_true,true_and];refine⟨by omega,?_⟩;refine bZ (.hoist 0 (.hoist 1 (.hoist 4 (.alt 2 [4] (.alt 3 [4] (.alt 5 [4] (.alt 6 [] (.alt 7 [] .done .stop) .stop) .stop) .stop) .stop)))) fO (by kernel_rfl) (by kernel_rfl) ?_;simp only[go_sem,cF,List.map_nil,e0,e1,e2,e3,e4,e5,e6,e7,b0,d0,b1,d1,b2,d2,fC,d100,e8,e9,cn,cu];refine ai (h1.mono ?_);clear h1;rintro r H' m4 gW ⟨l4,c4,r4,g1,g2,g3,rfl,rfl⟩;simp only[go_sem,mY,cF,List.map_nil,e0,e1,e2,e3,e4,e5,e6,e7,b0,d0,b1,d1,b2,d2,fC,d100,e8,e9,cn,cu];refine⟨⟨by omega,by omega⟩,by omega,l4,by kernel_rfl,bD ((vD _).mono ?_)⟩;rintro r H' m5 mq ⟨rfl,rfl,rfl⟩;simp only[go_sem,cF,List.map_nil,e0,e1,e2,e3,e4,e5,e6,e7,b0,d0,b1,d1,b2,d2,fC,d100,e8,e9,cn,cu];refine⟨l4,by kernel_rfl,bD ((xK jj mX _).mono ?_)⟩;rintro r H' m6 pM ⟨rfl,rfl,rfl⟩;simp only[go_sem,cF,List.map_nil,e0,e1,e2,e3,e4,e5,e6,e7,b0,d0,b1,d1,b2,d2,fC,d100,e8,e9,cn,cu,f1,f2,f3,f4,Nat.add_zero,nF,nE,nD,nC,p1,z1,p2,z2,p3,z3,p4,z4,p5,z5,p6,z6,p7,z7,p8,z8,p9,z9,kh,nk,jK,nj,ns,z12,nr,ni,nq,nh,np,ng,nl,nc];refine⟨l4,by omega,by kernel_rfl,⟨by omega,by omega⟩,bD ((yg ys _ gg 1 _ jj (.slice none 0 0) r4 mX 2 2 3 (by decide) _ _).mono ?_)⟩;rintro r H' m7 mi ⟨l7,rfl,v,rfl⟩;simp only[go_sem,cF,List.map_nil,e0,e1,e2,e3,e4,e5,e6,e7,b0,d0,b1,d1,b2,d2,fC,d100,e8,e9,cn,cu,f1,f2,f3,f4,Nat.add_zero,nF,nE,nD,nC,p1,z1,p2,z2,p3,z3,p4,z4,p5,z5,p6,z6,p7,z7,p8,z8,p9,z9,kh,nk,jK,nj,ns,z12,nr,ni,nq,nh,np,ng,nl,nc]
        refine⟨⟨by omega,by simp⟩,by unfold az;omega,k+200+3,?_⟩;simp only[go_sem,cF,List.map_nil,e0,e1,e2,e3,e4,e5,e6,e7,b0,d0,b1,d1,b2,d2,fC,d100,e8,e9,cn,cu,f1,f2,f3,f4,Nat.add_zero,nF,nE,nD,nC,p1,z1,p2,z2,p3,z3,p4,z4,p5,z5,p6,z6,p7,z7,p8,z8,p9,z9,kh,nk,jK,nj,ns,z12,nr,ni,nq,nh,np,ng,nl,nc,oM,mF,oN];intro a ca m8 w1 w2 w3;have sL:=aa l4 (aa l7 (.inr w1));refine⟨(2,k+200+3,c4,ys++eK 1 (cN [87,101,97,107,82,101,102,101,114,101,110,99,101]) jj (.slice none 0 0) (.slice a 1 ca),r4,m8),?_,⟨aa q1 sL,(show(2:Nat)<=3 by decide),.inr (show 200<=k+200+3 by omega),?_⟩,(show 3 - 2<3 - 1 by decide)⟩
        ·simp only[go_sem,cF,List.map_nil,e0,e1,e2,e3,e4,e5,e6,e7,b0,d0,b1,d1,b2,d2,fC,d100,e8,e9,cn,cu,f1,f2,f3,f4,Nat.add_zero,nF,nE,nD,nC,p1,z1,p2,z2,p3,z3,p4,z4,p5,z5,p6,z6,p7,z7,p8,z8,p9,z9,kh,nk,jK,nj,ns,z12,nr,ni,nq,nh,np,ng,nl,nc,eK,cN,fR];exact rfl
        ·have:=E1 q4 sL 1 (cN [87,101,97,107,82,101,102,101,114,101,110,99,101]) jj mX 2 2 v c4 r4 (by rw[bc,List.length_take];show us.length+2+1<=c4;exact g1) g2 (by rw[bc,List.length_take];exact g3) w2 w3;rw[List.append_assoc] at this;exact this
       ·have h1:FnH Tryz.prog 150 [.box 0 0,.v (.string (bs [80,104,97,110,116,111,109,82,101,102,101,114,101,110,99,101])),.v (.string (bs jj)),.v (.int .i64 0)] (iQ 1 (us.length+1+2) cc ys rs) mm _:=
         tL (vA [80,104,97,110,116,111,109,82,101,102,101,114,101,110,99,101] jj 0 ⟨by decide,by decide⟩ (by decide) (us.length+1+2) cc ys rs gg Gs ⟨hle,kQ⟩ (by omega) mm) (List.Perm.swap _ _ _)
        have tf:(((2:Nat):Int)<3)=True:=eq_true (by decide);simp only[go_sem,cF,List.map_nil,e0,e1,e2,e3,e4,e5,e6,e7,b0,d0,b1,d1,b2,d2,fC,d100,e8,e9,cn,cu,tf,not_true_eq_false,false_implies,true_implies,and_true,true_and];refine⟨by omega,?_⟩;refine bZ (.hoist 0 (.hoist 1 (.hoist 4 (.alt 2 [4] (.alt 3 [4] (.alt 5 [4] (.alt 6 [] (.alt 7 [] .done .stop) .stop) .stop) .stop) .stop)))) fO (by kernel_rfl) (by kernel_rfl) ?_;simp only[go_sem,cF,List.map_nil,e0,e1,e2,e3,e4,e5,e6,e7,b0,d0,b1,d1,b2,d2,fC,d100,e8,e9,cn,cu];refine ai (h1.mono ?_);clear h1;rintro r H' m4 gW ⟨l4,c4,r4,g1,g2,g3,rfl,rfl⟩;simp only[go_sem,mY,cF,List.map_nil,e0,e1,e2,e3,e4,e5,e6,e7,b0,d0,b1,d1,b2,d2,fC,d100,e8,e9,cn,cu];refine⟨⟨by omega,by omega⟩,by omega,l4,by kernel_rfl,bD ((vD _).mono ?_)⟩;rintro r H' m5 mq ⟨rfl,rfl,rfl⟩;simp only[go_sem,cF,List.map_nil,e0,e1,e2,e3,e4,e5,e6,e7,b0,d0,b1,d1,b2,d2,fC,d100,e8,e9,cn,cu];refine⟨l4,by kernel_rfl,bD ((xK jj mX _).mono ?_)⟩;rintro r H' m6 pM ⟨rfl,rfl,rfl⟩;simp only[go_sem,cF,List.map_nil,e0,e1,e2,e3,e4,e5,e6,e7,b0,d0,b1,d1,b2,d2,fC,d100,e8,e9,cn,cu,f1,f2,f3,f4,Nat.add_zero,nF,nE,nD,nC,p1,z1,p2,z2,p3,z3,p4,z4,p5,z5,p6,z6,p7,z7,p8,z8,p9,z9,kh,nk,jK,nj,ns,z12,nr,ni,nq,nh,np,ng,nl,nc];refine⟨l4,by omega,by kernel_rfl,⟨by omega,by omega⟩,bD ((yg ys _ gg 1 _ jj (.slice none 0 0) r4 mX 2 2 3 (by decide) _ _).mono ?_)⟩;rintro r H' m7 mi ⟨l7,rfl,v,rfl⟩;simp only[go_sem,cF,List.map_nil,e0,e1,e2,e3,e4,e5,e6,e7,b0,d0,b1,d1,b2,d2,fC,d100,e8,e9,cn,cu,f1,f2,f3,f4,Nat.add_zero,nF,nE,nD,nC,p1,z1,p2,z2,p3,z3,p4,z4,p5,z5,p6,z6,p7,z7,p8,z8,p9,z9,kh,nk,jK,nj,ns,z12,nr,ni,nq,nh,np,ng,nl,nc]
        refine⟨⟨by omega,by simp⟩,by unfold az;omega,k+200+3,?_⟩;simp only[go_sem,cF,List.map_nil,e0,e1,e2,e3,e4,e5,e6,e7,b0,d0,b1,d1,b2,d2,fC,d100,e8,e9,cn,cu,f1,f2,f3,f4,Nat.add_zero,nF,nE,nD,nC,p1,z1,p2,z2,p3,z3,p4,z4,p5,z5,p6,z6,p7,z7,p8,z8,p9,z9,kh,nk,jK,nj,ns,z12,nr,ni,nq,nh,np,ng,nl,nc,oM,mF,oN];intro a ca m8 w1 w2 w3;have sL:=aa l4 (aa l7 (.inr w1));refine⟨(3,k+200+3,c4,ys++eK 1 (cN [80,104,97,110,116,111,109,82,101,102,101,114,101,110,99,101]) jj (.slice none 0 0) (.slice a 1 ca),r4,m8),?_,⟨aa q1 sL,(show(3:Nat)<=3 by decide),.inr (show 200<=k+200+3 by omega),?_⟩,(show 3 - 3<3 - 2 by decide)⟩
        ·simp only[go_sem,cF,List.map_nil,e0,e1,e2,e3,e4,e5,e6,e7,b0,d0,b1,d1,b2,d2,fC,d100,e8,e9,cn,cu,f1,f2,f3,f4,Nat.add_zero,nF,nE,nD,nC,p1,z1,p2,z2,p3,z3,p4,z4,p5,z5,p6,z6,p7,z7,p8,z8,p9,z9,kh,nk,jK,nj,ns,z12,nr,ni,nq,nh,np,ng,nl,nc,eK,cN,fR];exact rfl
        ·have:=E1 q4 sL 1 (cN [80,104,97,110,116,111,109,82,101,102,101,114,101,110,99,101]) jj mX 2 2 v c4 r4 (by rw[bc,List.length_take];show us.length+3+1<=c4;exact g1) g2 (by rw[bc,List.length_take];exact g3) w2 w3;rw[List.append_assoc] at this;exact this
       ·have tf:(((3:Nat):Int)<3)=False:=eq_false (by decide);simp only[go_sem,cF,List.map_nil,e0,e1,e2,e3,e4,e5,e6,e7,b0,d0,b1,d1,b2,d2,fC,d100,tf,not_true_eq_false,not_false_eq_true,false_implies,true_implies,and_true,true_and];exact⟨aa h3 q1,cc,k,ys,rs,q4,rfl⟩
 ·simp only[iQ,List.mem_cons,List.not_mem_nil,or_false] at hx;rcases hx with rfl |rfl
  ·exact(by decide:(1:Nat)≠2)
  ·exact(by decide:(0:Nat)≠2)
 ·rintro r H' m' hm ⟨l,rfl,c',k,iI,bF,ls,rfl⟩;refine⟨k,us.length+4,c',107,158,iI++bF,rfl,?_,l,rfl,c',iI,bF,ls,?_⟩
  ·simp only[iQ,List.map_append]
  ·simp only[iQ,List.map_append]
theorem Wo:cY Tryz.prog 158=some [.v (.slice none 0 0)]:=by kernel_rfl
theorem Z2:fV Tryz.prog 158=true:=by kernel_rfl
theorem abL:iP Tryz.prog 158=24:=by kernel_rfl
attribute [go_sem] Wo Z2 abL
def plM (s sup:Nm):Cm:=⟨1,cN s,sup,[],[⟨1,bJ,vN⟩]⟩
theorem lz (s sup:Nm) (hs:s.length<=1000) (us:List Cm) (n:Nat) (hn:us.length=n) (hu:n<=1000) (c:Nat) (vs rest:List Value) (m:Mem) (hb:Bld m us c vs rest):
  FnH Tryz.prog 153 [.box 0 0,.v (.string (bs s)),.v (.string (bs sup))] (iQ 1 n c vs rest) m
   fun r H' m' =>af m m' /\∃(c' :Nat) (iI bF:List Value),Bld m' (us++[plM s sup]) c' iI bF/\r= .box 5 (n * 7)/\H' =iQ 5 (n+1) c' iI bF:=by
 subst hn;exact Qt s sup hs us hu c vs rest m hb
theorem KP (s sup:Nm) (fl:Int) (gX:0<=fl/\fl<=4096) (hs:s.length<=1000) (us:List Cm) (n c:Nat) (vs rest:List Value) (m:Mem) (hb:Bld m us c vs rest) (hn:us.length=n) (fE:n<=1000):
  FnH Tryz.prog 150 [.box 0 0,.v (.string (bs s)),.v (.string (bs sup)),.v (.int .i64 fl)] (iQ 1 n c vs rest) m
   fun r H' m' =>af m m' /\∃(c' :Nat) (bF:List Value),n+1<=c' /\c' <=maxLen/\bF.length=(c' - (n+1)) * 7/\r= .box 3 (n * 7)/\H' =⟨[⟨3,107,(vs++mY (1+fl) ([108,97,110,103,47]++s) sup).map .v++bF.map .v⟩,dH (.sl 3 (n+1) c')],[]⟩:=by
 subst hn;exact tL (vA s sup fl gX hs us.length c vs rest hb.vl hb.rl ⟨hb.le,hb.cm⟩ fE m) (List.Perm.swap _ _ _)
@[reducible] def kSt (k nid n c:Nat) (vs rest:List Value) (m:Mem):LS:=⟨[⟨1,[],.box 0 0⟩],[],[⟨k,107,vs.map .v++rest.map .v⟩,dH (.sl k n c)],[],nid,m⟩
attribute [go_sem] kSt
def WN:List (Nm×Nm):=[([119,97,105,116],vN),([110,111,116,105,102,121],vN),([110,111,116,105,102,121,65,108,108],vN)]
def WS:List (Nm×Nm):=[([108,101,110,103,116,104],[40,41,73]),([97,116],[40,73,41,73])]
def FE (v:Value):List Value:=[.int .i64 1,.string (bs [114,117,110]),.string (bs vN),.bool true,.int .i64 0,.int .i64 1,F9 v,.slice none 0 0,.slice none 0 0,.slice none 0 0,.slice none 0 0]
def SN:List (Nm×Nm):=[([115,116,97,114,116],vN)]
theorem Om (s sup:Nm) (hs:s.length<=1000) (us:List Cm) (n c:Nat) (vs rest:List Value) (m:Mem) (hb:Bld m us c vs rest) (hn:us.length=n) (fE:n<=1000):
  FnH Tryz.prog 153 [.box 0 0,.v (.string (bs s)),.v (.string (bs sup))] (iQ 1 n c vs rest) m
   fun r H' m' =>af m m' /\∃(c' :Nat) (bF:List Value) (v:Value),n+1<=c' /\c' <=maxLen/\bF.length=(c' - (n+1)) * 7/\r= .box 5 (n * 7)/\
    H' =⟨[eP 5 vs 1 (cN s) sup (.slice none 0 0) (.vec 11 0) bF,dH (.sl 5 (n+1) c')],[⟨11,0,176,11,1,kR vN 1 1 v⟩]⟩:=by
 subst hn;exact tL (Im s sup hs us.length c vs rest hb.vl hb.rl ⟨hb.le,hb.cm⟩ fE m) (List.Perm.swap _ _ _)
def CN:List (Nm×Nm):=[([112,114,105,110,116,73,110,116],[40,73,41,86]),([112,114,105,110,116,83,116,114,105,110,103],[40,76,108,97,110,103,47,83,116,114,105,110,103,59,41,86]),([112,114,105,110,116,76,111,110,103],[40,74,41,86])]
theorem T6 (us:List Cm) (n:Nat) (hn:us.length=n) (hu:n<=900) (c:Nat) (vs rest:List Value) (m:Mem) (hb:Bld m us c vs rest):
  FnH Tryz.prog 154 [.box 0 0] (iQ 1 n c vs rest) m
   fun r H' m' =>af m m' /\r= .tup []/\∃(c' :Nat) (iI bF:List Value),Bld m' (us++ub) c' iI bF/\H' =iQ 2 (n+4) c' iI bF:=by
 subst hn;exact RU us hu c vs rest m hb
theorem Bu {m m' :Mem} {us:List Cm} {c0:Nat} {vs L9:List Value} (h:Bld m us c0 vs L9) (hle:af m m') (fl:Int) (nm sup:Nm) (ms:List Mb) (n:Nat) (hn:ms.length=n) (xm:List Value) (c' :Nat) (bF:List Value) (h1:us.length+1<=c') (h2:c' <=maxLen) (h3:bF.length=(c' - (us.length+1)) * 7) {a:Option Addr} {ca:Nat} (ha:n<=ca) (hr:aw m' a n 11 xm) (hx:dZ (BO 8) 11 ms xm):
  Bld m' (us++[⟨fl,nm,sup,[],ms⟩]) c' (vs++eK fl nm sup (.slice none 0 0) (.slice a n ca)) bF:=by
 subst hn;refine⟨v7 (l2:=[(⟨fl,nm,sup,[],ms⟩:Cm)]) ⟨⟨none,a,0,ca,[],_,rfl,⟨aC _,ha⟩,⟨⟨rfl,fun h=>absurd h (Nat.lt_irrefl 0)⟩,trivial⟩,hr,hx⟩,trivial⟩ h.vl (jf (fun _ _=>tK hle) h.rep),?_,?_,?_,h2⟩
 ·rw[bc,h.vl,bc];simp only[eK,dk,pU];omega
 ·rw[bc];exact h3
 ·rw[bc];exact h1
set_option maxHeartbeats 8000000 in
theorem OP (m:Mem):FnH Tryz.prog 65 [] ⟨[],[]⟩ m
  fun r H' m' =>af m m' /\∃(k c:Nat) (vs rest:List Value),Bld m' df c vs rest/\r= .sl k 21 c/\H' =⟨[⟨k,107,vs.map .v++rest.map .v⟩],[]⟩:=by
 refine Fe Tryz.func65 rfl rfl (aZ rfl) ?_ ?_
 ·simp only[go_sem]
 ·refine mM (fun _:Unit=>⟨[],[],[],[],0,m⟩) (fun _=>True) (fun _ _=>aZ rfl) (fun _ _=> .inl rfl) (fun _=> ?_) (gl fO (by kernel_rfl) ?_) fun _ _=> ?_
  ·simp only[go_sem]
  ·simp only[go_sem];exact⟨(),trivial⟩
  ·refine mM (fun _:Unit=>⟨[⟨1,[],.box 0 0⟩],[],[⟨0,158,[.v (.slice none 0 0)]⟩],[],10,m⟩) (fun _=>True) (fun _ _=>aZ rfl) (fun _ _=> .inl rfl) (fun _=> ?_) (gl fO (by kernel_rfl) ?_) fun _ _=> ?_
   ·simp only[go_sem]
   ·simp only[go_sem];exact⟨(),trivial⟩
   ·refine mM (fun y:Nat×List Value×Mem=>⟨[⟨1,[],.box 0 0⟩,⟨2,[],.box 12 0⟩],[],[eP 12 [] 1 aY [] (.slice none 0 0) (.v (.slice none 0 0)) y.2.1,dH (.sl 12 1 y.1)],[],20,y.2.2⟩)
     (fun y=>af m y.2.2/\1<=y.1/\y.1<=maxLen/\y.2.1.length=(y.1 - 1) * 7) (fun _ _=>aZ rfl) (fun y hy=>hy.1) (fun _=> ?_) (gl fO (by kernel_rfl) ?_) ?_
    ·simp only[go_sem]
    ·simp only[go_sem];refine ai ((OR [79,98,106,101,99,116] [] 0 ⟨by decide,by decide⟩ (by decide) m).mono ?_);rintro r H' m1 aR ⟨l1,c',bF,g1,g2,g3,rfl,rfl⟩;simp only[go_sem,mY];exact⟨(c',bF,m1),⟨⟨⟨rfl,rfl,rfl⟩,rfl⟩,.inl rfl⟩,l1,g1,g2,g3⟩
    ·rintro⟨c',bF,m1⟩ ⟨l1,g1,g2,g3⟩;dsimp only at l1 g1 g2 g3;refine mM (fun y:Value×Mem=>⟨[⟨1,[],.box 0 0⟩,⟨2,[],.box 12 0⟩],[],[eP 12 [] 1 aY [] (.slice none 0 0) (.vec 24 0) bF,dH (.sl 12 1 c')],[⟨24,0,176,11,1,kR vN 0 1 y.1⟩],30,y.2⟩)
      (fun y=>af m1 y.2) (fun _ _=>aZ rfl) (fun y hy=>hy) (fun _=> ?_) (gl fO (by kernel_rfl) ?_) ?_
     ·simp only[go_sem]
     ·simp only[go_sem];refine ai ((Tj [] 0 rfl 1 aY [] (.slice none 0 0) bF vN 0 1 m1).mono ?_);rintro r H' m2 aK ⟨l2,rfl,v,rfl⟩;simp only[go_sem];exact⟨(v,m2),⟨rfl,.inl rfl⟩,l2⟩
     ·rintro⟨v,m2⟩ l2;dsimp only at l2;refine vV 12 (fun y:Option Addr×Nat×Mem=>⟨[⟨1,[],.box 0 0⟩],[],[eP 12 [] 1 aY [] (.slice none 0 0) (.v (.slice y.1 4 y.2.1)) bF,dH (.sl 12 1 c')],[],40,y.2.2⟩)
       (fun y=>af m2 y.2.2/\4<=y.2.1/\aw y.2.2 y.1 4 11 (kR vN 0 1 v++(WN.map (sG 16)).flatten)) (fun _ _=>aZ rfl) (fun y hy=>hy.1) (fun _=> ?_) (gl fO (by kernel_rfl) ?_) ?_
      ·simp only[go_sem]
      ·simp only[go_sem];refine⟨by kernel_rfl,fun a ca m3 w1 w2 w3=>bD ((Hl [] 0 rfl 1 aY [] (.slice none 0 0) bF 0 1 (kR vN 0 1 v) (by decide) rfl 16 ⟨by decide,by decide⟩ WN (by decide) a ca m3 w3).mono ?_)⟩;rintro r H' m4 gW ⟨l4,rfl,rfl⟩;simp only[go_sem,oM,mF,oN];exact⟨by decide,fun a cc m6 z1 z2 z3=>⟨(a,cc,m6),⟨rfl,.inl rfl⟩,aa (.inr w1) (aa l4 (.inr z1)),z2,z3⟩⟩
      ·rintro⟨ma,mc,m5⟩ ⟨l5,g5,g6⟩;dsimp only at l5 g5 g6;have hB:Bld m5 ([]++[⟨1,aY,[],[],[⟨1,bJ,vN⟩,⟨273,[119,97,105,116],vN⟩,⟨273,[110,111,116,105,102,121],vN⟩,⟨273,[110,111,116,105,102,121,65,108,108],vN⟩]⟩]) c' ([]++eK 1 aY [] (.slice none 0 0) (.slice ma 4 mc)) bF:=
        Bu (c0:=0) (L9:=[]) (vs:=[]) (us:=[]) (m:=m) ⟨trivial,rfl,rfl,aC _,aF _⟩ (aa l1 (aa l2 l5)) 1 aY [] _ 4 rfl _ c' bF g1 g2 g3 g5 g6 ⟨⟨_,rfl,rfl,by first |rfl |exact jG _ _ _ _ (jx _)⟩,⟨_,rfl,rfl,by first |rfl |exact jG _ _ _ _ (jx _)⟩,⟨_,rfl,rfl,by first |rfl |exact jG _ _ _ _ (jx _)⟩,⟨_,rfl,rfl,by first |rfl |exact jG _ _ _ _ (jx _)⟩,trivial⟩
       rw[vM];have hl:af m m5:=aa l1 (aa l2 l5);clear g1 g2 g3 g5 g6 l1 l2 l5;revert hB;generalize ([]:List Value)++eK 1 aY [] (.slice none 0 0) (.slice ma 4 mc)=vs
       intro hB;have dB:Bld m5 (df.take 1) c' vs bF:=hB;clear hB;have hB:=dB;clear dB;have h1:=KP [83,116,114,105,110,103] aY 16 ⟨by decide,by decide⟩ (by decide) (df.take 1) 1 c' vs bF m5 hB rfl (by decide);refine vV 43 (fun y:Nat×List Value×Option Addr×Nat×Mem=>⟨[⟨1,[],.box 0 0⟩],[],[eP 43 vs 17 (cN [83,116,114,105,110,103]) aY (.slice none 0 0) (.v (.slice y.2.2.1 2 y.2.2.2.1)) y.2.1,dH (.sl 43 2 y.1)],[],50,y.2.2.2.2⟩)
        (fun y=>af m5 y.2.2.2.2/\(2<=y.1/\y.1<=maxLen/\y.2.1.length=(y.1 - 2) * 7)/\2<=y.2.2.2.1/\aw y.2.2.2.2 y.2.2.1 2 11 (WS.map (sG 0)).flatten) (fun _ _=>aZ rfl) (fun y hy=>hy.1) (fun _=> ?_) (gl fO (by kernel_rfl) ?_) ?_
       ·simp only[go_sem]
       ·simp only[go_sem];refine ai (h1.mono ?_);clear h1;rintro r H' m1 aR ⟨l1,c1,r1,g1,g2,g3,rfl,rfl⟩;simp only[go_sem,mY,cN,List.map_nil];refine⟨by kernel_rfl,fun a ca m3 w1 w2 w3=>bD ((Hm vs 7 hB.vl 17 (cN [83,116,114,105,110,103]) aY (.slice none 0 0) r1 0 ⟨by decide,by decide⟩ WS (by decide) a ca m3 w3).mono ?_)⟩;rintro r H' m4 gW ⟨l4,rfl,rfl⟩;simp only[go_sem,oM,mF,oN,cN,List.map_nil];exact fun a cc m6 z1 z2 z3=>⟨(c1,r1,a,cc,m6),⟨⟨rfl,rfl⟩,.inl rfl⟩,aa l1 (aa (.inr w1) (aa l4 (.inr z1))),⟨g1,g2,g3⟩,z2,z3⟩
       ·rintro⟨c1,r1,ma,mc,m5⟩ ⟨l5,⟨g1,g2,g3⟩,g5,g6⟩;dsimp only at l5 g1 g2 g3 g5 g6;have dB:Bld m5 (df.take 1++[⟨17,cN [83,116,114,105,110,103],aY,[],[⟨257,[108,101,110,103,116,104],[40,41,73]⟩,⟨257,[97,116],[40,73,41,73]⟩]⟩]) c1 (vs++eK 17 (cN [83,116,114,105,110,103]) aY (.slice none 0 0) (.slice ma 2 mc)) r1:=
         Bu hB l5 17 _ aY _ 2 rfl _ c1 r1 g1 g2 g3 g5 g6 ⟨⟨_,rfl,rfl,by first |rfl |exact jG _ _ _ _ (jx _)⟩,⟨_,rfl,rfl,by first |rfl |exact jG _ _ _ _ (jx _)⟩,trivial⟩
        rw[vM];have bE:af m m5:=aa hl l5;clear g1 g2 g3 g5 g6 l5 hB hl h1;revert dB;generalize vs++eK 17 (cN [83,116,114,105,110,103]) aY (.slice none 0 0) (.slice ma 2 mc)=fN
        intro dB;have hB:Bld m5 (df.take 2) c1 fN r1:=dB;have hl:=bE;clear dB bE;have h1:=lz [84,104,114,111,119,97,98,108,101] aY (by decide) (df.take 2) 2 rfl (by decide) c1 fN r1 m5 hB;refine mM (fun y:Nat×List Value×List Value×Mem=>⟨[⟨1,[],.box 0 0⟩],[],[⟨55,107,y.2.1.map .v++y.2.2.1.map .v⟩,dH (.sl 55 3 y.1)],[],60,y.2.2.2⟩)
         (fun y=>af m5 y.2.2.2/\Bld y.2.2.2 (df.take 3) y.1 y.2.1 y.2.2.1) (fun _ _=>aZ rfl) (fun y hy=>hy.1) (fun _=> ?_) (gl fO (by kernel_rfl) ?_) ?_
        ·simp only[go_sem]
        ·simp only[go_sem];refine ai (h1.mono ?_);clear h1;rintro r H' m1 aR ⟨l1,c1,v1,r1,g1,rfl,rfl⟩;simp only[go_sem];exact⟨(c1,v1,r1,m1),⟨⟨rfl,rfl⟩,.inl rfl⟩,l1,g1⟩
        ·rintro⟨c1,fN,r1,m5⟩ ⟨l5,dB⟩;dsimp only at l5 dB;have bE:=aa hl l5;clear l5 hB hl h1;have hB:=dB;have hl:=bE;clear dB bE;have h1:=lz [69,114,114,111,114] jh (by decide) (df.take 3) 3 rfl (by decide) c1 fN r1 m5 hB;refine mM (fun y:Nat×List Value×List Value×Mem=>⟨[⟨1,[],.box 0 0⟩],[],[⟨65,107,y.2.1.map .v++y.2.2.1.map .v⟩,dH (.sl 65 4 y.1)],[],66,y.2.2.2⟩)
          (fun y=>af m5 y.2.2.2/\Bld y.2.2.2 (df.take 4) y.1 y.2.1 y.2.2.1) (fun _ _=>aZ rfl) (fun y hy=>hy.1) (fun _=> ?_) (gl fO (by kernel_rfl) ?_) ?_
         ·simp only[go_sem]
         ·simp only[go_sem];refine ai (h1.mono ?_);clear h1;rintro r H' m1 aR ⟨l1,c1,v1,r1,g1,rfl,rfl⟩;simp only[go_sem];exact⟨(c1,v1,r1,m1),⟨⟨rfl,rfl⟩,.inl rfl⟩,l1,g1⟩
         ·rintro⟨c1,fN,r1,m5⟩ ⟨l5,dB⟩;dsimp only at l5 dB;have bE:=aa hl l5;clear l5 hB hl h1;have hB:=dB;have hl:=bE;clear dB bE;refine mM (fun y:Nat×List Value×List Value×Mem=>⟨[⟨1,[],.box 0 0⟩],[],[⟨135,107,y.2.1.map .v++y.2.2.1.map .v⟩,dH (.sl 135 11 y.1)],[],136,y.2.2.2⟩)
           (fun y=>af m5 y.2.2.2/\Bld y.2.2.2 (df.take 11) y.1 y.2.1 y.2.2.1) (fun _ _=>aZ rfl) (fun y hy=>hy.1) (fun _=> ?_) (gl fO (by kernel_rfl) ?_) ?_
          ·simp only[go_sem]
          ·simp only[go_sem]
           refine cq fO (fun x:Nat×Nat×List Value×List Value×Mem=>⟨[⟨25,[],.vec 66 0⟩,⟨26,[],.v (.int .i64 7)⟩,⟨27,[],.v (.int .i64 x.1)⟩,⟨1,[],.box 0 0⟩],[],[⟨65+10 * x.1,107,x.2.2.1.map .v++x.2.2.2.1.map .v⟩,dH (.sl (65+10 * x.1) (4+x.1) x.2.1)],
             [⟨66,0,9,1,7,[.string (bs [78,117,108,108,80,111,105,110,116,101,114,69,120,99,101,112,116,105,111,110]),.string (bs [73,110,100,101,120,79,117,116,79,102,66,111,117,110,100,115,69,120,99,101,112,116,105,111,110]),.string (bs [65,114,105,116,104,109,101,116,105,99,69,120,99,101,112,116,105,111,110]),.string (bs [65,114,114,97,121,83,116,111,114,101,69,120,99,101,112,116,105,111,110]),.string (bs [67,108,97,115,115,67,97,115,116,69,120,99,101,112,116,105,111,110]),.string (bs [65,114,114,97,121,83,105,122,101,69,120,99,101,112,116,105,111,110]),.string (bs [73,108,108,101,103,97,108,77,111,110,105,116,111,114,83,116,97,116,101,69,120,99,101,112,116,105,111,110])]⟩],70+10 * x.1,x.2.2.2.2⟩)
            (fun x=>af m5 x.2.2.2.2/\x.1<=7/\Bld x.2.2.2.2 (df.take (4+x.1)) x.2.1 x.2.2.1 x.2.2.2.1) (fun x=>7 - x.1) (0,c1,fN,r1,m5) (by kernel_rfl) (fun x hx=> ?_) (fun x hx=>hx.1) (fun x=> ?_) ?_ ?_ ?_
           ·show 67<=70+10 * x.1;omega
           ·simp only[go_sem];omega
           ·simp only[go_sem];exact⟨rfl,rfl⟩
           ·exact⟨.inl rfl,aF _,hB⟩
           ·rintro⟨i,c2,v2,r2,m2⟩ ⟨q1,q2,q3⟩;dsimp only at q1 q2 q3;have hi:i=0\/i=1\/i=2\/i=3\/i=4\/i=5\/i=6\/i=7:=by omega
            clear hB;rcases hi with rfl |rfl |rfl |rfl |rfl |rfl |rfl |rfl
            ·have h1:=lz [78,117,108,108,80,111,105,110,116,101,114,69,120,99,101,112,116,105,111,110] jh (by decide) (df.take 4) 4 rfl (by decide) c2 v2 r2 m2 q3;have hj:((0:Nat):Int)=0:=rfl;have h7:((7:Nat):Int)=7:=rfl;simp only[go_sem,hj,h7];refine⟨fun _=>⟨by decide,by kernel_rfl,bD (h1.mono ?_)⟩,fun hq=>absurd (by decide) hq⟩;clear h1;rintro r H' m3 cA ⟨l3,c3,v3,r3,g3,rfl,rfl⟩;simp only[go_sem,hj,h7];exact⟨by unfold az;omega,(1,c3,v3,r3,m3),⟨rfl,⟨rfl,rfl,rfl⟩,.inl rfl⟩,⟨aa q1 l3,(show 1<=7 by decide),g3⟩,(show 7 - 1<7 - 0 by decide)⟩
            ·have h1:=lz [73,110,100,101,120,79,117,116,79,102,66,111,117,110,100,115,69,120,99,101,112,116,105,111,110] jh (by decide) (df.take 5) 5 rfl (by decide) c2 v2 r2 m2 q3;have hj:((1:Nat):Int)=1:=rfl;have h7:((7:Nat):Int)=7:=rfl;simp only[go_sem,hj,h7];refine⟨fun _=>⟨by decide,by kernel_rfl,bD (h1.mono ?_)⟩,fun hq=>absurd (by decide) hq⟩;clear h1;rintro r H' m3 cA ⟨l3,c3,v3,r3,g3,rfl,rfl⟩;simp only[go_sem,hj,h7];exact⟨by unfold az;omega,(2,c3,v3,r3,m3),⟨rfl,⟨rfl,rfl,rfl⟩,.inl rfl⟩,⟨aa q1 l3,(show 2<=7 by decide),g3⟩,(show 7 - 2<7 - 1 by decide)⟩
            ·have h1:=lz [65,114,105,116,104,109,101,116,105,99,69,120,99,101,112,116,105,111,110] jh (by decide) (df.take 6) 6 rfl (by decide) c2 v2 r2 m2 q3;have hj:((2:Nat):Int)=2:=rfl;have h7:((7:Nat):Int)=7:=rfl;simp only[go_sem,hj,h7];refine⟨fun _=>⟨by decide,by kernel_rfl,bD (h1.mono ?_)⟩,fun hq=>absurd (by decide) hq⟩;clear h1;rintro r H' m3 cA ⟨l3,c3,v3,r3,g3,rfl,rfl⟩;simp only[go_sem,hj,h7];exact⟨by unfold az;omega,(3,c3,v3,r3,m3),⟨rfl,⟨rfl,rfl,rfl⟩,.inl rfl⟩,⟨aa q1 l3,(show 3<=7 by decide),g3⟩,(show 7 - 3<7 - 2 by decide)⟩
            ·have h1:=lz [65,114,114,97,121,83,116,111,114,101,69,120,99,101,112,116,105,111,110] jh (by decide) (df.take 7) 7 rfl (by decide) c2 v2 r2 m2 q3;have hj:((3:Nat):Int)=3:=rfl;have h7:((7:Nat):Int)=7:=rfl;simp only[go_sem,hj,h7];refine⟨fun _=>⟨by decide,by kernel_rfl,bD (h1.mono ?_)⟩,fun hq=>absurd (by decide) hq⟩;clear h1;rintro r H' m3 cA ⟨l3,c3,v3,r3,g3,rfl,rfl⟩;simp only[go_sem,hj,h7];exact⟨by unfold az;omega,(4,c3,v3,r3,m3),⟨rfl,⟨rfl,rfl,rfl⟩,.inl rfl⟩,⟨aa q1 l3,(show 4<=7 by decide),g3⟩,(show 7 - 4<7 - 3 by decide)⟩
            ·have h1:=lz [67,108,97,115,115,67,97,115,116,69,120,99,101,112,116,105,111,110] jh (by decide) (df.take 8) 8 rfl (by decide) c2 v2 r2 m2 q3;have hj:((4:Nat):Int)=4:=rfl;have h7:((7:Nat):Int)=7:=rfl;simp only[go_sem,hj,h7];refine⟨fun _=>⟨by decide,by kernel_rfl,bD (h1.mono ?_)⟩,fun hq=>absurd (by decide) hq⟩;clear h1;rintro r H' m3 cA ⟨l3,c3,v3,r3,g3,rfl,rfl⟩;simp only[go_sem,hj,h7];exact⟨by unfold az;omega,(5,c3,v3,r3,m3),⟨rfl,⟨rfl,rfl,rfl⟩,.inl rfl⟩,⟨aa q1 l3,(show 5<=7 by decide),g3⟩,(show 7 - 5<7 - 4 by decide)⟩
            ·have h1:=lz [65,114,114,97,121,83,105,122,101,69,120,99,101,112,116,105,111,110] jh (by decide) (df.take 9) 9 rfl (by decide) c2 v2 r2 m2 q3;have hj:((5:Nat):Int)=5:=rfl;have h7:((7:Nat):Int)=7:=rfl;simp only[go_sem,hj,h7];refine⟨fun _=>⟨by decide,by kernel_rfl,bD (h1.mono ?_)⟩,fun hq=>absurd (by decide) hq⟩;clear h1;rintro r H' m3 cA ⟨l3,c3,v3,r3,g3,rfl,rfl⟩;simp only[go_sem,hj,h7];exact⟨by unfold az;omega,(6,c3,v3,r3,m3),⟨rfl,⟨rfl,rfl,rfl⟩,.inl rfl⟩,⟨aa q1 l3,(show 6<=7 by decide),g3⟩,(show 7 - 6<7 - 5 by decide)⟩
            ·have h1:=lz [73,108,108,101,103,97,108,77,111,110,105,116,111,114,83,116,97,116,101,69,120,99,101,112,116,105,111,110] jh (by decide) (df.take 10) 10 rfl (by decide) c2 v2 r2 m2 q3;have hj:((6:Nat):Int)=6:=rfl;have h7:((7:Nat):Int)=7:=rfl;simp only[go_sem,hj,h7];refine⟨fun _=>⟨by decide,by kernel_rfl,bD (h1.mono ?_)⟩,fun hq=>absurd (by decide) hq⟩;clear h1;rintro r H' m3 cA ⟨l3,c3,v3,r3,g3,rfl,rfl⟩;simp only[go_sem,hj,h7];exact⟨by unfold az;omega,(7,c3,v3,r3,m3),⟨rfl,⟨rfl,rfl,rfl⟩,.inl rfl⟩,⟨aa q1 l3,(show 7<=7 by decide),g3⟩,(show 7 - 7<7 - 6 by decide)⟩
            ·have hj:((7:Nat):Int)=7:=rfl;have hq:((7:Int)<7)=False:=eq_false (by decide);simp only[go_sem,hj,hq,not_true_eq_false,not_false_eq_true,false_implies,true_implies,and_true,true_and];exact⟨(c2,v2,r2,m2),⟨⟨rfl,rfl⟩,.inl rfl⟩,q1,q3⟩
          ·rintro⟨c1,fN,r1,m5⟩ ⟨l5,dB⟩;dsimp only at l5 dB;have bE:=aa hl l5;clear l5 hB hl;have hB:=dB;have hl:=bE;clear dB bE;refine mM (fun y:Nat×List Value×List Value×Mem=>⟨[⟨1,[],.box 0 0⟩],[],[⟨175,107,y.2.1.map .v++y.2.2.1.map .v⟩,dH (.sl 175 15 y.1)],[],176,y.2.2.2⟩)
            (fun y=>af m5 y.2.2.2/\Bld y.2.2.2 (df.take 15) y.1 y.2.1 y.2.2.1) (fun _ _=>aZ rfl) (fun y hy=>hy.1) (fun _=> ?_) (gl fO (by kernel_rfl) ?_) ?_
           ·simp only[go_sem]
           ·simp only[go_sem]
            refine cq fO (fun x:Nat×Nat×List Value×List Value×Mem=>⟨[⟨35,[],.vec 136 0⟩,⟨36,[],.v (.int .i64 4)⟩,⟨37,[],.v (.int .i64 x.1)⟩,⟨1,[],.box 0 0⟩],[],[⟨135+10 * x.1,107,x.2.2.1.map .v++x.2.2.2.1.map .v⟩,dH (.sl (135+10 * x.1) (11+x.1) x.2.1)],
              [⟨136,0,9,1,4,[.string (bs [76,105,110,107,97,103,101,69,114,114,111,114]),.string (bs [73,110,105,116,105,97,108,105,122,101,114,69,114,114,111,114]),.string (bs [79,117,116,79,102,77,101,109,111,114,121,69,114,114,111,114]),.string (bs [83,116,97,99,107,79,118,101,114,102,108,111,119,69,114,114,111,114])]⟩],140+10 * x.1,x.2.2.2.2⟩)
             (fun x=>af m5 x.2.2.2.2/\x.1<=4/\Bld x.2.2.2.2 (df.take (11+x.1)) x.2.1 x.2.2.1 x.2.2.2.1) (fun x=>4 - x.1) (0,c1,fN,r1,m5) (by kernel_rfl) (fun x hx=> ?_) (fun x hx=>hx.1) (fun x=> ?_) ?_ ?_ ?_
            ·show 137<=140+10 * x.1;omega
            ·simp only[go_sem];omega
            ·simp only[go_sem];exact⟨rfl,rfl⟩
            ·exact⟨.inl rfl,aF _,hB⟩
            ·rintro⟨i,c2,v2,r2,m2⟩ ⟨q1,q2,q3⟩;dsimp only at q1 q2 q3;have hi:i=0\/i=1\/i=2\/i=3\/i=4:=by omega
             clear hB;rcases hi with rfl |rfl |rfl |rfl |rfl
             ·have h1:=lz [76,105,110,107,97,103,101,69,114,114,111,114] [108,97,110,103,47,69,114,114,111,114] (by decide) (df.take 11) 11 rfl (by decide) c2 v2 r2 m2 q3;have hj:((0:Nat):Int)=0:=rfl;have h7:((4:Nat):Int)=4:=rfl;simp only[go_sem,hj,h7];refine⟨fun _=>⟨by decide,by kernel_rfl,bD (h1.mono ?_)⟩,fun hq=>absurd (by decide) hq⟩;clear h1;rintro r H' m3 cA ⟨l3,c3,v3,r3,g3,rfl,rfl⟩;simp only[go_sem,hj,h7];exact⟨by unfold az;omega,(1,c3,v3,r3,m3),⟨rfl,⟨rfl,rfl,rfl⟩,.inl rfl⟩,⟨aa q1 l3,(show 1<=4 by decide),g3⟩,(show 4 - 1<4 - 0 by decide)⟩
             ·have h1:=lz [73,110,105,116,105,97,108,105,122,101,114,69,114,114,111,114] [108,97,110,103,47,69,114,114,111,114] (by decide) (df.take 12) 12 rfl (by decide) c2 v2 r2 m2 q3;have hj:((1:Nat):Int)=1:=rfl;have h7:((4:Nat):Int)=4:=rfl;simp only[go_sem,hj,h7];refine⟨fun _=>⟨by decide,by kernel_rfl,bD (h1.mono ?_)⟩,fun hq=>absurd (by decide) hq⟩;clear h1;rintro r H' m3 cA ⟨l3,c3,v3,r3,g3,rfl,rfl⟩;simp only[go_sem,hj,h7];exact⟨by unfold az;omega,(2,c3,v3,r3,m3),⟨rfl,⟨rfl,rfl,rfl⟩,.inl rfl⟩,⟨aa q1 l3,(show 2<=4 by decide),g3⟩,(show 4 - 2<4 - 1 by decide)⟩
             ·have h1:=lz [79,117,116,79,102,77,101,109,111,114,121,69,114,114,111,114] [108,97,110,103,47,69,114,114,111,114] (by decide) (df.take 13) 13 rfl (by decide) c2 v2 r2 m2 q3;have hj:((2:Nat):Int)=2:=rfl;have h7:((4:Nat):Int)=4:=rfl;simp only[go_sem,hj,h7];refine⟨fun _=>⟨by decide,by kernel_rfl,bD (h1.mono ?_)⟩,fun hq=>absurd (by decide) hq⟩;clear h1;rintro r H' m3 cA ⟨l3,c3,v3,r3,g3,rfl,rfl⟩;simp only[go_sem,hj,h7];exact⟨by unfold az;omega,(3,c3,v3,r3,m3),⟨rfl,⟨rfl,rfl,rfl⟩,.inl rfl⟩,⟨aa q1 l3,(show 3<=4 by decide),g3⟩,(show 4 - 3<4 - 2 by decide)⟩
             ·have h1:=lz [83,116,97,99,107,79,118,101,114,102,108,111,119,69,114,114,111,114] [108,97,110,103,47,69,114,114,111,114] (by decide) (df.take 14) 14 rfl (by decide) c2 v2 r2 m2 q3;have hj:((3:Nat):Int)=3:=rfl;have h7:((4:Nat):Int)=4:=rfl;simp only[go_sem,hj,h7];refine⟨fun _=>⟨by decide,by kernel_rfl,bD (h1.mono ?_)⟩,fun hq=>absurd (by decide) hq⟩;clear h1;rintro r H' m3 cA ⟨l3,c3,v3,r3,g3,rfl,rfl⟩;simp only[go_sem,hj,h7];exact⟨by unfold az;omega,(4,c3,v3,r3,m3),⟨rfl,⟨rfl,rfl,rfl⟩,.inl rfl⟩,⟨aa q1 l3,(show 4<=4 by decide),g3⟩,(show 4 - 4<4 - 3 by decide)⟩
             ·have hj:((4:Nat):Int)=4:=rfl;have hq:((4:Int)<4)=False:=eq_false (by decide);simp only[go_sem,hj,hq,not_true_eq_false,not_false_eq_true,false_implies,true_implies,and_true,true_and];exact⟨(c2,v2,r2,m2),⟨⟨rfl,rfl⟩,.inl rfl⟩,q1,q3⟩
           ·rintro⟨c1,fN,r1,m5⟩ ⟨l5,dB⟩;dsimp only at l5 dB;have bE:=aa hl l5;clear l5 hB hl;have hB:=dB;have hl:=bE;clear dB bE;have h1:=Om [84,104,114,101,97,100] aY (by decide) (df.take 15) 15 c1 fN r1 m5 hB rfl (by decide);refine mM (fun y:Nat×List Value×Value×Mem=>⟨[⟨1,[],.box 0 0⟩,⟨7,[],.box 181 105⟩],[],[eP 181 fN 1 (cN [84,104,114,101,97,100]) aY (.slice none 0 0) (.vec 187 0) y.2.1,dH (.sl 181 16 y.1)],[⟨187,0,176,11,1,kR vN 1 1 y.2.2.1⟩],190,y.2.2.2⟩)
             (fun y=>af m5 y.2.2.2/\16<=y.1/\y.1<=maxLen/\y.2.1.length=(y.1 - 16) * 7) (fun _ _=>aZ rfl) (fun y hy=>hy.1) (fun _=> ?_) (gl fO (by kernel_rfl) ?_) ?_
            ·simp only[go_sem]
            ·simp only[go_sem];refine ai (h1.mono ?_);clear h1;rintro r H' m1 aR ⟨l1,c1,r1,v1,g1,g2,g3,rfl,rfl⟩;simp only[go_sem,cN];exact⟨(c1,r1,v1,m1),⟨⟨rfl,rfl⟩,rfl,.inl rfl⟩,l1,g1,g2,g3⟩
            ·rintro⟨c1,r1,v1,m1⟩ ⟨l1,g1,g2,g3⟩;dsimp only at l1 g1 g2 g3;clear h1;refine mM (fun y:Value×Mem=>⟨[⟨1,[],.box 0 0⟩,⟨7,[],.box 181 105⟩],[],[eP 181 fN 1 (cN [84,104,114,101,97,100]) aY (.slice none 0 0) (.vec 187 1) r1,dH (.sl 181 16 c1)],[⟨187,1,176,11,2,kR vN 1 1 v1++FE y.1⟩],210,y.2⟩)
              (fun y=>af m1 y.2) (fun _ _=>aZ rfl) (fun y hy=>hy) (fun _=> ?_) (gl fO (by kernel_rfl) ?_) ?_
             ·simp only[go_sem]
             ·have hg:∀r:List SV,(fN.map SV.v++r)[110]? =r[5]? :=fun r=>tW (show fN.length=105 from hB.vl) r 5
              have eM:∀(r:List SV) (x:SV),(fN.map SV.v++r).set 110 x=fN.map SV.v++r.set 5 x:=fun r x=>tS (show fN.length=105 from hB.vl) r 5 x
              simp only[go_sem,hg,eM];refine fun a cc m3 z1 z2 z3=>⟨jz (by decide) (by decide),?_,(.slice a 1 cc,m3),⟨rfl,.inl rfl⟩,.inr z1⟩
              rw[bc,List.length_map,hB.vl];simp only[dk];show _<=105+_;omega
             ·rintro⟨v2,m2⟩ l2;dsimp only at l2;refine vV 181 (fun y:Option Addr×Nat×Mem=>⟨[⟨1,[],.box 0 0⟩],[],[eP 181 fN 1 (cN [84,104,114,101,97,100]) aY (.slice none 0 0) (.v (.slice y.1 3 y.2.1)) r1,dH (.sl 181 16 c1)],[],230,y.2.2⟩)
               (fun y=>af m2 y.2.2/\3<=y.2.1/\aw y.2.2 y.1 3 11 (kR vN 1 1 v1++FE v2++(SN.map (sG 0)).flatten)) (fun _ _=>aZ rfl) (fun y hy=>hy.1) (fun _=> ?_) (gl fO (by kernel_rfl) ?_) ?_
              ·simp only[go_sem]
              ·simp only[go_sem];refine⟨by kernel_rfl,fun a ca m3 w1 w2 w3=>bD ((Hl fN 105 hB.vl 1 (cN [84,104,114,101,97,100]) aY (.slice none 0 0) r1 1 2 (kR vN 1 1 v1++FE v2) (by decide) rfl 0 ⟨by decide,by decide⟩ SN (by decide) a ca m3 w3).mono ?_)⟩;rintro r H' m4 gW ⟨l4,rfl,rfl⟩;simp only[go_sem,oM,mF,oN];exact⟨by decide,fun a cc m6 z1 z2 z3=>⟨(a,cc,m6),⟨rfl,.inl rfl⟩,aa (.inr w1) (aa l4 (.inr z1)),z2,z3⟩⟩
              ·rintro⟨ma,mc,m5⟩ ⟨l5,g5,g6⟩;dsimp only at l5 g5 g6;have dB:Bld m5 (df.take 15++[⟨1,cN [84,104,114,101,97,100],aY,[],[⟨1,bJ,vN⟩,⟨1,[114,117,110],vN⟩,⟨257,[115,116,97,114,116],vN⟩]⟩]) c1 (fN++eK 1 (cN [84,104,114,101,97,100]) aY (.slice none 0 0) (.slice ma 3 mc)) r1:=
                Bu hB (aa l1 (aa l2 l5)) 1 _ aY _ 3 rfl _ c1 r1 g1 g2 g3 g5 g6 ⟨⟨_,rfl,rfl,by first |rfl |exact jG _ _ _ _ (jx _)⟩,⟨_,rfl,rfl,by first |rfl |exact jG _ _ _ _ (jx _)⟩,⟨_,rfl,rfl,by first |rfl |exact jG _ _ _ _ (jx _)⟩,trivial⟩
               rw[vM];have bE:af m m5:=aa hl (aa l1 (aa l2 l5));clear g1 g2 g3 g5 g6 l5 hB hl l1 l2;revert dB;generalize fN++eK 1 (cN [84,104,114,101,97,100]) aY (.slice none 0 0) (.slice ma 3 mc)=xa
               intro dB;have hB:Bld m5 (df.take 16) c1 xa r1:=dB;have hl:=bE;clear dB bE;have h1:=KP [67,111,110,115,111,108,101] aY 16 ⟨by decide,by decide⟩ (by decide) (df.take 16) 16 c1 xa r1 m5 hB rfl (by decide);refine vV 233 (fun y:Nat×List Value×Option Addr×Nat×Mem=>⟨[⟨1,[],.box 0 0⟩],[],[eP 233 xa 17 (cN [67,111,110,115,111,108,101]) aY (.slice none 0 0) (.v (.slice y.2.2.1 3 y.2.2.2.1)) y.2.1,dH (.sl 233 17 y.1)],[],240,y.2.2.2.2⟩)
                (fun y=>af m5 y.2.2.2.2/\(17<=y.1/\y.1<=maxLen/\y.2.1.length=(y.1 - 17) * 7)/\3<=y.2.2.2.1/\aw y.2.2.2.2 y.2.2.1 3 11 (CN.map (sG 8)).flatten) (fun _ _=>aZ rfl) (fun y hy=>hy.1) (fun _=> ?_) (gl fO (by kernel_rfl) ?_) ?_
               ·simp only[go_sem]
               ·simp only[go_sem];refine ai (h1.mono ?_);clear h1;rintro r H' m1 aR ⟨l1,c1,r1,g1,g2,g3,rfl,rfl⟩;simp only[go_sem,mY,cN,List.map_nil];refine⟨by kernel_rfl,fun a ca m3 w1 w2 w3=>bD ((Hm xa 112 hB.vl 17 (cN [67,111,110,115,111,108,101]) aY (.slice none 0 0) r1 8 ⟨by decide,by decide⟩ CN (by decide) a ca m3 w3).mono ?_)⟩;rintro r H' m4 gW ⟨l4,rfl,rfl⟩;simp only[go_sem,oM,mF,oN,cN,List.map_nil];exact fun a cc m6 z1 z2 z3=>⟨(c1,r1,a,cc,m6),⟨⟨rfl,rfl⟩,.inl rfl⟩,aa l1 (aa (.inr w1) (aa l4 (.inr z1))),⟨g1,g2,g3⟩,z2,z3⟩
               ·rintro⟨c1,r1,ma,mc,m5⟩ ⟨l5,⟨g1,g2,g3⟩,g5,g6⟩;dsimp only at l5 g1 g2 g3 g5 g6;have dB:Bld m5 (df.take 16++[⟨17,cN [67,111,110,115,111,108,101],aY,[],[⟨265,[112,114,105,110,116,73,110,116],[40,73,41,86]⟩,⟨265,[112,114,105,110,116,83,116,114,105,110,103],[40,76,108,97,110,103,47,83,116,114,105,110,103,59,41,86]⟩,⟨265,[112,114,105,110,116,76,111,110,103],[40,74,41,86]⟩]⟩]) c1 (xa++eK 17 (cN [67,111,110,115,111,108,101]) aY (.slice none 0 0) (.slice ma 3 mc)) r1:=
                 Bu hB l5 17 _ aY _ 3 rfl _ c1 r1 g1 g2 g3 g5 g6 ⟨⟨_,rfl,rfl,by first |rfl |exact jG _ _ _ _ (jx _)⟩,⟨_,rfl,rfl,by first |rfl |exact jG _ _ _ _ (jx _)⟩,⟨_,rfl,rfl,by first |rfl |exact jG _ _ _ _ (jx _)⟩,trivial⟩
                rw[vM];have bE:af m m5:=aa hl l5;clear g1 g2 g3 g5 g6 l5 hB hl h1;revert dB;generalize xa++eK 17 (cN [67,111,110,115,111,108,101]) aY (.slice none 0 0) (.slice ma 3 mc)=fN
                intro dB;have hB:Bld m5 (df.take 17) c1 fN r1:=dB;have hl:=bE;clear dB bE;have h1:=T6 (df.take 17) 17 rfl (by decide) c1 fN r1 m5 hB;refine gl fO (by kernel_rfl) ?_;simp only[go_sem];refine ai (h1.mono ?_);clear h1;rintro r H' m6 pM ⟨l6,rfl,c6,v6,r6,g6,rfl⟩;simp only[go_sem];exact⟨aa hl l6,242,c6,v6,r6,g6,rfl,rfl⟩
theorem Ot (m:Mem):FnH Tryz.prog 65 [] ⟨[],[]⟩ m
  fun r H' m' =>af m m' /\H' =⟨[],[]⟩/\∃(a:Option Addr) (c:Nat) (vs:List Value),r= .v (.slice a 21 c)/\21<=c/\aw m' a 21 7 vs/\dZ (sA m') 7 df vs:=by
 refine TJ (OP m) ?_;rintro r H' m' hm ⟨l,k,c,vs,rest,hB,rfl,rfl⟩;have hlen:vs.length=147:=hB.vl;refine⟨fun s=>s,k,21,c,7,107,vs++rest,[],rfl,by rw[List.map_append],(by decide:(107:Nat)<gv),by rw[bc,hlen];omega,fun V=>rfl,fun a m1 h1 h2=>⟨aa l (.inr h1),rfl,a,c,vs,rfl,hB.le,?_,jf (fun _ _=>tK (.inr h1)) hB.rep⟩⟩;rw[List.take_append_of_le_length (by rw[hlen];omega),jS (by rw[hlen];omega)] at h2;exact h2
end Go.Proofs.YtmdokbohofchgaaGreatDoor.E
namespace Go.Proofs.YtmdokbohofchgaaGreatDoor.E
open Go Go.RowKit
theorem jT {P:Program} {f:FuncId} {args:List SV} {H:Hp} {m:Mem} {R R' :SV->Hp->Mem->Prop} (h:FnH P f args H m R) (e:∀r H' m',m.le m' ->R r H' m' ->∃r',(∀V,den V r' =den V r)/\R' r' H' m'):FnH P f args H m R' :=
 fun V w D h1 h2 h3=>(h V w D h1 h2 h3).mono fun x w2 ⟨r,V',D',H',m',e1,e2,e3,e4,e5,e6,e7,e8,e9,cn,cu⟩=>(e r H' m' e9 cu).elim fun r' hr=>⟨r',V',D',H',m',by rw[hr.1 V'];exact e1,e2,e3,e4,e5,e6,e7,e8,e9,cn,hr.2⟩
theorem OL (s:List UInt8) (c:Int) (m:Mem):FnH Tryz.prog 269 [.v (.string (bs s)),.v (.int .u8 c)] ⟨[],[]⟩ m fun r H' _=>r= .v (.int .i64 (Lib.indexByte s c.toNat.toUInt8))/\H' =⟨[],[]⟩:=by
 refine(L3 (args:=[.string (bs s),.int .u8 c]) (R:=fun y=>y= .int .i64 (Lib.indexByte s c.toNat.toUInt8)) fun w D eg hle=> ?_).mono ?_
 ·refine(Tryz.strings_IndexByte (bs s) c w).mono ?_;rintro e w' ⟨rfl,rfl⟩;exact⟨_,rfl,rfl,Below.refl _ _⟩
 ·rintro r H' m' hm ⟨⟨y,rfl,rfl⟩,h1,h2⟩;exact⟨rfl,h1⟩
def Cy:List Value->Option (Prop×Value)
 |[.string s,.int .u8 c]=>some (True,.int .i64 (Lib.indexByte (tl s) c.toNat.toUInt8))
 |_=>none
attribute [go_sem] Cy.eq_1
theorem WU:∀aO y,Cy aO=some y->y.1->∀m,FnH Tryz.prog 269 (aO.map SV.v) ⟨[],[]⟩ m (fun r H' _=>r= .v y.2/\H' =⟨[],[]⟩):=fun aO y hy hB m=>by
 unfold Cy at hy;split at hy
 ·rename_i s c;cases hy;have:=OL (tl s) c m;rwa [eY] at this
 ·cases hy
abbrev abA:Cfg:=eZ (fun _=>false) [(216,pC kz),(269,Cy)]
theorem B3:cw abA Tryz.prog:=pure_cons (by kernel_rfl) (tT HB) (pure_cons (by kernel_rfl) WU pure_nil)
@[reducible] def tyA (t:Ty):SV:= .v (.agg ⟨[.int .i64 t.dim,.int .u8 t.base,.string (bs t.name)]⟩)
@[reducible] def dJ (t:Ty):SV:= .agg [.v (.int .i64 t.dim),.v (.int .u8 t.base),.v (.string (bs t.name))]
def dr (s:Nm):Nat:=(s.takeWhile (· ==91)).length
theorem W3 (s:Nm):dr s<=s.length:=by
 unfold dr;induction s with
 |nil=>exact aC _
 |cons a r ih=>
  rw[List.takeWhile_cons];split
  ·simp only[dk];omega
  ·exact aF _
theorem LO:∀{s:Nm} {i:Nat},i<dr s->s.getD i 0=91
 |[],i,h=>by cases h
 |a::r,i,h=>by
  unfold dr at h;rw[List.takeWhile_cons] at h;split at h
  ·rename_i e;cases i with
   |zero=>simpa using e
   |succ i=>
    simp only[dk] at h;simpa using LO (s:=r) (i:=i) (by unfold dr;omega)
  ·cases h
theorem KW:∀{s:Nm},dr s<s.length->s.getD (dr s) 0≠91
 |[],h=>by cases h
 |a::r,h=>by
  unfold dr at h ⊢;rw[List.takeWhile_cons] at h ⊢;split
  ·rename_i e;rw[ak e] at h;simp only[dk] at h ⊢;have:=KW (s:=r) (by unfold dr;omega);unfold dr at this;simpa using this
  ·rename_i e;simpa using e
theorem Qq {s:Nm} (h:s.drop (dr s)=[]):fT s=(an,[],false):=by
 unfold fT;unfold dr at h;rw[h]
theorem Qp {s r:Nm} {c:UInt8} (h:s.drop (dr s)=c::r):fT s=(if c=76 then(if Lib.indexByte r 59<0 then(an,[],false)
   else(⟨dr s,76,r.take (Lib.indexByte r 59).toNat⟩,r.drop ((Lib.indexByte r 59).toNat+1),Bv ⟨dr s,76,r.take (Lib.indexByte r 59).toNat⟩))
  else(⟨dr s,c.toNat,[]⟩,r,Bv ⟨dr s,c.toNat,[]⟩)):=by
 unfold fT;unfold dr at h ⊢;rw[h]
theorem Zg (l:Nm) (c:UInt8): -1<=Lib.indexByte l c/\Lib.indexByte l c<l.length:=by
 refine⟨Lib.indexByte_ge l c,?_⟩;by_cases h:0<=Lib.indexByte l c
 ·obtain⟨o,ho⟩:=Int.eq_ofNat_of_zero_le h;have:=(List.getElem?_eq_some_iff.1 (Lib.indexByte_some ho).1).1;omega
 ·omega
theorem OF (s:Nm) (m:Mem) (hs:s.length<=1000000):FnH Tryz.prog 239 [.v (.string (bs s))] ⟨[],[]⟩ m
  fun r H' m' =>m' =m/\H' =⟨[],[]⟩/\r= .tup [tyA (fT s).1,.v (.string (bs (fT s).2.1)),.v (.bool (fT s).2.2)]:=by
 have hl:=W3 s;have h1:∀h:dr s<s.length,∃c,s.drop (dr s)=c::s.drop (dr s+1):=fun h=>⟨s[dr s],List.drop_eq_getElem_cons h⟩
 have h2:=fun c (h:s.drop (dr s)=c::s.drop (dr s+1))=>Qp h
 have h3:=fun(h:s.drop (dr s)=[])=>Qq h
 revert h2 h3;generalize fT s=p
 intro h2 h3;refine jT (R:=fun r H' m' =>m' =m/\H' =⟨[],[]⟩/\r= .tup [dJ p.1,.v (.string (bs p.2.1)),.v (.bool p.2.2)]) ?_ fun r H' m' _ hr=>⟨_,fun V=>by rw[hr.2.2];rfl,hr.1,hr.2.1,rfl⟩
 refine br B3 Tryz.func239 ?_
 ·simp only[go_sem];refine gC B3 (fun i:Nat=>⟨[⟨5,[],.box 1 0⟩,⟨4,[],.v (.bool false)⟩,⟨3,[],.v (.string (bs []))⟩,⟨2,[],.box 0 0⟩,⟨0,[],.v (.string (bs s))⟩],[],[⟨1,35,[.v (.int .i64 i),.v (.int .u8 0),.v (.string (bs []))]⟩,⟨0,35,[.v (.int .i64 0),.v (.int .u8 0),.v (.string (bs []))]⟩],[],2,m⟩)
   (fun i=>i<=dr s) (fun i=>dr s - i) 0 (fun _ _=>aZ rfl) (fun _ _=> .inl rfl) ?_ ?_ ?_
  ·simp only[go_sem];exact rfl
  ·exact aF _
  ·intro i hi;by_cases aj:i<dr s
   ·have hc:((i:Int)<(s.length:Int))=True:=eq_true (by omega);have h9:=LO aj;have GF:(((s.getD i 0).toNat:Int)=91)=True:=eq_true (by rw[h9];rfl);clear h1 h2 h3;simp only[go_sem,hc,GF,not_true_eq_false,or_false,false_implies,true_implies,and_true];exact⟨by omega,by unfold az;omega,i+1,rfl,aj,by omega⟩
   ·have hi2:i=dr s:=by omega
    clear aj hi;subst hi2;by_cases hlen:dr s<s.length
    ·have hc:((dr s:Int)<(s.length:Int))=True:=eq_true (by omega);have h9:=KW hlen;have GF:(((s.getD (dr s) 0).toNat:Int)=91)=False:=eq_false (fun e=>h9 (UInt8.toNat_inj.1 (by have:(91:UInt8).toNat=91:=rfl;omega)));refine Exists.elim (h1 hlen) fun c hd=> ?_
     have hp:=h2 c hd;clear h1 h2 h3;simp only[go_sem,hc,GF,hd];refine⟨by omega,⟨by omega,by omega,by omega⟩,⟨by omega,by omega⟩,⟨by omega,by omega,by omega⟩,fun GO=> ?_,fun GO=> ?_⟩
     ·have FW:c=76:=UInt8.toNat_inj.1 (by have:(76:UInt8).toNat=76:=rfl;omega);rw[ak FW] at hp;have hx:Lib.indexByte (s.drop (dr s+1)) (Nat.toUInt8 59)=Lib.indexByte (s.drop (dr s+1)) 59:=rfl;rw[hx];clear hx;have s8:=Zg (s.drop (dr s+1)) 59;rw[gI] at s8 ⊢;revert hp s8;generalize Lib.indexByte (s.drop (dr s+1)) 59=x
      intro hp s8;refine⟨fun hx=> ?_,fun hx=>⟨⟨by omega,by omega,by omega⟩,by unfold az;omega,⟨by omega,by omega,by omega⟩,?_⟩⟩
      ·rw[ak hx] at hp;rw[hp];rfl
      ·rw[ae hx] at hp;have e1:(x+1).toNat=x.toNat+1:=by omega
       have hb:BL ((s.drop (dr s+1)).take x.toNat):=by unfold BL;rw[List.length_take];omega
       refine bZ (.hoist 0 (.hoist 1 (.hoist 2 (.alt 3 [1,0] (.alt 4 [1] (.hoist 5 (.hoist 6 .done)) .stop) .stop)))) B3 (by kernel_rfl) (by kernel_rfl) ?_;simp only[go_sem,hb,e1];rw[hp,GO];rfl
     ·have FW:¬c=76:=fun e=>GO (by rw[e];rfl)
      rw[ae FW] at hp;refine bZ (.hoist 0 (.hoist 1 (.hoist 2 (.alt 3 [1,0] (.alt 4 [1] (.hoist 5 (.hoist 6 .done)) .stop) .stop)))) B3 (by kernel_rfl) (by kernel_rfl) ?_;simp only[go_sem];refine⟨by unfold BL;simp,?_⟩;rw[hp];rfl
    ·have hc:((dr s:Int)<(s.length:Int))=False:=eq_false (by omega);have h0:s.length=dr s:=by omega
     have hd:s.drop (dr s)=[]:=List.drop_eq_nil_of_le (by omega);have hp:=h3 hd;clear h1 h2 h3;subst hp;simp only[go_sem,hc,hd,not_true_eq_false,false_implies,and_true,false_and,true_and];exact⟨⟨by omega,by omega,by omega⟩,rfl⟩
attribute [go_sem] not_true_eq_false false_and
def uK (F:Nm->Value):List Value->Option (Prop×Value)
 |[.string s]=>some ((tl s).length<=1000000,F (tl s))
 |_=>none
attribute [go_sem] uK.eq_1
theorem BA {f:FuncId} {F:Nm->Value} (h:∀(s:Nm) (m:Mem),s.length<=1000000->FnH Tryz.prog f [.v (.string (bs s))] ⟨[],[]⟩ m fun r H' _=>r= .v (F s)/\H' =⟨[],[]⟩):
  ∀aO y,uK F aO=some y->y.1->∀m,FnH Tryz.prog f (aO.map SV.v) ⟨[],[]⟩ m (fun r H' _=>r= .v y.2/\H' =⟨[],[]⟩):=fun aO y hy hB m=>by
 unfold uK at hy;split at hy
 ·rename_i s;cases hy;have:=h (tl s) m hB;rwa [eY] at this
 ·cases hy
def aB (t:Ty):List Value:=[.int .i64 t.dim,.int .u8 t.base,.string (bs t.name)]
def yR (s:Nm):Value:= .tuple ⟨[.agg ⟨aB (fT s).1⟩,.string (bs (fT s).2.1),.bool (fT s).2.2]⟩
def yI (s:Nm):Value:= .tuple ⟨[.agg ⟨aB (jV s).1⟩,.int .i64 (jV s).2]⟩
theorem HO (s:Nm) (m:Mem) (hs:s.length<=1000000):FnH Tryz.prog 239 [.v (.string (bs s))] ⟨[],[]⟩ m fun r H' _=>r= .v (yR s)/\H' =⟨[],[]⟩:=
 jT (OF s m hs) fun r H' m' _ hr=>⟨_,fun V=>by rw[hr.2.2];rfl,rfl,hr.2.1⟩
abbrev abC:Cfg:=eZ (fun _=>false) [(239,uK yR)]
theorem aaV:cw abC Tryz.prog:=pure_cons (by kernel_rfl) (BA HO) pure_nil
theorem Hk (s:Nm) (m:Mem) (hs:s.length<=1000000):FnH Tryz.prog 155 [.v (.string (bs s))] ⟨[],[]⟩ m fun r H' _=>r= .v (yI s)/\H' =⟨[],[]⟩:=by
 refine jT (R:=fun r H' m' =>H' =⟨[],[]⟩/\r= .tup [dJ (jV s).1,.v (.int .i64 (jV s).2)]) ?_ fun r H' m' _ hr=>⟨_,fun V=>by rw[hr.2];rfl,rfl,hr.1⟩
 unfold jV;generalize hp:fT s=p
 refine br aaV Tryz.func155 ?_
 ·simp only[go_sem,yR,aB,hp];refine⟨hs,fun h=> ?_,fun h=> ?_⟩
  ·rw[ae (fun e=>h.elim (fun h=>by rw[e.1] at h;cases h) fun h=>h e.2)];rfl
  ·rw[ak h]
abbrev abB:Cfg:=eZ (fun _=>false) [(239,uK yR),(155,uK yI)]
theorem FI:cw abB Tryz.prog:=pure_cons (by kernel_rfl) (BA HO) (pure_cons (by kernel_rfl) (BA Hk) pure_nil)
theorem YB:aM Tryz.prog 181=4:=by kernel_rfl
theorem Yf:cH Tryz.prog 181=some (some 4):=by kernel_rfl
theorem Yc:fV Tryz.prog 181=true:=by kernel_rfl
theorem YA:aM Tryz.prog 127=1:=by kernel_rfl
theorem Ye:cH Tryz.prog 127=some none:=by kernel_rfl
theorem Zt:eo Tryz.prog 127=some 35:=by kernel_rfl
theorem abD:iP Tryz.prog 35=32:=by kernel_rfl
theorem US:bf Tryz.prog 181 0=some (0,none,1):=by kernel_rfl
theorem UR:bf Tryz.prog 181 1=some (1,some 3,3):=by kernel_rfl
theorem TN:cY Tryz.prog 181=some [.v (.slice none 0 0),.v (.int .i64 0),.v (.int .u8 0),.v (.string (bs []))]:=by kernel_rfl
attribute [go_sem] YB Yf Yc YA Ye Zt abD US UR TN
theorem Sb {s:Nm} (h:(fT s).2.2=true):(fT s).2.1.length<s.length:=by
 unfold fT at h ⊢;have h0:=gI (i:=(s.takeWhile (· ==91)).length) (l:=s);split at h
 ·cases h
 ·rename_i c r e;rw[e] at h0;simp only[dk] at h0;split
  ·split
   ·rename_i h1 h2;rw[ak h1,ak h2] at h;cases h
   ·simp only[gI];omega
  ·dsimp only;omega
theorem Si {R' :SV->Hp->Mem->Prop} {H' :Hp} {m' :Mem} {cs rest:List SV} {k u:Nat} {b:Vc} (i:Nat) (hi:cs[i]? =some (.vec k u)) (hb:cz H'.vc k u=some b) (H2:Hp) (s1:H2.bx.Sublist H'.bx) (s2:H2.vc.Sublist H'.vc)
  (h:∀(a:Option Addr) (c:Nat) (m1:Mem),m'.le m1->b.n<=c->aw m1 a b.n b.sz b.xs->R' (.tup (.agg (cs.set i (.v (.slice a b.n c)))::rest)) H2 m1):sS R' (.tup (.agg cs::rest)) H' m' :=by
 refine .inr ⟨fun z=> .tup (.agg (cs.set i z)::rest),k,u,b,H2,hb,?_,fun V v e=> ?_,s1,s2,h⟩
 ·obtain⟨hl,he⟩:=List.getElem?_eq_some_iff.1 hi;simp only[<- he,List.set_getElem_self]
 ·show Value.tuple ⟨Value.agg ⟨_⟩::_⟩=Value.tuple ⟨Value.agg ⟨_⟩::_⟩;rw[EI hi e]
theorem xW {α:Type} (f:α->List Value) (l:List α) (x:α):flat f (l++[x])=flat f l++f x:=by unfold flat;simp
def zh:Option (List Ty×Nm)->(Ty×List Ty)×Int
 |none=>((an,[]),13)
 |some (_,[])=>((an,[]),13)
 |some (l,_::q)=>if(jV q).2=0 then(if 16<l.length then((an,[]),5) else(((jV q).1,l),0)) else((an,[]),(jV q).2)
theorem T0 (r:Nm):fk (40::r)=zh (ud (r.length+1) [] r):=by
 rw[fk,ak rfl];unfold zh;rfl
theorem TZ {s:Nm} (h:s=[]\/¬s.getD 0 0=40):fk s=((an,[]),13):=by
 cases s with
 |nil=>rfl
 |cons c r=>
  rw[fk,ae];exact fun e=>h.elim (fun h=>by cases h) fun h=>h e
theorem TY (s:Nm) (m:Mem) (hs:s.length<=1000):FnH Tryz.prog 156 [.v (.string (bs s))] ⟨[],[]⟩ m
  (sS fun r H' m' =>af m m' /\H' =⟨[],[]⟩/\∃a c,aw m' a (fk s).1.2.length 3 (flat aB (fk s).1.2)/\(fk s).1.2.length<=c/\r= .tup [.agg [.v (.slice a (fk s).1.2.length c),.v (.int .i64 (fk s).1.1.dim),.v (.int .u8 (fk s).1.1.base),.v (.string (bs (fk s).1.1.name))],.v (.int .i64 (fk s).2)]):=by
 by_cases h0:s=[]\/¬s.getD 0 0=40
 ·rw[TZ h0];refine br FI Tryz.func156 ?_
  ·by_cases he:s=[]
   ·subst he;simp only[go_sem];exact .inl ⟨.inl rfl,rfl,none,0,⟨rfl,fun h=>absurd h (Nat.lt_irrefl 0)⟩,aC _,rfl⟩
   ·have h1:=h0.resolve_left he;have h2:(((s.getD 0 0).toNat:Int)=40)=False:=eq_false fun e=>h1 (UInt8.toNat_inj.1 (by have:(40:UInt8).toNat=40:=rfl;omega))
    have h3:0<s.length:=List.length_pos_iff.2 he;have h4:=ab he;simp only[go_sem,h2,h4];exact⟨⟨by omega,by omega⟩,.inl ⟨.inl rfl,rfl,none,0,⟨rfl,fun h=>absurd h (Nat.lt_irrefl 0)⟩,aC _,rfl⟩⟩
 ·obtain⟨r,rfl⟩:∃r,s=40::r:=by
   cases s with
   |nil=>exact absurd (.inl rfl) h0
   |cons c r=>exact⟨r,by rw[show c=40 from Classical.byContradiction fun e=>h0 (.inr e)]⟩
  clear h0;have hr:r.length<=999:=by simpa using hs
  rw[T0];generalize hK:zh (ud (r.length+1) [] r)=K
  refine br FI Tryz.func156 ?_
  ·have h40:(((UInt8.toNat 40:Nat):Int)=40)=True:=eq_true rfl;simp only[go_sem,h40];refine⟨⟨by omega,by omega⟩,⟨by omega,by omega,by omega⟩,?_⟩;refine yc 1 0 ⟨1,181,[.v (.slice none 0 0),.v (.int .i64 0),.v (.int .u8 0),.v (.string (bs []))]⟩ 35 3 (by decide) rfl rfl ?_;simp only[go_sem]
   refine gC FI (fun x:Nat×List Ty×Nm=>⟨[⟨4,[],.box 1 0⟩,⟨3,[],.v (.int .i64 0)⟩,⟨2,[],.box 0 0⟩,⟨0,[],.v (.string (bs x.2.2))⟩],[],
    [⟨1,181,[.vec 2 x.2.1.length,.v (.int .i64 0),.v (.int .u8 0),.v (.string (bs []))]⟩,⟨0,181,[.v (.slice none 0 0),.v (.int .i64 0),.v (.int .u8 0),.v (.string (bs []))]⟩],[⟨2,x.2.1.length,35,3,x.2.1.length,flat aB x.2.1⟩],3,m⟩)
    (fun x=>x.2.2.length<x.1/\x.2.1.length+x.2.2.length<=999/\zh (ud x.1 x.2.1 x.2.2)=K) (fun x=>x.2.2.length) (r.length+1,[],r) (fun _ _=>aZ rfl) (fun _ _=> .inl rfl) ?_ ?_ ?_
   ·simp only[go_sem];rfl
   ·exact⟨Nat.lt_succ_self _,by simpa using hr,hK⟩
   ·rintro⟨f,acc,q⟩ ⟨i1,i2,i3⟩;dsimp only at i1 i2 i3;cases f with
    |zero=>omega
    |succ f=>
     cases q with
     |nil=>
      rw[ud] at i3;simp only[go_sem];rw[<- i3];exact .inl ⟨.inl rfl,rfl,none,0,⟨rfl,fun h=>absurd h (Nat.lt_irrefl 0)⟩,aC _,rfl⟩
     |cons c q=>
      rw[ud] at i3;by_cases xD:c=41
      ·rw[ak xD] at i3;subst xD;have xD:(((UInt8.toNat 41:Nat):Int)=41)=True:=eq_true rfl;refine Exists.elim (⟨_,rfl⟩:∃p,jV q=p) fun p hp=> ?_
       have hS:zh (some (acc,41::q))=if p.2=0 then(if 16<acc.length then((an,[]),5) else((p.1,acc),0)) else((an,[]),p.2):=by rw[<- hp];rfl
       rw[hS] at i3;clear hS;simp only[go_sem,xD,yI,aB,hp];simp only[dk] at i2;refine⟨⟨by omega,by omega⟩,⟨by omega,by omega,by omega⟩,by omega,fun h0=> ?_,fun h0=>⟨fun h1=> ?_,fun h1=> ?_⟩⟩
       ·rw[ae h0] at i3;rw[<- i3];exact .inl ⟨.inl rfl,rfl,none,0,⟨rfl,fun h=>absurd h (Nat.lt_irrefl 0)⟩,aC _,rfl⟩
       ·rw[ak h0,ak (by omega)] at i3;rw[<- i3];exact .inl ⟨.inl rfl,rfl,none,0,⟨rfl,fun h=>absurd h (Nat.lt_irrefl 0)⟩,aC _,rfl⟩
       ·rw[ak h0,ae (by omega)] at i3;rw[<- i3];exact Si (b:=⟨2,acc.length,35,3,acc.length,flat aB acc⟩) 0 rfl (by simp [cz]) ⟨[],[]⟩ (List.Sublist.refl _) (List.nil_sublist _) fun a c m1 h1 h2 h3=>⟨.inr h1,rfl,a,c,h3,h2,rfl⟩
      ·rw[ae xD] at i3;have abg:((c.toNat:Int)=41)=False:=eq_false fun e=>xD (UInt8.toNat_inj.1 (by have:(41:UInt8).toNat=41:=rfl;omega))
       refine Exists.elim (⟨_,rfl⟩:∃p,fT (c::q)=p) fun p hp=> ?_
       have aj:=Sb (s:=c::q);rw[hp] at i3 aj;simp only[go_sem,abg,yR,aB,hp];simp only[dk] at i2 i1 aj;refine⟨⟨by omega,by omega⟩,by omega,fun h0=> ?_,fun h0=>⟨jz (by omega) (by decide),(f,acc++[p.1],p.2.1),⟨rfl,?_,?_,?_,?_⟩,⟨?_,?_,?_⟩,?_⟩⟩
       ·rw[ae (fun e=>h0.elim (fun h=>by rw[e.1] at h;cases h) fun h=>e.2 h)] at i3;rw[<- i3];exact .inl ⟨.inl rfl,rfl,none,0,⟨rfl,fun h=>absurd h (Nat.lt_irrefl 0)⟩,aC _,rfl⟩
       ·rw[bc];rfl
       ·rw[bc];rfl
       ·rw[bc];rfl
       ·rw[xW];rfl
       ·have:=aj h0.1;show p.2.1.length<f;omega
       ·have:=aj h0.1;show(acc++[p.1]).length+p.2.1.length<=999;rw[bc,nJ];omega
       ·rw[ak h0] at i3;exact i3
       ·have:=aj h0.1;show p.2.1.length<q.length+1;omega
section
variable {P:Program}
theorem V8 {f:FuncId} {args:List SV} {H:Hp} {m:Mem} {R R' :SV->Hp->Mem->Prop} (h:FnH P f args H m R)
  (hR:∀r H' m',m.le m' ->R r H' m' ->∃(k j:Nat) (t:TypeId) (x:Value) (l:List Value),t<gv/\r= .box k 0/\H' =⟨[⟨k,t,[.v x,.mp j]⟩,⟨j,1000002,l.map .v⟩],[]⟩/\
   ∀(p y:Value) (m1:Mem),m'.le m1->Rd m1 p [x,y]->nI m1 1000002 y l->R' (.v p) ⟨[],[]⟩ m1):FnH P f args H m R' :=by
 intro V w D eg hle hH;refine(h V w D eg hle hH).mono ?_;rintro e w' ⟨r,V',D',H',m',e1,e2,e3,e4,e5,e6,e7,e8,e9,cn,cu⟩;obtain⟨k,j,t,x,l,ht,rfl,rfl,hK⟩:=hR r H' m' e9 cu;obtain⟨⟨o,h1,h2⟩,h3⟩:=e3.bx ⟨k,t,[.v x,.mp j]⟩ (bN ..);obtain⟨⟨o',g1,g2⟩,g3⟩:=e3.bx ⟨j,1000002,l.map .v⟩ (bw _ (List.mem_singleton.2 rfl));have xE:=yj ht h2;subst xE;dsimp only at h1 h3 g1 g2 g3;rw[lI] at g2;unfold gP at g2;rw[ae (by decide)] at g2;obtain⟨es,fF,ps,rfl,q1,q2,q3⟩:=g2;have ft:=e3.apart;unfold aE at ft;simp only[aG,List.map_nil,List.filterMap_nil,List.append_nil,List.nodup_cons,List.mem_singleton] at ft;have b9:V'.β k≠V'.β j:=ft.1;have aj:∀{b:Nat} {o:Obj},w'.heap[b]? =some o->b<w'.heap.size:=fun{b o} hb=>by
  by_cases q:b<w'.heap.size
  ·exact q
  ·rw[Array.getElem?_eq_none (by omega)] at hb;cases hb
 have hk:=aj h1;have hj:=aj g1;obtain⟨D2,hDk,C0,hD2⟩:∃D2:Nat->Nat,D2 (V'.β k)=2/\D2 (V'.β j)=1/\∀x,x≠V'.β k->x≠V'.β j->D2 x=D' x:=
  ⟨fun x=>if x=V'.β k then 2 else if x=V'.β j then 1 else D' x,ak rfl,by dsimp only;rw[ae b9.symm,ak rfl],fun x hx hy=>by dsimp only;rw[ae hx,ae hy]⟩
 have lu:Wf w' D2:=fun x hx=>by
  rw[hD2 x (by omega) (by omega)];exact e2 x hx
 have bH:Mem.le ⟨w',D'⟩ ⟨w',D2⟩:=fun x=>by
  refine⟨?_,fun h0=>((Bn e2) x).2 h0⟩;dsimp only;by_cases q:x=V'.β k
  ·rw[q,h3];exact aF _
  ·by_cases q2:x=V'.β j
   ·rw[q2,g3];exact aF _
   ·rw[hD2 x q q2];exact aC _
 have abc:∀x,x<w.heap.size->¬x∈aE V H->x≠V'.β k/\x≠V'.β j:=fun x hx hF=>by
  constructor<;>intro e
  ·rcases e7 x (by unfold aE;simp only[aG,List.map_nil,List.filterMap_nil,List.append_nil,List.mem_cons,List.not_mem_nil,or_false];exact .inl e) with q |q
   ·exact hF q
   ·omega
  ·rcases e7 x (by unfold aE;simp only[aG,List.map_nil,List.filterMap_nil,List.append_nil,List.mem_cons,List.not_mem_nil,or_false];exact .inr e) with q |q
   ·exact hF q
   ·omega
 refine⟨.v (.pointer (some ⟨V'.β k,0,none⟩)),V',D2,⟨[],[]⟩,⟨w',D2⟩,e1,lu,⟨fun x hx=>(by cases hx),fun x hx=>(by cases hx),by simp [aE],by simp⟩,fun x hx=>e4 x hx,e5,⟨e6.os,e6.tape,e6.output,e6.size,fun x hx hF=> ?_⟩,fun x hx=>(by simp [aE] at hx),Mem.le_trans e8 bH,Mem.le_trans e9 (Mem.le_trans cn bH),Bn lu,
  hK _ (.map (some (V'.β j))) _ (Mem.le_trans cn bH) ⟨_,rfl,rfl,fun i hi=> ?_⟩ ⟨_,es,fF,ps,rfl,g1,by dsimp only;rw[C0];exact Nat.zero_lt_one,q1,q2,q3⟩⟩
 ·obtain⟨q1,q2⟩:=e6.same x hx hF;refine⟨q1,?_⟩;obtain⟨n1,n2⟩:=abc x hx hF;rw[hD2 _ n1 n2];exact q2
 ·rw[Addr.add_lit];simp only[dk,pU] at hi;refine⟨?_,?_⟩
  ·show w'.cell? ⟨V'.β k,0+i,none⟩=_;rw[Nat.zero_add];simp [World.cell?,h1];rfl
  ·show 0+i<D2 (V'.β k);rw[hDk];omega
end
theorem Yr {m m' :Mem} {g:Nat} {y:Value} {l:List Value} (hle:m.le m') (h:nI m g y l):nI m' g y l:=by
 obtain⟨b,es,fF,ps,h1,h2,h3,h4,h5,h6⟩:=h;have hk:=((hle b).2 h3).2;rw[h2] at hk;exact⟨b,es,fF,ps,h1,hk,dt h3 (hle b).1,h4,h5,h6⟩
theorem V4 {m m' :Mem} {g:Nat} {y:Value} {l:List Value} (hle:af m m') (h:nI m g y l):nI m' g y l:=by
 rcases hle with e |e
 ·rw[<- e];exact h
 ·exact Yr e h
theorem Ys {m:Mem} {g:Nat} {y:Value} {l l' :List Value} (h:nI m g y l) (h' :nI m g y l'):l=l' :=by
 obtain⟨b,es,fF,ps,rfl,h2,h3,rfl,rfl,h6⟩:=h;obtain⟨b',tm,uD,ps',q1,q2,q3,rfl,rfl,q6⟩:=h';cases q1;rw[h2] at q2;cases q2;rfl
theorem fK {m:Mem} {g:Nat} {y:Value} {l:List Value} (h:nI m g y l) {K:List Value->Prop}:(∃l,nI m g y l/\K l)=K l:=
 propext ⟨fun⟨l',h',hK⟩=>by rw[Ys h h'];exact hK,fun hK=>⟨l,h,hK⟩⟩
structure Ck (m:Mem) (ad:Addr) (pr E:List Cd) (b:Nat) (a:Option Addr) (c:Nat) (L:List Cc):Prop where
 rd:Rd m (.pointer (some ad)) [.slice a pr.length c,.map (some b)]
 pr:fi m pr a pr.length c
 rm:nI m 1000002 (.map (some b)) (lh L)
 mp:MpR m E L
 fw:E.length<=1100000
theorem oV {m m' :Mem} {x:Value} {cs:List Value} (hle:af m m') (h:Rd m x cs):Rd m' x cs:=by
 rcases hle with e |e
 ·rw[<- e];exact h
 ·exact Mq e h
theorem Ck.up {m m' :Mem} {ad:Addr} {pr E:List Cd} {b:Nat} {a:Option Addr} {c:Nat} {L:List Cc} (hle:af m m') (h:Ck m ad pr E b a c L):Ck m' ad pr E b a c L:=
 ⟨oV hle h.rd,jv hle h.pr,V4 hle h.rm,h.mp.up hle,h.fw⟩
def ChkR (m:Mem) (p:Value) (pr E:List Cd):Prop:=∃ad b a c L,p= .pointer (some ad)/\Ck m ad pr E b a c L
theorem ChkR.up {m m' :Mem} {p:Value} {pr E:List Cd} (hle:af m m') (h:ChkR m p pr E):ChkR m' p pr E:=by
 obtain⟨ad,b,a,c,L,e,h⟩:=h;exact⟨ad,b,a,c,L,e,h.up hle⟩
theorem Ck.chk {m:Mem} {ad:Addr} {pr E:List Cd} {b:Nat} {a:Option Addr} {c:Nat} {L:List Cc} (h:Ck m ad pr E b a c L):ChkR m (.pointer (some ad)) pr E=True:=eq_true ⟨ad,b,a,c,L,rfl,h⟩
theorem lD {m:Mem} {x:Value} {cs:List Value} (h:Rd m x cs):mU x=True:=eq_true (h.elim fun a ha=>⟨a,ha.1⟩)
theorem tR {m:Mem} {x:Value} {cs:List Value} (h:Rd m x cs) (o n:Nat) (hn:o+n<=cs.length):Rd m (vZ x o) ((cs.drop o).take n):=by
 obtain⟨a,rfl,hs,hc⟩:=h;obtain⟨e1,e2,e3⟩:=kU a o hs;refine⟨a.add o,rfl,e3,fun j hj=> ?_⟩;rw[List.length_take,gI] at hj;obtain⟨h1,h2⟩:=hc (o+j) (by omega);obtain⟨f1,f2,f3⟩:=kU (a.add o) j e3;obtain⟨g1,g2,g3⟩:=kU a (o+j) hs;have Ak:(a.add o).add j=a.add (o+j):=Addr.add_add a o j;rw[Ak];refine⟨?_,?_⟩
 ·rw[h1,List.getElem?_take,ak (by omega),List.getElem?_drop]
 ·rw[e1,e2];omega
theorem Mr {m:Mem} {x:Value} {cs bh:List Value} (h:Rd m x cs) (h' :Rd m x bh) (hl:cs.length=bh.length):cs=bh:=by
 obtain⟨a,rfl,_,hc⟩:=h;obtain⟨a',e,_,oE⟩:=h';cases e;refine List.ext_getElem? fun j=> ?_
 by_cases hj:j<cs.length
 ·rw[<- (hc j hj).1,(oE j (by omega)).1]
 ·rw[List.getElem?_eq_none (by omega),List.getElem?_eq_none (by omega)]
theorem Gf {m:Mem} {x v:Value} (h:Rd m x [v]) {K:Value->Prop}:(∃c,Rd m x [c]/\K c)=K v:=
 propext ⟨fun⟨c,h',hK⟩=>by
  have:=Mr h h' rfl;cases this
  exact hK,fun hK=>⟨v,h,hK⟩⟩
theorem cC {m:Mem} {x:Value} {cs:List Value} {n:Nat} (h:Rd m x cs) (hn:cs.length=n) {K:List Value->Prop}:(∃c,(Rd m x c/\c.length=n)/\K c)=K cs:=
 propext ⟨fun⟨c,⟨h',hl⟩,hK⟩=>by rw[Mr h h' (by omega)];exact hK,fun hK=>⟨cs,⟨h,hn⟩,hK⟩⟩
theorem r9 {m:Mem} {x:Value} {cs:List Value} (h:Rd m x cs) {j:Nat} {v:Value} (hv:cs[j]? =some v) {K:Value->Prop}:(∃c,Rd m (vZ x j) [c]/\K c)=K v:=by
 refine Gf ?_;have hl:=(List.getElem?_eq_some_iff.1 hv).1;have:=tR h j 1 (by omega);rwa [List.drop_eq_getElem_cons hl,List.take_succ_cons,List.take_zero,(List.getElem?_eq_some_iff.1 hv).2] at this
theorem cj {m:Mem} {ad:Addr} {cs:List Value} (h:Rd m (.pointer (some ad)) cs) {j:Nat} {v:Value} (hv:cs[j]? =some v) {K:Value->Prop}:(∃c,Rd m (bk (some ad) j) [c]/\K c)=K v:=r9 h hv
theorem HU (ad:Addr):mU (.pointer (some ad))=True:=eq_true ⟨ad,rfl⟩
theorem Qz (ad:Addr):(pq (.pointer (some ad))=true)=True:=eq_true rfl
attribute [go_sem] HU Qz
structure CmB (u:Cm):Prop where
 fn:u.fields.length<=1000
 mn:u.methods.length<=1000
 fd:∀f∈u.fields,f.desc.length<=1000
 md:∀f∈u.methods,f.desc.length<=1000
 ok:CdOk (sv u)
 mo:∀f∈u.methods,MdOk (zb f)
theorem Me {m:Mem} {a:Option Addr} {l:List Mb} {xs:List Value} {z:Nat} (h:aw m a l.length (z+3) xs) (hr:dZ (BO z) (z+3) l xs) {k:Nat} (hk:k<l.length):
  a≠none/\∃t,Rd m (bk a (k * (z+3))) (.int .i64 l[k].fl:: .string (bs l[k].name):: .string (bs l[k].desc)::t)/\t.length=z/\(t.all fun v=>v.oneCell')=true:=by
 obtain⟨h1,h2⟩:=dM h hk;obtain⟨t,e,ht⟩:=oY hr hk;rw[e] at h1;exact⟨h2,t,h1,ht⟩
theorem vE {α:Type} (l:List α) {k:Nat} (hk:k<l.length):l.take (k+1)=l.take k++[l[k]]:=List.take_succ_eq_append_getElem hk
theorem Uz {α β:Type} (f:α->β) (l:List α) {k:Nat} (hk:k<=l.length):((l.take k).map f).length=k:=by rw[List.length_map,List.length_take];omega
theorem abJ:iP Tryz.prog 40=56:=by kernel_rfl
theorem abG:iP Tryz.prog 45=112:=by kernel_rfl
theorem abE:iP Tryz.prog 95=48:=by kernel_rfl
attribute [go_sem] abJ abG abE
theorem RP (s:Nm):(fk s).1.2.length<=16:=by
 unfold fk;split
 ·exact aF _
 ·split
  ·split
   ·exact aF _
   ·exact aF _
   ·split
    ·split
     ·exact aF _
     ·dsimp only;omega
    ·exact aF _
  ·exact aF _
theorem RO (s:Nm) (m:Mem) (hs:s.length<=1000):FnH Tryz.prog 156 [.v (.string (bs s))] ⟨[],[]⟩ m
  fun r H' m' =>af m m' /\H' =⟨[],[]⟩/\∃a c,aw m' a (fk s).1.2.length 3 (flat aB (fk s).1.2)/\(fk s).1.2.length<=c/\r= .tup [.agg [.v (.slice a (fk s).1.2.length c),.v (.int .i64 (fk s).1.1.dim),.v (.int .u8 (fk s).1.1.base),.v (.string (bs (fk s).1.1.name))],.v (.int .i64 (fk s).2)]:=
 nQ (TY s m hs)
abbrev MX:Cfg:=eZ (fun _=>false) [(155,uK yI)]
theorem B4:cw MX Tryz.prog:=pure_cons (by kernel_rfl) (BA Hk) pure_nil
theorem Tg (u:Cm) (cs:List Value) (m:Mem) (hB:CmB u) (h:sA m u cs):FnH Tryz.prog 66 [.v (.agg ⟨cs⟩)] ⟨[],[]⟩ m
    (sS (sS fun r H' m' =>af m m' /\H' =⟨[],[]⟩/\∃X:Cc,r= .agg (X.cs.map .v)/\X.name=u.name/\gO m' (sv u) X.cs)):=by
  obtain⟨fa,ma,fc,mc,xf,xm,rfl,⟨h1,h2⟩,⟨h3,h4⟩,h5,h6⟩:=h;refine enter MX B4 Tryz.func66 rfl rfl (by kernel_rfl) rfl ?_ ?_
  · simp only[go_sem,eK]
  · simp only[go_sem,eK]
    have hF:=fun k hk=>Me h3 h4 (k:=k) hk
    have hM:=fun k hk=>Me h5 h6 (k:=k) hk
    clear h3 h4 h5 h6;refine yc 2 4 ⟨2,33,[.v (.int .i64 u.fl),.v (.string (bs u.name)),.v (.string (bs u.super)),.v (.slice none 0 0),.v (.slice none 0 0),.v (.slice none 0 0),.v (.slice none 0 0)]⟩ 40 5 (by decide) rfl rfl ?_;simp only[go_sem]
    refine cq B4 (fun k:Nat=>⟨[⟨27,[],.v (.int .i64 k)⟩,⟨26,[],.v (.int .i64 u.fields.length)⟩,⟨25,[],.v (.slice fa u.fields.length fc)⟩,⟨3,[],.box 2 0⟩,⟨2,[],.box 1 0⟩,⟨1,[],.box 0 0⟩],[],
      [⟨2,33,[.v (.int .i64 u.fl),.v (.string (bs u.name)),.v (.string (bs u.super)),.v (.slice none 0 0),.vec 3 k,.v (.slice none 0 0),.v (.slice none 0 0)]⟩,
       ⟨1,33,[.v (.int .i64 0),.v (.string (bs [])),.v (.string (bs [])),.v (.slice none 0 0),.v (.slice none 0 0),.v (.slice none 0 0),.v (.slice none 0 0)]⟩,
       ⟨0,107,[.v (.int .i64 u.fl),.v (.string (bs u.name)),.v (.string (bs u.super)),.v (.slice none 0 0),.v (.slice fa u.fields.length fc),.v (.slice ma u.methods.length mc),.v (.string (bs []))]⟩],
       [⟨3,k,40,5,k,flat Fc.cs ((u.fields.take k).map wE)⟩],4,m⟩)
      (fun k=>k<=u.fields.length) (fun k=>u.fields.length - k) 0 (by kernel_rfl) (fun _ _=>aZ rfl) (fun _ _=> .inl rfl) (fun _=> ?_) ?_ (aF _) ?_
    · simp only[go_sem]
    · simp only[go_sem]
      exact⟨rfl,rfl⟩
    · intro k hk
      by_cases aj:k<u.fields.length
      · have hc:((k:Int)<(u.fields.length:Int))=True:=eq_true (by omega)
        have hd:=hB.fd _ (List.getElem_mem aj);refine Exists.elim (hF k aj).2 fun t ht=> ?_
        have aI:bS fa u.fields.length (k:Int)=True:=eq_true ⟨by omega,by omega,(hF k aj).1⟩;have au:= @cC _ _ _ 6 ht.1 (by rw[dk,dk,dk,ht.2.1]);clear hF hM;match t,ht with
        |[t1,t2,t3],ht=>
        have e1:(wE u.fields[k]).cs=[.int .i64 u.fields[k].fl,.int .i64 (jV u.fields[k].desc).1.dim,.int .u8 (jV u.fields[k].desc).1.base,.string (bs (jV u.fields[k].desc).1.name),.string (bs u.fields[k].name)]:=rfl;have ho:t1.oneCell' =true/\t2.oneCell' =true/\t3.oneCell' =true:=by simpa using ht.2.2
        simp only[go_sem,hc,aI,au,yI,aB,ho.1,ho.2.1,ho.2.2];refine⟨by omega,jz (by have:=hB.fn;omega) (by decide),by unfold az;have:=hB.fn;omega,k+1,⟨by omega,rfl,rfl,rfl,?_⟩,aj,by omega⟩;rw[vE _ aj,List.map_append,List.map_singleton,xW,e1]
      · obtain rfl:k=u.fields.length:=by omega
        have hc:((u.fields.length:Int)<(u.fields.length:Int))=False:=eq_false (by omega);clear hF aj;simp only[go_sem,hc,List.take_length];refine yc 2 5 ⟨2,33,[.v (.int .i64 u.fl),.v (.string (bs u.name)),.v (.string (bs u.super)),.v (.slice none 0 0),.vec 3 u.fields.length,.v (.slice none 0 0),.v (.slice none 0 0)]⟩ 45 8 (by decide) rfl rfl ?_;simp only[go_sem]
        refine cq B4 (fun x:Nat×List Value×Mem=>⟨[⟨52,[],.v (.int .i64 x.1)⟩,⟨51,[],.v (.int .i64 u.methods.length)⟩,⟨50,[],.v (.slice ma u.methods.length mc)⟩,⟨3,[],.box 2 0⟩,⟨2,[],.box 1 0⟩,⟨1,[],.box 0 0⟩],[],
          [⟨2,33,[.v (.int .i64 u.fl),.v (.string (bs u.name)),.v (.string (bs u.super)),.v (.slice none 0 0),.vec 3 u.fields.length,.vec 4 x.1,.v (.slice none 0 0)]⟩,
           ⟨1,33,[.v (.int .i64 0),.v (.string (bs [])),.v (.string (bs [])),.v (.slice none 0 0),.v (.slice none 0 0),.v (.slice none 0 0),.v (.slice none 0 0)]⟩,
           ⟨0,107,[.v (.int .i64 u.fl),.v (.string (bs u.name)),.v (.string (bs u.super)),.v (.slice none 0 0),.v (.slice fa u.fields.length fc),.v (.slice ma u.methods.length mc),.v (.string (bs []))]⟩],
           [⟨4,x.1,45,8,x.1,x.2.1⟩,⟨3,u.fields.length,40,5,u.fields.length,flat Fc.cs (u.fields.map wE)⟩],5,x.2.2⟩)
          (fun x=>af m x.2.2/\x.1<=u.methods.length/\x.2.1.length=x.1 * 8/\dZ (ig x.2.2) 8 ((u.methods.take x.1).map zb) x.2.1) (fun x=>u.methods.length - x.1) (0,[],m) (by kernel_rfl) (fun _ _=>aZ rfl) (fun x hx=>hx.1) (fun _=> ?_) ?_ ⟨.inl rfl,aF _,rfl,trivial⟩ ?_
        · simp only[go_sem]
        · simp only[go_sem]
          exact rfl
        · rintro⟨k,ys,mm⟩ ⟨i1,i2,i3,i4⟩
          dsimp only at i1 i2 i3 i4;by_cases aj:k<u.methods.length
          · have hc:((k:Int)<(u.methods.length:Int))=True:=eq_true (by omega)
            have hd:=hB.md _ (List.getElem_mem aj);refine Exists.elim (hM k aj).2 fun t ht=> ?_
            have aI:bS ma u.methods.length (k:Int)=True:=eq_true ⟨by omega,by omega,(hM k aj).1⟩;have au:= @cC _ _ _ 11 (oV i1 ht.1) (by rw[dk,dk,dk,ht.2.1]);clear hM;match t,ht with
            |[t1,t2,t3,t4,t5,t6,t7,t8],ht=>
            have ho:t1.oneCell' =true/\t2.oneCell' =true/\t3.oneCell' =true/\t4.oneCell' =true/\t5.oneCell' =true/\t6.oneCell' =true/\t7.oneCell' =true/\t8.oneCell' =true:=by simpa using ht.2.2
            refine Exists.elim (⟨_,rfl⟩:∃g,fk u.methods[k].desc=g) fun g hg=> ?_
            have hS:=RO u.methods[k].desc mm hd;rw[hg] at hS;simp only[go_sem,hc,aI,au,ho.1,ho.2.1,ho.2.2.1,ho.2.2.2.1,ho.2.2.2.2.1,ho.2.2.2.2.2.1,ho.2.2.2.2.2.2.1,ho.2.2.2.2.2.2.2];refine ai (hS.mono ?_);clear hS au;rintro r H' m1 aR ⟨l1,rfl,ga,gc,g1,g2,rfl⟩;simp only[go_sem];clear hd hc aI ho;refine yc 7 5 ⟨7,45,[.v (.int .i64 u.methods[k].fl),.v (.int .i64 g.1.1.dim),.v (.int .u8 g.1.1.base),.v (.string (bs g.1.1.name)),.v (.string (bs u.methods[k].name)),.v (.slice none 0 0),.v (.bool true),.v (.slice none 0 0)]⟩ 95 4 (by decide) rfl rfl ?_;simp only[go_sem]
            refine cq B4 (fun j:Nat=>⟨[⟨72,[],.v (.int .i64 j)⟩,⟨71,[],.v (.int .i64 g.1.2.length)⟩,⟨70,[],.v (.slice ga g.1.2.length gc)⟩,⟨12,[],.box 7 0⟩,⟨52,[],.v (.int .i64 k)⟩,⟨51,[],.v (.int .i64 u.methods.length)⟩,⟨50,[],.v (.slice ma u.methods.length mc)⟩,⟨3,[],.box 2 0⟩,⟨2,[],.box 1 0⟩,⟨1,[],.box 0 0⟩],[],
              [⟨7,45,[.v (.int .i64 u.methods[k].fl),.v (.int .i64 g.1.1.dim),.v (.int .u8 g.1.1.base),.v (.string (bs g.1.1.name)),.v (.string (bs u.methods[k].name)),.vec 8 j,.v (.bool true),.v (.slice none 0 0)]⟩,
               ⟨2,33,[.v (.int .i64 u.fl),.v (.string (bs u.name)),.v (.string (bs u.super)),.v (.slice none 0 0),.vec 3 u.fields.length,.vec 4 k,.v (.slice none 0 0)]⟩,
               ⟨1,33,[.v (.int .i64 0),.v (.string (bs [])),.v (.string (bs [])),.v (.slice none 0 0),.v (.slice none 0 0),.v (.slice none 0 0),.v (.slice none 0 0)]⟩,
               ⟨0,107,[.v (.int .i64 u.fl),.v (.string (bs u.name)),.v (.string (bs u.super)),.v (.slice none 0 0),.v (.slice fa u.fields.length fc),.v (.slice ma u.methods.length mc),.v (.string (bs []))]⟩],
               [⟨8,j,95,4,j,flat Pc.cs ((g.1.2.take j).map fun t=>⟨t,[]⟩)⟩,⟨4,k,45,8,k,ys⟩,⟨3,u.fields.length,40,5,u.fields.length,flat Fc.cs (u.fields.map wE)⟩],9,m1⟩)
              (fun j=>j<=g.1.2.length) (fun j=>g.1.2.length - j) 0 (by kernel_rfl) (fun _ _=>aZ rfl) (fun _ _=> .inl rfl) (fun _=> ?_) ?_ (aF _) ?_
            · simp only[go_sem]
            · simp only[go_sem]
              exact⟨rfl,rfl⟩
            · intro j hj
              have adU:g.1.2.length<=16:=by rw[<- hg];exact RP _
              by_cases iz:j<g.1.2.length
              · have hc:((j:Int)<(g.1.2.length:Int))=True:=eq_true (by omega)
                have dE:=dM g1 iz;rw[mK (f:=aB) (sz:=3) (fun _=>rfl) iz] at dE;have aI:bS ga g.1.2.length (j:Int)=True:=eq_true ⟨by omega,by omega,dE.2⟩;have au:= @cC _ _ _ 3 dE.1 rfl;simp only[go_sem,hc,aI,au,aB];refine⟨jz (by omega) (by decide),by unfold az;omega,j+1,⟨by omega,rfl,rfl,rfl,?_⟩,iz,by omega⟩;rw[vE _ iz,List.map_append,List.map_singleton,xW];rfl
              · have hc:((j:Int)<(g.1.2.length:Int))=False:=eq_false (by omega)
                simp only[go_sem,hc];have hmn:=hB.mn;have uX:=hB.mo _ (List.getElem_mem aj);have Gx:j=g.1.2.length:=by clear uX;omega
                intro a c m2 e1 e2 e3
                refine⟨jz (by clear uX;omega) (by decide),by unfold az;clear uX;omega,(k+1,ys++[Value.int .i64 u.methods[k].fl,.int .i64 g.1.1.dim,.int .u8 g.1.1.base,.string (bs g.1.1.name),.string (bs u.methods[k].name),.slice a j c,.bool true,.slice none 0 0],m2),
                  ⟨by omega,rfl,⟨rfl,rfl,rfl⟩,.inl rfl⟩,⟨aa i1 (aa l1 (.inr e1)),aj,?_,?_⟩,by clear uX;omega⟩
                · rw[bc,i3]
                  simp only[dk,pU];omega
                · rw[Gx,List.take_length] at e3
                  subst hg;dsimp only;rw[vE _ aj,List.map_append,List.map_singleton];refine v7 (l2:=[zb u.methods[k]]) ⟨⟨⟨u.methods[k].fl,(fk u.methods[k].desc).1.1,u.methods[k].name,a,j,c,true,none,0,0⟩,⟨rfl,rfl,rfl,rfl,rfl⟩,⟨by rw[Gx];exact(List.length_map _).symm,e2,rfl,aC _⟩,uX,?_,[],⟨rfl,fun h=>absurd h (Nat.lt_irrefl 0)⟩,trivial⟩,trivial⟩ ?_ (jf (fun _ _=>lA (aa l1 (.inr e1))) i4)
                  · rw[i3,Uz _ _ i2]
                  · show aw m2 a j 4 _
                    rw[Gx];exact e3
          · obtain rfl:k=u.methods.length:=by omega
            have hc:((u.methods.length:Int)<(u.methods.length:Int))=False:=eq_false (by omega);rw[List.take_length] at i4;clear hM;simp only[go_sem,hc];refine tO (b:=⟨3,u.fields.length,40,5,u.fields.length,flat Fc.cs (u.fields.map wE)⟩) 4 rfl (by simp [cz]) ⟨[],[⟨4,u.methods.length,45,8,u.methods.length,ys⟩]⟩ (List.Sublist.refl _) (.cons_cons _ (.cons _ (List.Sublist.refl _))) fun a1 c1 m1 e1 e2 e3=> ?_
            refine tO (b:=⟨4,u.methods.length,45,8,u.methods.length,ys⟩) 5 rfl (by simp [cz]) ⟨[],[]⟩ (List.Sublist.refl _) (.cons _ (List.Sublist.refl _)) fun a2 c2 m2 f1 f2 f3=> ?_
            have hle:af m m2:=aa i1 (aa (.inr e1) (.inr f1));refine⟨hle,rfl,⟨u.fl,u.name,u.super,none,0,0,a1,u.fields.length,c1,a2,u.methods.length,c2,none,0,0⟩,rfl,rfl,_,⟨rfl,rfl,rfl,rfl⟩,⟨rfl,aC _,(List.length_map _).symm,e2,(List.length_map _).symm,f2,rfl,aC _⟩,hB.ok,⟨rfl,fun h=>absurd h (Nat.lt_irrefl 0)⟩,aN (.inr f1) e3,ys,[],f3,jf (fun _ _=>lA (aa (.inr e1) (.inr f1))) i4,⟨rfl,fun h=>absurd h (Nat.lt_irrefl 0)⟩,trivial⟩
theorem Q4 (u:Cm) (cs:List Value) (m:Mem) (hB:CmB u) (h:sA m u cs):FnH Tryz.prog 66 [.v (.agg ⟨cs⟩)] ⟨[],[]⟩ m
  fun r H' m' =>af m m' /\H' =⟨[],[]⟩/\∃X:Cc,r= .v (.agg ⟨X.cs⟩)/\X.name=u.name/\gO m' (sv u) X.cs:=by
 refine jT (nQ (nQ (Tg u cs m hB h))) ?_;rintro r H' m' hm ⟨h1,h2,X,rfl,h3,h4⟩;exact⟨.v (.agg ⟨X.cs⟩),fun V=>by show Value.agg ⟨X.cs⟩=Value.agg ⟨_⟩;rw[lI],h1,h2,X,rfl,h3,h4⟩
def uv (n:Int):Bool:=decide (-9223372036854775808<=n/\n<=9223372036854775807)
def zI (t:Ty):Bool:=uv t.dim&&(decide (0<=t.base/\t.base<256)&&decide (t.name.length<=ay))
theorem E5 {t:Ty} (h:zI t=true):uE t:=by
 simp only[zI,uv,bB,cE] at h;exact⟨h.1,h.2.1,h.2.2⟩
def Ge (d:Md):Bool:=uv d.fl&&(zI d.res&&(decide (d.name.length<=ay)&&(decide (d.params.length<=ay)&&(d.params.all (fun p=>zI p.ty&&decide (p.name.length<=ay))&&decide (d.body.length<=ay)))))
theorem WZ {d:Md} (h:Ge d=true):MdOk d:=by
 simp only[Ge,uv,bB,cE,List.all_eq_true] at h;exact⟨h.1,E5 h.2.1,h.2.2.1,h.2.2.2.1,fun p hp=>⟨E5 (h.2.2.2.2.1 p hp).1,(h.2.2.2.2.1 p hp).2⟩,h.2.2.2.2.2⟩
def F4 (d:Cd):Bool:=uv d.fl&&(decide (d.name.length<=ay)&&(decide (d.super.length<=ay)&&(decide (d.ifs=[])&&(decide (d.fields.length<=ay)&&(d.fields.all (fun f=>uv f.fl&&(zI f.ty&&decide (f.name.length<=ay)))&&(decide (d.methods.length<=ay)&&decide (d.init.length<=ay)))))))
theorem VQ {d:Cd} (h:F4 d=true):CdOk d:=by
 simp only[F4,uv,bB,cE,List.all_eq_true] at h;obtain⟨h1,h2,h3,h4,h5,h6,h7,h8⟩:=h;exact⟨h1,h2,h3,by rw[h4];exact aF _,fun s hs=>(by rw[h4] at hs;cases hs),h5,fun f hf=>⟨(h6 f hf).1,E5 (h6 f hf).2.1,(h6 f hf).2.2⟩,h7,h8⟩
def GZ (u:Cm):Bool:=decide (u.fields.length<=1000)&&(decide (u.methods.length<=1000)&&(u.fields.all (fun f=>decide (f.desc.length<=1000))&&(u.methods.all (fun f=>decide (f.desc.length<=1000))&&(F4 (sv u)&&u.methods.all fun f=>Ge (zb f)))))
theorem X5 {u:Cm} (h:GZ u=true):CmB u:=by
 simp only[GZ,bB,cE,List.all_eq_true] at h;obtain⟨h1,h2,h3,h4,h5,h6⟩:=h;exact⟨h1,h2,h3,h4,VQ h5,fun f hf=>WZ (h6 f hf)⟩
theorem SF:df.all GZ=true:=by kernel_rfl
theorem Za:∀u∈df,CmB u:=fun u hu=>X5 (List.all_eq_true.1 SF u hu)
theorem aaN:aM Tryz.prog 100=2:=by kernel_rfl
theorem XV:bf Tryz.prog 100 0=some (0,none,1):=by kernel_rfl
theorem XU:bf Tryz.prog 100 1=some (1,none,1):=by kernel_rfl
theorem aab:cH Tryz.prog 98=some none:=by kernel_rfl
theorem aaj:cH Tryz.prog 100=some (some 2):=by kernel_rfl
theorem Z0:fV Tryz.prog 100=true:=by kernel_rfl
theorem Wm:cY Tryz.prog 100=some [.v (.slice none 0 0),.v (.map none)]:=by kernel_rfl
def fh:List Value:=[.int .i64 0,.string (bs []),.string (bs []),.slice none 0 0,.slice none 0 0,.slice none 0 0,.slice none 0 0]
theorem Fo:dU Tryz.prog 98=(1000002,some (.agg ⟨fh⟩)):=by kernel_rfl
theorem W0:pd Tryz.prog 98:=
 Iz (k:=9) (e:=33) (by kernel_rfl) (by kernel_rfl) (by rw[Fo];decide) fun w=>by
  rw[Fo];exact DF (i:=(Tryz.prog.info? 33).getD default) (by kernel_rfl) (by kernel_rfl) w
attribute [go_sem] fh forall_eq' aaN XV XU aab aaj Z0 Wm Fo W0 LP Lu
@[reducible] def G0 (x:Value) (l:List Value):Hp:=⟨[⟨0,100,[.v x,.mp 1]⟩,⟨1,1000002,l.map .v⟩],[]⟩
attribute [go_sem] G0
def qU (L:List Cc) (X:Cc):List Cc:=match fnd L X.name with
 |some _=>L
 |none=>L++[X]
theorem Hb (x:Value) (L:List Cc) (X:Cc) (m:Mem):FnH Tryz.prog 64 [.box 0 0,.v (.agg ⟨X.cs⟩)] (G0 x (lh L)) m
  fun r H' m' =>m' =m/\r= .tup []/\H' =G0 x (lh (qU L X)):=by
 refine enter bb aq Tryz.func64 rfl rfl (by kernel_rfl) rfl ?_ ?_
 ·simp only[go_sem,Cc.cs]
 ·simp only[go_sem,Cc.cs];cases hf:fnd L X.name with
  |some Y=>
   have h1:qU L X=L:=by unfold qU;rw[hf]
   refine bZ (.hoist 0 (.hoist 1 (.hoist 2 (.hoist 3 (.hoist 4 (.hoist 5 (.hoist 6 (.hoist 7 (.hoist 8 (.hoist 9 (.alt 10 [9,8,7,6,5,4,3,2,1,0] (.alt 11 [9] (.hoist 12 .done) .stop) .stop))))))))))) aq (by kernel_rfl) (by kernel_rfl) ?_;simp only[go_sem,iV,hf,nK];exact⟨rfl,rfl,aC _,by rw[h1]⟩
  |none=>
   have h1:qU L X=L++[X]:=by unfold qU;rw[hf]
   have hp:=LD X.name X rfl L hf;simp only[Cc.cs] at hp;refine bZ (.hoist 0 (.hoist 1 (.hoist 2 (.hoist 3 (.hoist 4 (.hoist 5 (.hoist 6 (.hoist 7 (.hoist 8 (.hoist 9 (.alt 10 [9,8,7,6,5,4,3,2,1,0] (.alt 11 [9] (.hoist 12 .done) .stop) .stop))))))))))) aq (by kernel_rfl) (by kernel_rfl) ?_;simp only[go_sem,iV,hf,nK];refine bZ (.hoist 0 (.hoist 1 (.hoist 2 (.hoist 3 (.hoist 4 (.hoist 5 (.hoist 6 (.alt 7 [] .done .stop)))))))) aq (by kernel_rfl) (by kernel_rfl) ?_;simp only[go_sem,iV,hf,nK,hp,h1]
theorem Kh {m:Mem} {E:List Cd} {L:List Cc} (h:MpR m E L) {d:Cd} {X:Cc} (hX:X.name=d.name) (hd:gO m d X.cs):MpR m (E++[d]) (qU L X):=by
 unfold qU;cases hc:cls E d.name with
 |none=>
  rw[hX,h.none hc];exact h.new hX hd hc
 |some x=>
  obtain⟨Y,hY,_⟩:=h.some hc;rw[hX,hY];exact h.old hc
theorem Mp {m:Mem} {a:Option Addr} {l:List Cd} {xs:List Value} (h:aw m a l.length 7 xs) (hr:dZ (gO m) 7 l xs) {k:Nat} (hk:k<l.length):
  ∃X:Cc,Rd m (bk a (k * 7)) X.cs/\a≠none/\X.name=l[k].name/\gO m l[k] X.cs:=by
 obtain⟨h1,h2⟩:=dM h hk;have bX:=oY hr hk;obtain⟨X,e1,e2⟩:=bX;have e:=e1.1;rw[e] at h1;exact⟨X,h1,h2,e1.2.2.1,X,⟨rfl,e1.2⟩,e2⟩
theorem QK {j:Nat} (h:j<21):aH.take (j+1)=aH.take j++[sv (df[j]'h)]:=by
 have e:aH[j]'(by unfold aH;rw[List.length_map];exact h)=sv (df[j]'h):=List.getElem_map ..;rw[<- e];exact vE aH (by unfold aH;rw[List.length_map];exact h)
theorem ZE {m:Mem} {a:Option Addr} {l:List Cm} {xs:List Value} (h:aw m a l.length 7 xs) (hr:dZ (sA m) 7 l xs) {k:Nat} (hk:k<l.length):
  ∃cs,Rd m (bk a (k * 7)) cs/\a≠none/\cs.length=7/\sA m l[k] cs:=by
 obtain⟨h1,h2⟩:=dM h hk;have bX:=oY hr hk;refine⟨_,h1,h2,?_,bX⟩;obtain⟨fa,ma,fc,mc,xf,xm,e,_⟩:=bX;rw[e];rfl
theorem QA (pr:List Cd) (a:Option Addr) (c:Nat) (m:Mem) (h:fi m pr a pr.length c):FnH Tryz.prog 36 [.v (.slice a pr.length c)] ⟨[],[]⟩ m
  fun r H' m' =>af m m' /\∃L,r= .box 1 0/\H' =⟨[⟨1,100,[.v (.slice a pr.length c),.mp 0]⟩,⟨0,1000002,(lh L).map .v⟩],[]⟩/\MpR m' (pr++aH) L:=by
 obtain⟨_,h2,h3,xs,h4,h5⟩:=h;refine br aq Tryz.func36 ?_
 ·simp only[go_sem];have hy:=fun k hk=>Mp h4 h5 (k:=k) hk
  clear h4 h5;refine cq aq (fun x:Nat×List Cc=>⟨[⟨14,[],.v (.int .i64 x.1)⟩,⟨13,[],.v (.int .i64 pr.length)⟩,⟨12,[],.v (.slice a pr.length c)⟩,⟨3,[],.box 1 0⟩,⟨2,[],.v (.pointer none)⟩],[],[⟨1,100,[.v (.slice a pr.length c),.mp 0]⟩,⟨0,1000002,(lh x.2).map .v⟩],[],2,m⟩)
   (fun x=>x.1<=pr.length/\MpR m (pr.take x.1) x.2) (fun x=>pr.length - x.1) (0,[]) (by kernel_rfl) (fun _ _=>aZ rfl) (fun x hx=> .inl rfl) (fun _=> ?_) ?_ ⟨aF _,MpR.nil m⟩ ?_
  ·simp only[go_sem,mH]
  ·simp only[go_sem];exact⟨rfl,rfl⟩
  ·rintro⟨i,L⟩ ⟨i1,i2⟩;dsimp only at i1 i2;by_cases aj:i<pr.length
   ·have hc:((i:Int)<(pr.length:Int))=True:=eq_true (by omega);refine Exists.elim (hy i aj) fun X hX=> ?_
    have aI:bS a pr.length (i:Int)=True:=eq_true ⟨by omega,by omega,hX.2.1⟩;have au:= @cC _ _ _ 7 hX.1 rfl;have hD:=Hb (.slice a pr.length c) L X m;clear hy;simp only[Cc.cs] at au hD;have bX:=Kh i2 hX.2.2.1 hX.2.2.2;simp only[go_sem,hc,aI,au,nK,mH];refine ai ((aD hD fun V=>rfl).mono ?_);clear hD au;rintro r H' m1 aR ⟨rfl,rfl,rfl⟩;simp only[go_sem,mH,bm,bo,bp,bA];refine⟨by unfold az;unfold ay at h3;omega,(i+1,qU L X),⟨by omega,rfl⟩,⟨aj,?_⟩,by omega⟩;rw[vE _ aj];exact bX
   ·have hc:((i:Int)<(pr.length:Int))=False:=eq_false (by omega);rw[jS (by omega)] at i2;clear hy;have hC:=Ot m;simp only[go_sem,hc];refine ai (hC.mono ?_);clear hC;rintro r H' m1 aR ⟨l1,rfl,a2,c2,vs,rfl,g1,g2,g3⟩;simp only[go_sem,mH];have hu:=fun k hk=>ZE (l:=df) g2 g3 (k:=k) hk
    clear g2 g3;refine cq aq (fun x:Nat×List Cc×Mem=>⟨[⟨24,[],.v (.int .i64 x.1)⟩,⟨23,[],.v (.int .i64 ((21:Nat):Int))⟩,⟨22,[],.v (.slice a2 21 c2)⟩,⟨3,[],.box 1 0⟩,⟨2,[],.v (.pointer none)⟩],[],[⟨1,100,[.v (.slice a pr.length c),.mp 0]⟩,⟨0,1000002,(lh x.2.1).map .v⟩],[],2,x.2.2⟩)
     (fun x=>af m1 x.2.2/\x.1<=21/\MpR x.2.2 (pr++aH.take x.1) x.2.1) (fun x=>21 - x.1) (0,L,m1) (by kernel_rfl) (fun _ _=>aZ rfl) (fun x hx=>hx.1) (fun _=> ?_) ?_ ⟨.inl rfl,aF _,by rw[List.take_zero,List.append_nil];exact i2.up l1⟩ ?_
    ·simp only[go_sem,mH]
    ·simp only[go_sem];rfl
    ·rintro⟨j,L2,mm⟩ ⟨j1,j2,j3⟩;dsimp only at j1 j2 j3;by_cases aj:j<21
     ·have hc:((j:Int)<((21:Nat):Int))=True:=eq_true (by omega);refine Exists.elim (hu j aj) fun us xt=> ?_
      have aI:bS a2 21 (j:Int)=True:=eq_true ⟨by omega,by omega,xt.2.1⟩;have au:= @cC _ _ _ 7 (oV j1 xt.1) xt.2.2.1;have hD:=Q4 (df[j]'aj) us mm (Za _ (List.getElem_mem _)) (tK j1 xt.2.2.2);clear hu;refine Exists.elim xt.2.2.2 fun fa q=>Exists.elim q fun ma q=>Exists.elim q fun fc q=>Exists.elim q fun mc q=>Exists.elim q fun xf q=>Exists.elim q fun xm q=> ?_
      have e:=q.1;clear q xt;subst e;simp only[eK] at au hD;simp only[go_sem,hc,aI,au,nK,mH];refine ai ((aD hD fun V=>rfl).mono ?_);clear hD au;rintro r H' m2 aK ⟨l2,rfl,X,rfl,x1,x2⟩;have hD:=Hb (.slice a pr.length c) L2 X m2;have bX:=Kh (j3.up l2) (d:=sv df[j]) x1 x2;simp only[go_sem,nK,mH,bm,bo,bp,bA];refine ai (hD.mono ?_);clear hD;rintro r H' m3 cA ⟨rfl,rfl,rfl⟩;simp only[go_sem,mH,bm,bo,bp,bA];refine⟨by unfold az;omega,(j+1,qU L2 X,m3),⟨by omega,rfl,.inl rfl⟩,⟨aa j1 l2,aj,?_⟩,by omega⟩;have e:=QK aj;dsimp only;rw[e,<- List.append_assoc];exact bX
     ·have hc:((j:Int)<((21:Nat):Int))=False:=eq_false (by omega);clear hu;rw[jS (by show 21<=j;omega)] at j3;simp only[go_sem,hc];exact⟨aa l1 j1,L2,rfl,j3⟩
theorem vy (pr:List Cd) (a:Option Addr) (n c:Nat) (m:Mem) (h:fi m pr a n c) (hf:pr.length<=1099000):FnH Tryz.prog 36 [.v (.slice a n c)] ⟨[],[]⟩ m
  fun r H' m' =>af m m' /\H' =⟨[],[]⟩/\∃ad b L,r= .v (.pointer (some ad))/\Ck m' ad pr (pr++aH) b a c L:=by
 obtain rfl:=h.1;refine V8 (QA pr a c m h) ?_;rintro r H' m' hm ⟨l,L,rfl,rfl,hM⟩;refine⟨1,0,_,_,_,(by decide:(100:Nat)<gv),rfl,rfl,fun p y m1 h1 h2 h3=> ?_⟩;have hp:=h2;have hy:=h3;obtain⟨ad,rfl,_⟩:=hp;obtain⟨b,_,_,_,rfl,_⟩:=hy;refine⟨aa l (.inr h1),rfl,ad,b,L,rfl,h2,jv (aa l (.inr h1)) h,h3,hM.up (.inr h1),?_⟩;rw[bc];have:aH.length=21:=rfl;omega
structure Vis (E:List Cd) (out:List Nm):Prop where
 nd:out.Nodup
 kn:∀x∈out,(cls E x).isSome=true
theorem Vis.nil (E:List Cd):Vis E []:=⟨List.nodup_nil,fun x hx=>by cases hx⟩
theorem KV {α:Type} [DecidableEq α]:∀{l L:List α},l.Nodup->(∀x∈l,x∈L)->l.length<=L.length
 |[],_,_,_=>aF _
 |a::r,L,hn,hs=>by
  have ha:=hs a (bN ..);have hr:r.length<=(L.erase a).length:=KV (List.nodup_cons.1 hn).2 fun x hx=>(List.mem_erase_of_ne (fun e=>(List.nodup_cons.1 hn).1 (by rw[<- e];exact hx))).2 (hs x (bw _ hx))
  rw[List.length_erase_of_mem ha] at hr;have:0<L.length:=List.length_pos_of_mem ha;simp only[dk];omega
theorem yu {E:List Cd} {s:Nm} {d:Cd} (h:cls E s=some d):d∈E/\d.name=s:=by
 unfold cls at h;exact⟨List.mem_of_find?_eq_some h,by simpa using List.find?_some h⟩
theorem W4 {E:List Cd} {s:Nm} (h:(cls E s).isSome=true):s∈E.map (·.name):=by
 obtain⟨d,hd⟩:=Option.isSome_iff_exists.1 h;exact List.mem_map.2 ⟨d,(yu hd).1,(yu hd).2⟩
theorem Vis.len {E:List Cd} {out:List Nm} (h:Vis E out):out.length<=E.length:=by
 have:=KV h.nd fun x hx=>W4 (h.kn x hx)
 rwa [List.length_map] at this
theorem Vis.snoc {E:List Cd} {out:List Nm} {s:Nm} (h:Vis E out) (hs:(cls E s).isSome=true) (hn:out.contains s=false):Vis E (out++[s]):=by
 refine⟨List.nodup_append.2 ⟨h.nd,by simp,fun a ha b hb e=> ?_⟩,fun x hx=> ?_⟩
 ·rw[List.mem_singleton.1 hb] at e;rw[e,<- List.contains_iff_mem,hn] at ha;cases ha
 ·rcases List.mem_append.1 hx with hx |hx
  ·exact h.kn x hx
  ·rw[List.mem_singleton.1 hx];exact hs
theorem Jc {E:List Cd}:∀{f:Nat} {out:List Nm} {s:Nm},Vis E out->Vis E (dv E f out s)
 |0,_,_,h=>h
 |f+1,out,s,h=>by
  unfold dv;split
  ·exact h
  ·rename_i d hd;split
   ·exact h
   ·rename_i hc;exact Jc (h.snoc (by rw[hd];rfl) (by simpa using hc))
theorem kv (E:List Cd) (s:Nm):Vis E (aT E s):=Jc (Vis.nil E)
def dx (E:List Cd) (f:Nat) (out:List Nm) (s:Nm):List Nm:=
 match cls E s with
 |some d=>if out.contains s=true then out else eC E f (out++[s]) d.ifs
 |none=>out
theorem pW (E:List Cd) (f:Nat) (out l:List Nm):eC E (f+1) out l=l.foldl (dx E f) out:=rfl
theorem Ep {α β:Type} (Q:α->α->Prop) (hr:∀a,Q a a) (ht:∀a b c,Q a b->Q b c->Q a c) (g:α->β->α) (h:∀a b,Q a (g a b)):∀(l:List β) (a:α),Q a (l.foldl g a)
 |[],a=>hr a
 |b::r,a=>ht _ _ _ (h a b) (Ep Q hr ht g h r (g a b))
theorem rJ {E:List Cd}:∀{f:Nat} {out l:List Nm},out<+:eC E f out l
 |0,out,_=>List.prefix_refl out
 |f+1,out,l=>by
  rw[pW];refine Ep (fun a b=>a<+:b) List.prefix_refl (fun _ _ _ h1 h2=>List.IsPrefix.trans h1 h2) _ (fun a s=> ?_) l out;unfold dx;split
  ·split
   ·exact List.prefix_refl _
   ·exact List.IsPrefix.trans (List.prefix_append _ _) rJ
  ·exact List.prefix_refl _
theorem DI {E:List Cd} {f:Nat} {out:List Nm} {s:Nm}:out<+:dx E f out s:=by
 unfold dx;split
 ·split
  ·exact List.prefix_refl _
  ·exact List.IsPrefix.trans (List.prefix_append _ _) rJ
 ·exact List.prefix_refl _
theorem Er {α β:Type} (I:α->Prop) (g:α->β->α) (h:∀a b,I a->I (g a b)):∀(l:List β) (a:α),I a->I (l.foldl g a)
 |[],_,ha=>ha
 |b::r,a,ha=>Er I g h r (g a b) (h a b ha)
theorem xN {E:List Cd}:∀{f:Nat} {out l:List Nm},Vis E out->Vis E (eC E f out l)
 |0,_,_,h=>h
 |f+1,out,l,h=>by
  rw[pW];refine Er (Vis E) _ (fun a s ha=> ?_) l out h;unfold dx;split
  ·rename_i d hd;split
   ·exact ha
   ·rename_i hc;exact xN (ha.snoc (by rw[hd];rfl) (by simpa using hc))
  ·exact ha
theorem Ij {E:List Cd} {f:Nat} {out:List Nm} {s:Nm} (ha:Vis E out):Vis E (dx E f out s):=by
 unfold dx;split
 ·rename_i d hd;split
  ·exact ha
  ·rename_i hc;exact xN (ha.snoc (by rw[hd];rfl) (by simpa using hc))
 ·exact ha
theorem Dg {E:List Cd}:∀{f:Nat} {out l:List Nm},Vis E out->E.length<out.length+f->eC E (f+1) out l=eC E f out l
 |0,out,l,h,hf=>by have:=h.len;omega
 |f+1,out,l,h,hf=>by
  rw[pW,pW];have key:∀(l:List Nm) (a:List Nm),Vis E a->out.length<=a.length->l.foldl (dx E (f+1)) a=l.foldl (dx E f) a:=by
   intro l;induction l with
   |nil=>intro a _ _;rfl
   |cons s r ih=>
    intro a ha hl;have e:dx E (f+1) a s=dx E f a s:=by
     unfold dx;cases hc:cls E s with
     |none=>rfl
     |some d=>
      dsimp only;split
      ·rfl
      ·rename_i hn;exact Dg (ha.snoc (by rw[hc];rfl) (by simpa using hn)) (by rw[bc,nJ];omega)
    rw[List.foldl_cons,List.foldl_cons,e];exact ih _ (Ij ha) (cQ hl DI.length_le)
  exact key l out h (aC _)
theorem Ok {E:List Cd} {f:Nat} {out l:List Nm} (h:Vis E out) (hf:E.length<out.length+f):∀k,eC E (f+k) out l=eC E f out l
 |0=>rfl
 |k+1=>by
  rw[<- Nat.add_assoc,Dg h (by omega)];exact Ok h hf k
theorem AP {E:List Cd}:∀{f:Nat} {out:List Nm} {s:Nm},Vis E out->E.length<out.length+f->dv E (f+1) out s=dv E f out s
 |0,out,s,h,hf=>by have:=h.len;omega
 |f+1,out,s,h,hf=>by
  rw[dv,dv.eq_2];cases hc:cls E s with
  |none=>rfl
  |some d=>
   dsimp only;split
   ·rfl
   ·rename_i hn;exact AP (h.snoc (by rw[hc];rfl) (by simpa using hn)) (by rw[bc,nJ];omega)
theorem HI {E:List Cd} {f:Nat} {out:List Nm} {s:Nm} (h:Vis E out) (hf:E.length<out.length+f):∀k,dv E (f+k) out s=dv E f out s
 |0=>rfl
 |k+1=>by
  rw[<- Nat.add_assoc,AP h (by omega)];exact HI h hf k
theorem AK {E:List Cd} {out l:List Nm} (h:Vis E out):Vis E (eQ E out l):=xN h
theorem tE (E:List Cd) (s:Nm):Vis E (bR E s):=Er (Vis E) _ (fun _ _ h=>AK h) _ _ (Vis.nil E)
/-! Functions of values alone. -/
def wJ (F:Ty->Value):List Value->Option (Prop×Value)
 |[.agg ⟨[.int .i64 d,.int .u8 b,.string s]⟩]=>some (True,F ⟨d,b,tl s⟩)
 |_=>none
def um (v:Value):List Value->Option (Prop×Value)
 |[]=>some (True,v)
 |_=>none
def zl (F:Nm->Value):List Value->Option (Prop×Value)
 |[.string s]=>some (True,F (tl s))
 |_=>none
def B7:List Value->Option (Prop×Value)
 |[.bool b,.agg ⟨[.int .i64 d,.int .u8 k,.string s]⟩]=>some (True,.tuple ⟨[.agg ⟨aB (fb b ⟨d,k,tl s⟩).1⟩,.int .i64 (fb b ⟨d,k,tl s⟩).2]⟩)
 |_=>none
attribute [go_sem] wJ.eq_1 um.eq_1 zl.eq_1 B7.eq_1
theorem EN {P:Program} {f:FuncId} {F:Ty->Value} (h:∀(t:Ty) (m:Mem),FnH P f [.v (.agg ⟨aB t⟩)] ⟨[],[]⟩ m fun r H' _=>r= .v (F t)/\H' =⟨[],[]⟩):
  ∀aO y,wJ F aO=some y->y.1->∀m,FnH P f (aO.map SV.v) ⟨[],[]⟩ m fun r H' _=>r= .v y.2/\H' =⟨[],[]⟩:=fun aO y hy hB m=>by
 unfold wJ at hy;split at hy
 ·rename_i d b s;cases hy;have:=h ⟨d,b,tl s⟩ m;unfold aB at this;rwa [eY] at this
 ·cases hy
theorem Bp {P:Program} {f:FuncId} {v:Value} (h:∀(m:Mem),FnH P f [] ⟨[],[]⟩ m fun r H' _=>r= .v v/\H' =⟨[],[]⟩):
  ∀aO y,um v aO=some y->y.1->∀m,FnH P f (aO.map SV.v) ⟨[],[]⟩ m fun r H' _=>r= .v y.2/\H' =⟨[],[]⟩:=fun aO y hy hB m=>by
 unfold um at hy;split at hy
 ·cases hy;exact h m
 ·cases hy
theorem KA {P:Program} {f:FuncId} {F:Nm->Value} (h:∀(s:Nm) (m:Mem),FnH P f [.v (.string (bs s))] ⟨[],[]⟩ m fun r H' _=>r= .v (F s)/\H' =⟨[],[]⟩):
  ∀aO y,zl F aO=some y->y.1->∀m,FnH P f (aO.map SV.v) ⟨[],[]⟩ m fun r H' _=>r= .v y.2/\H' =⟨[],[]⟩:=fun aO y hy hB m=>by
 unfold zl at hy;split at hy
 ·rename_i s;cases hy;have:=h (tl s) m;rwa [eY] at this
 ·cases hy
theorem Um {P:Program} {f:FuncId} (h:∀(b:Bool) (t:Ty) (m:Mem),FnH P f [.v (.bool b),.v (.agg ⟨aB t⟩)] ⟨[],[]⟩ m fun r H' _=>r= .v (.tuple ⟨[.agg ⟨aB (fb b t).1⟩,.int .i64 (fb b t).2]⟩)/\H' =⟨[],[]⟩):
  ∀aO y,B7 aO=some y->y.1->∀m,FnH P f (aO.map SV.v) ⟨[],[]⟩ m fun r H' _=>r= .v y.2/\H' =⟨[],[]⟩:=fun aO y hy hB m=>by
 unfold B7 at hy;split at hy
 ·rename_i b d k s;cases hy;have:=h b ⟨d,k,tl s⟩ m;simp only[aB,eY] at this;exact this
 ·cases hy
section
variable (m:Mem)
theorem Ir:FnH Tryz.prog 85 [] ⟨[],[]⟩ m fun r H' _=>r= .v (.agg ⟨aB fU⟩)/\H' =⟨[],[]⟩:=by
 refine jT (R:=fun r H' m' =>r=dJ fU/\H' =⟨[],[]⟩) ?_ fun r H' m' _ hr=>⟨_,fun V=>by rw[hr.1];rfl,rfl,hr.2⟩
 refine br aq Tryz.func85 ?_
 ·simp only[go_sem];exact rfl
theorem SL:FnH Tryz.prog 191 [] ⟨[],[]⟩ m fun r H' _=>r= .v (.agg ⟨aB cr⟩)/\H' =⟨[],[]⟩:=by
 refine jT (R:=fun r H' m' =>r=dJ cr/\H' =⟨[],[]⟩) ?_ fun r H' m' _ hr=>⟨_,fun V=>by rw[hr.1];rfl,rfl,hr.2⟩
 refine br aq Tryz.func191 ?_
 ·simp only[go_sem];exact rfl
theorem QH:FnH Tryz.prog 196 [] ⟨[],[]⟩ m fun r H' _=>r= .v (.agg ⟨aB ed⟩)/\H' =⟨[],[]⟩:=by
 refine jT (R:=fun r H' m' =>r=dJ ed/\H' =⟨[],[]⟩) ?_ fun r H' m' _ hr=>⟨_,fun V=>by rw[hr.1];rfl,rfl,hr.2⟩
 refine br aq Tryz.func196 ?_
 ·simp only[go_sem];exact rfl
theorem IS (s:Nm):FnH Tryz.prog 86 [.v (.string (bs s))] ⟨[],[]⟩ m fun r H' _=>r= .v (.agg ⟨aB (cG s)⟩)/\H' =⟨[],[]⟩:=by
 refine jT (R:=fun r H' m' =>r=dJ (cG s)/\H' =⟨[],[]⟩) ?_ fun r H' m' _ hr=>⟨_,fun V=>by rw[hr.1];rfl,rfl,hr.2⟩
 refine br aq Tryz.func86 ?_
 ·simp only[go_sem];exact rfl
theorem HT (t:Ty):FnH Tryz.prog 84 [.v (.agg ⟨aB t⟩)] ⟨[],[]⟩ m fun r H' _=>r= .v (.bool (eb t))/\H' =⟨[],[]⟩:=by
 refine enter bb aq Tryz.func84 rfl rfl (by kernel_rfl) rfl ?_ ?_
 ·simp only[go_sem,aB]
 ·simp only[go_sem,aB];rfl
theorem QF (t:Ty):FnH Tryz.prog 193 [.v (.agg ⟨aB t⟩)] ⟨[],[]⟩ m fun r H' _=>r= .v (.string (bs (pt t)))/\H' =⟨[],[]⟩:=by
 refine enter bb aq Tryz.func193 rfl rfl (by kernel_rfl) rfl ?_ ?_
 ·simp only[go_sem,aB]
 ·simp only[go_sem,aB];refine⟨fun h=> ?_,fun h=> ?_⟩
  ·unfold pt;rw[ae h];rfl
  ·unfold pt;rw[ak h]
theorem SI (b:Bool) (t:Ty):FnH Tryz.prog 190 [.v (.bool b),.v (.agg ⟨aB t⟩)] ⟨[],[]⟩ m fun r H' _=>r= .v (.tuple ⟨[.agg ⟨aB (fb b t).1⟩,.int .i64 (fb b t).2]⟩)/\H' =⟨[],[]⟩:=by
 refine jT (R:=fun r H' m' =>r= .tup [dJ (fb b t).1,.v (.int .i64 (fb b t).2)]/\H' =⟨[],[]⟩) ?_ fun r H' m' _ hr=>⟨_,fun V=>by rw[hr.1];rfl,rfl,hr.2⟩
 refine enter bb aq Tryz.func190 rfl rfl (by kernel_rfl) rfl ?_ ?_
 ·simp only[go_sem,aB]
 ·simp only[go_sem,aB];refine⟨fun h=> ?_,fun h=> ?_⟩
  ·subst h;rfl
  ·subst h;rfl
end
/-! Lists of names in memory. -/
def Ga (m:Mem) (a:Option Addr) (n:Nat):List Nm:=(List.range n).map fun j=>match a with
 |some ad=>(match m.w.cell? (ad.add j) with |some (.string s)=>tl s |_=>[])
 |none=>[]
theorem yF {m:Mem} {a:Option Addr} {n:Nat} {l:List Nm} (h:aw m a n 1 (strs l)):Ga m a n=l:=by
 have hl:l.length=n:=by have:=h.1;simpa [strs] using this
 unfold Ga;refine List.ext_getElem? fun j=> ?_
 by_cases hj:j<n
 ·obtain⟨ad,rfl,_,hc⟩:=h.2 (by omega);have h1:=(hc j (by omega)).1;have h2:(strs l)[j]? =some (.string (bs (l[j]'(by omega)))):=by unfold strs;rw[List.getElem?_map,List.getElem?_eq_getElem (by omega)];rfl
  rw[List.getElem?_map,List.getElem?_range hj,Option.map_some];simp only[h1,h2,Fg];rw[List.getElem?_eq_getElem (by omega)]
 ·rw[List.getElem?_eq_none (by simp;omega),List.getElem?_eq_none (by omega)]
def B8:Mem->List Value->Option (Prop×Value)
 |m,[.slice a n _,.string s]=>some ((∃l,aw m a n 1 (strs l))/\n<=4611686018427387904,.bool ((Ga m a n).contains (tl s)))
 |_,_=>none
attribute [go_sem] B8.eq_1
theorem Un:∀m aO y,B8 m aO=some y->y.1->FnH Tryz.prog 98 (aO.map SV.v) ⟨[],[]⟩ m fun r H' _=>r= .v y.2/\H' =⟨[],[]⟩:=fun m aO y hy hB=>by
 unfold B8 at hy;split at hy
 ·rename_i a n c s;cases hy;obtain⟨⟨l,h⟩,hn⟩:=hB;have:=vn l (tl s) a n c m h hn;rw[yF h];rwa [eY] at this
 ·cases hy
/-! The checker in memory. -/
def aaY (pr E:List Cd) (F:Nm->Value):Mem->List Value->Option (Prop×Value)
 |m,[p,.string s]=>some (ChkR m p pr E,F (tl s))
 |_,_=>none
def wo (pr E:List Cd) (F:Nm->Nm->Value):Mem->List Value->Option (Prop×Value)
 |m,[p,.string s,.string t]=>some (ChkR m p pr E,F (tl s) (tl t))
 |_,_=>none
def wK (pr E:List Cd) (F:Ty->Value):Mem->List Value->Option (Prop×Value)
 |m,[p,.agg ⟨[.int .i64 d,.int .u8 b,.string s]⟩]=>some (ChkR m p pr E,F ⟨d,b,tl s⟩)
 |_,_=>none
def yT (pr E:List Cd) (F:Ty->Ty->Value):Mem->List Value->Option (Prop×Value)
 |m,[p,.agg ⟨[.int .i64 d,.int .u8 b,.string s]⟩,.agg ⟨[.int .i64 d',.int .u8 b',.string s']⟩]=>some (ChkR m p pr E,F ⟨d,b,tl s⟩ ⟨d',b',tl s'⟩)
 |_,_=>none
attribute [go_sem] aaY.eq_1 wo.eq_1 wK.eq_1 yT.eq_1
section
variable {P:Program} {f:FuncId} {pr E:List Cd}
theorem Ej {F:Nm->Nm->Value} (h:∀(p:Value) (s t:Nm) (m:Mem),ChkR m p pr E->FnH P f [.v p,.v (.string (bs s)),.v (.string (bs t))] ⟨[],[]⟩ m fun r H' _=>r= .v (F s t)/\H' =⟨[],[]⟩):
  ∀m aO y,wo pr E F m aO=some y->y.1->FnH P f (aO.map SV.v) ⟨[],[]⟩ m fun r H' _=>r= .v y.2/\H' =⟨[],[]⟩:=fun m aO y hy hB=>by
 unfold wo at hy;split at hy
 ·rename_i p s t;cases hy;have:=h p (tl s) (tl t) m hB;rwa [eY,eY] at this
 ·cases hy
theorem EO {F:Ty->Value} (h:∀(p:Value) (t:Ty) (m:Mem),ChkR m p pr E->FnH P f [.v p,.v (.agg ⟨aB t⟩)] ⟨[],[]⟩ m fun r H' _=>r= .v (F t)/\H' =⟨[],[]⟩):
  ∀m aO y,wK pr E F m aO=some y->y.1->FnH P f (aO.map SV.v) ⟨[],[]⟩ m fun r H' _=>r= .v y.2/\H' =⟨[],[]⟩:=fun m aO y hy hB=>by
 unfold wK at hy;split at hy
 ·rename_i p d b s;cases hy;have:=h p ⟨d,b,tl s⟩ m hB;simp only[aB,eY] at this;exact this
 ·cases hy
theorem Jv {F:Ty->Ty->Value} (h:∀(p:Value) (t u:Ty) (m:Mem),ChkR m p pr E->FnH P f [.v p,.v (.agg ⟨aB t⟩),.v (.agg ⟨aB u⟩)] ⟨[],[]⟩ m fun r H' _=>r= .v (F t u)/\H' =⟨[],[]⟩):
  ∀m aO y,yT pr E F m aO=some y->y.1->FnH P f (aO.map SV.v) ⟨[],[]⟩ m fun r H' _=>r= .v y.2/\H' =⟨[],[]⟩:=fun m aO y hy hB=>by
 unfold yT at hy;split at hy
 ·rename_i p d b s d' b' s';cases hy;have:=h p ⟨d,b,tl s⟩ ⟨d',b',tl s'⟩ m hB;simp only[aB,eY] at this;exact this
 ·cases hy
end
section
variable {ad:Addr} {pr E:List Cd} {b:Nat} {a:Option Addr} {c:Nat} {L:List Cc}
theorem QN (t:Ty) (m:Mem) (hC:Ck m ad pr E b a c L):FnH Tryz.prog 159 [.v (.pointer (some ad)),.v (.agg ⟨aB t⟩)] ⟨[],[]⟩ m fun r H' _=>r= .v (.bool (cM E t))/\H' =⟨[],[]⟩:=by
 cases hc:cls E t.name with
 |none=>
  have hf:=hC.mp.none hc;have hb:cM E t=(!decide (t.base=76)||false):=by unfold cM;rw[hc];rfl
  refine enter bb aq Tryz.func159 rfl rfl (by kernel_rfl) rfl ?_ ?_
  ·simp only[go_sem,aB]
  ·simp only[go_sem,aB];refine bZ (.hoist 0 (.hoist 1 (.hoist 2 (.hoist 3 (.hoist 4 (.hoist 5 (.hoist 6 (.hoist 7 (.hoist 8 (.hoist 9 (.alt 10 [9,8,7,6,5,4,3,2,1,0] (.alt 11 [9] (.hoist 12 .done) .stop) .stop))))))))))) aq (by kernel_rfl) (by kernel_rfl) ?_;simp only[go_sem,cj (j:=0) hC.rd rfl,cj (j:=1) hC.rd rfl,fK hC.rm,iV,Option.map_none,Option.map_some,cv,forall_eq',false_implies,and_true,true_and,fh,hf];rw[hb,Bool.or_false]
 |some d=>
  obtain⟨X,hf,hX⟩:=hC.mp.some hc;have hb:cM E t=(!decide (t.base=76)||true):=by unfold cM;rw[hc];rfl
  refine enter bb aq Tryz.func159 rfl rfl (by kernel_rfl) rfl ?_ ?_
  ·simp only[go_sem,aB]
  ·simp only[go_sem,aB];refine bZ (.hoist 0 (.hoist 1 (.hoist 2 (.hoist 3 (.hoist 4 (.hoist 5 (.hoist 6 (.hoist 7 (.hoist 8 (.hoist 9 (.alt 10 [9,8,7,6,5,4,3,2,1,0] (.alt 11 [9] (.hoist 12 .done) .stop) .stop))))))))))) aq (by kernel_rfl) (by kernel_rfl) ?_;simp only[go_sem,cj (j:=0) hC.rd rfl,cj (j:=1) hC.rd rfl,fK hC.rm,iV,Option.map_none,Option.map_some,cv,forall_eq',false_implies,and_true,true_and,fh,hf,Cc.cs];rw[hb]
theorem HS (p:Value) (t:Ty) (m:Mem) (h:ChkR m p pr E):FnH Tryz.prog 159 [.v p,.v (.agg ⟨aB t⟩)] ⟨[],[]⟩ m fun r H' _=>r= .v (.bool (cM E t))/\H' =⟨[],[]⟩:=by
 obtain⟨ad,b,a,c,L,rfl,hC⟩:=h;exact QN t m hC
theorem Cc.inj {X Y:Cc} (h:X.cs=Y.cs):X=Y:=by
 cases X;cases Y;simp only[Cc.cs,List.cons.injEq,Value.int.injEq,Value.string.injEq,Value.slice.injEq,true_and,and_true] at h;obtain⟨h1,h2,h3,⟨h4,h5,h6⟩,⟨h7,h8,h9⟩,⟨g1,g2,g3⟩,g4,g5,g6⟩:=h;have h2:=oS h2;have h3:=oS h3;subst h1 h2 h3 h4 h5 h6 h7 h8 h9 g1 g2 g3 g4 g5 g6;rfl
structure CdX (m:Mem) (d:Cd) (X:Cc):Prop where
 fl:X.fl=d.fl
 name:X.name=d.name
 sup:X.super=d.super
 il:X.il=d.ifs.length
 ic:X.il<=X.ic
 fn:X.fn=d.fields.length
 fc:X.fn<=X.fc
 ml:X.ml=d.methods.length
 mc:X.ml<=X.mc
 sl:X.sl=d.init.length
 sc:X.sl<=X.sc
 ok:CdOk d
 ifs:aw m X.ia X.il 1 (strs d.ifs)
 fds:aw m X.fa X.fn 5 (flat Fc.cs d.fields)
 mth:∃xs,aw m X.ma X.ml 8 xs/\dZ (ig m) 8 d.methods xs
 ini:∃ys,aw m X.sa X.sl 23 ys/\bL m d.init ys
theorem N1 {m:Mem} {d:Cd} {X:Cc} (h:gO m d X.cs):CdX m d X:=by
 obtain⟨Y,⟨e,h1,h2,h3⟩,⟨q1,q2,q3,q4,q5,q6,q7,q8⟩,h4,h5,h6,xs,ys,h7,h8,h9,h10⟩:=h;cases Cc.inj e;exact⟨h1,h2,h3,q1,q2,q3,q4,q5,q6,q7,q8,h4,h5,h6,⟨xs,h7,h8⟩,ys,h9,h10⟩
theorem Ck.none {m:Mem} (hC:Ck m ad pr E b a c L) {s:Nm} (hc:cls E s= .none):fnd L s= .none:=hC.mp.none hc
theorem Ck.some {m:Mem} (hC:Ck m ad pr E b a c L) {s:Nm} {d:Cd} (hc:cls E s= .some d):∃X,fnd L s= .some X/\CdX m d X:=(hC.mp.some hc).elim fun X h=>⟨X,h.1,N1 h.2⟩
theorem TO (m:Mem):CdX m eT ⟨0,[],[],none,0,0,none,0,0,none,0,0,none,0,0⟩:=
 ⟨rfl,rfl,rfl,rfl,aC _,rfl,aC _,rfl,aC _,rfl,aC _,⟨by unfold az;decide,aF _,aF _,aF _,fun s hs=>(by cases hs),aF _,fun s hs=>(by cases hs),aF _,aF _⟩,
  ⟨rfl,fun h=>absurd h (Nat.lt_irrefl 0)⟩,⟨rfl,fun h=>absurd h (Nat.lt_irrefl 0)⟩,⟨[],⟨rfl,fun h=>absurd h (Nat.lt_irrefl 0)⟩,trivial⟩,[],⟨rfl,fun h=>absurd h (Nat.lt_irrefl 0)⟩,trivial⟩
def Gc (L:List Cc) (s:Nm):Option Value:=(fnd L s).map fun X=> .agg ⟨X.cs⟩
def gD (o:Option Value) (z:Value):Value:=o.getD z
theorem nO (s:Nm) (L:List Cc):gN (lh L) (.string (bs s))=Gc L s:=iV s L
theorem Ck.get {m:Mem} (hC:Ck m ad pr E b a c L) (s:Nm):∃X:Cc,gD (Gc L s) (.agg ⟨[.int .i64 0,.string (bs []),.string (bs []),.slice .none 0 0,.slice .none 0 0,.slice .none 0 0,.slice .none 0 0]⟩)= .agg ⟨X.cs⟩/\CdX m (bI E s) X:=by
 unfold bI Gc gD;cases hc:cls E s with
 |none=>exact⟨_,by rw[hC.none hc];rfl,TO m⟩
 |some d=>
  obtain⟨X,h1,h2⟩:=hC.some hc;exact⟨X,by rw[h1];rfl,h2⟩
theorem ox {o:Option Value} {z:Value} {K:Value->Prop}:((∀v,o= .some v->K v)/\(o= .none->K z))=K (gD o z):=by
 cases o with
 |none=>simp [gD]
 |some v=>simp [gD]
theorem AR (l:List Nm) (s:Nm):strs (l++[s])=strs l++[.string (bs s)]:=by unfold strs;simp
theorem HG (s:Nm) (m:Mem) (hC:Ck m ad pr E b a c L):FnH Tryz.prog 49 [.v (.pointer (some ad)),.v (.string (bs s))] ⟨[],[]⟩ m
  fun r H' m' =>af m m' /\∃u,r= .vec 0 u/\H' =⟨[],[⟨0,u,9,1,(aT E s).length,strs (aT E s)⟩]⟩:=by
 have iN:dv E (E.length+1) [] s=aT E s:=rfl;revert iN;generalize aT E s=K
 intro iN;refine br aq Tryz.func49 ?_
 ·simp only[go_sem];refine yk 5 9 1 (by decide) rfl ?_;simp only[go_sem];refine cq aq (fun x:Nat×List Nm×Nm×Mem=>⟨[⟨5,[],.vec 0 x.2.1.length⟩,⟨4,[],.v (.slice none 0 0)⟩,⟨1,[],.v (.string (bs x.2.2.1))⟩,⟨0,[],.v (.pointer (some ad))⟩],[],[],[⟨0,x.2.1.length,9,1,x.2.1.length,strs x.2.1⟩],1,x.2.2.2⟩)
   (fun x=>af m x.2.2.2/\Vis E x.2.1/\x.1+x.2.1.length=E.length+1/\dv E x.1 x.2.1 x.2.2.1=K) (fun x=>x.1) (E.length+1,[],s,m) (by kernel_rfl) (fun _ _=>aZ rfl) (fun x hx=>hx.1) (fun _=> ?_) ?_ ⟨.inl rfl,Vis.nil E,rfl,iN⟩ ?_
  ·simp only[go_sem]
  ·simp only[go_sem];rfl
  ·rintro⟨f,out,q,mm⟩ ⟨i1,i2,i3,i4⟩;dsimp only at i1 i2 i3 i4;have hC:=hC.up i1;have hl:=i2.len;have hw:=hC.fw;cases f with
   |zero=>exfalso;omega
   |succ f=>
    rw[dv] at i4;cases hc:cls E q with
    |none=>
     rw[hc] at i4;have hf:=hC.none hc;simp only[go_sem,cj (j:=0) hC.rd rfl,cj (j:=1) hC.rd rfl,fK hC.rm,iV,Option.map_none,Option.map_some,cv,forall_eq',false_implies,and_true,true_and,fh,hf];subst i4;exact⟨i1,_,rfl,rfl⟩
    |some d=>
     rw[hc] at i4;dsimp only at i4;refine Exists.elim (hC.some hc) fun X hX=> ?_
     have hf:=hX.1;simp only[go_sem,cj (j:=0) hC.rd rfl,cj (j:=1) hC.rd rfl,fK hC.rm,iV,Option.map_none,Option.map_some,cv,forall_eq',false_implies,and_true,true_and,fh,hf,Cc.cs];refine⟨by kernel_rfl,fun a1 c1 m1 h1 h2 h3=>bD ((vn out q a1 out.length c1 m1 h3 (by omega)).mono ?_)⟩;rintro r H' m2 aK ⟨rfl,rfl⟩;have hle:=aa i1 (aa (.inr h1) (.inr aK));by_cases hq:out.contains q=true
     ·rw[ak hq] at i4;simp only[go_sem,hq];subst i4;exact⟨hle,_,rfl,rfl⟩
     ·rw[ae hq] at i4;have hq:=(Bool.not_eq_true _).mp hq;simp only[go_sem,hq];refine⟨jz (by omega) (by decide),(f,out++[q],d.super,m2),⟨⟨by rw[bc];rfl,by rw[hX.2.sup]⟩,⟨by rw[bc];rfl,by rw[bc];rfl,by rw[AR]⟩,.inl rfl⟩,⟨hle,i2.snoc (by rw[hc];rfl) hq,?_,i4⟩,Nat.lt_succ_self _⟩;dsimp only;rw[bc,nJ];omega
theorem pV (s:Nm) (m:Mem) (hC:Ck m ad pr E b a c L):FnH Tryz.prog 49 [.v (.pointer (some ad)),.v (.string (bs s))] ⟨[],[]⟩ m
  fun r H' m' =>af m m' /\H' =⟨[],[]⟩/\∃a c,r= .v (.slice a (aT E s).length c)/\(aT E s).length<=c/\aw m' a (aT E s).length 1 (strs (aT E s)):=by
 refine nQ ((HG s m hC).mono ?_);rintro r H' m' hm ⟨l,u,rfl,rfl⟩;exact yo (b:=⟨0,u,9,1,(aT E s).length,strs (aT E s)⟩) (by simp [cz]) ⟨[],[]⟩ (List.Sublist.refl _) (List.nil_sublist _) fun a c m1 h1 h2 h3=>⟨aa l (.inr h1),rfl,a,c,rfl,h2,h3⟩
end
end Go.Proofs.YtmdokbohofchgaaGreatDoor.E

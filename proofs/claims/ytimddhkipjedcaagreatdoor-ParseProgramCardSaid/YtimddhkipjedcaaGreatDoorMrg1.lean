/- Several texts in one. -/
import Derived.WalkKit
import Derived.Below
import Derived.Deep.Draws
import Derived.Maps.AppendAt
import Derived.Laws.Strings
import Derived.Laws.StructEq
import Derived.Laws.Shifts
import Derived.Laws.Cover1
import Derived.Laws.Cells
import Derived.Laws.Slices
import Derived.Laws.DeepStrings4
import Derived.Laws.IdiomStrings
import Derived.Lib.Strings
import Derived.MapKept
import Derived.Deep.AppendSrc
set_option linter.unusedSimpArgs false
set_option linter.unusedVariables false
set_option maxHeartbeats 4000000
set_option maxRecDepth 20000
namespace Go.Proofs.YtimddhkipjedcaaGreatDoor.E
open Go
theorem dL {a b:Nat} (h:Nat.ble a b=true):a<=b:=Nat.le_of_ble_eq_true h
theorem aq (n:Nat):n<=n:=Nat.le_refl n
theorem bM {α:Type _} {as bs:List α}:(as++bs).length=as.length+bs.length:=List.length_append
theorem cv {α:Type _} {a:α} {as:List α}:(a::as).length=as.length+1:=rfl
theorem eM {α:Type _}:([]:List α).length=0:=rfl
theorem ae {c:Prop} {h:Decidable c} (I3:¬c) {α:Sort _} {t e:α}:(ite c t e)=e:=if_neg I3
theorem aj {c:Prop} {h:Decidable c} (hc:c) {α:Sort _} {t e:α}:(ite c t e)=t:=if_pos hc
theorem gz {p:Prop} [Decidable p]:(decide p=true)=p:=decide_eq_true_eq
theorem cS {α:Type _} (y:α) {a:α} {l:List α}:a∈l->a∈y::l:=List.mem_cons_of_mem y
theorem dz {α:Type _} {a:α} {l:List α}:a∈a::l:=List.mem_cons_self ..
theorem au (n:Nat):0<=n:=Nat.zero_le n
theorem aF (h:Decidable True): @decide True h=true:=decide_true h
theorem aQ (h:Decidable False): @decide False h=false:=decide_false h
theorem cR {n m k:Nat} (h:n<=m) (h2:m<=k):n<=k:=Nat.le_trans h h2
theorem gm {α:Type _} {i:Nat} {l:List α} (h:l.length<=i):l.take i=l:=List.take_of_length_le h
theorem ej {n m k:Nat} (h:n<m) (h2:m<=k):n<k:=Nat.lt_of_lt_of_le h h2
theorem br {α β:Type _} {f:α->β} {a:α} {l:List α}:(a::l).map f=f a::l.map f:=List.map_cons
theorem dy {α:Type _} {a b:α}:(some a=some b)=(a=b):=Option.some.injEq a b
theorem jD {α:Type _} {a:α} {as bs:List α}:(a::as)++bs=a::(as++bs):=List.cons_append
theorem cH {α:Type _} {i:Nat} {l:List α}:(l.drop i).length=l.length - i:=List.length_drop
theorem bo {p:Prop} [Decidable p] (h:¬p):decide p=false:=decide_eq_false h
theorem bX {p:Prop} [Decidable p] (h:p):decide p=true:=decide_eq_true h
theorem fr {α:Type _} {a:α}:[a].length=1:=List.length_singleton
theorem cY (a b:Bool):((a&&b)=true)=(a=true/\b=true):=Bool.and_eq_true a b
inductive A {γ:Type} (k:γ) (α:Type) where
 |mk (a:α)
inductive SV where
 |v (x:Value)
 |box (k off:Nat)
 |vec (k ver:Nat)
 |vp (k ver off:Nat)
 |mp (k:Nat)
 |mv (f:FuncId) (k off:Nat)
 |agg (cs:List SV)
 |tup (vs:List SV)
abbrev bt:=List (Nat×Bool)
structure Bx where
 id:Nat
 ty:TypeId
 cs:List SV
def om:Nat:=1000000
structure Vc where
 id:Nat
 ver:Nat
 el:TypeId
 sz:Nat
 n:Nat
 xs:List Value
structure Mem where
 w:World
 D:Nat->Nat
structure Hp where
 bx:List Bx
 vc:List Vc
inductive GB where
 |lit (b:Bool)
 |sym (b:Bool)
structure Gd where
 i:Nat
 slot:Nat
 p:bt
 b:GB
structure Ev where
 t:Nat
 p:bt
 s:SV
structure LS where
 env:List Ev
 rho:List Gd
 bx:List Bx
 vc:List Vc
 nid:Nat
 m:Mem
def bs (l:List UInt8):ByteArray:=⟨l.toArray⟩
def tl (s:ByteArray):List UInt8:=s.data.toList
theorem yS (l:List UInt8):tl (bs l)=l:=by simp [tl,bs]
theorem lH (s:ByteArray):bs (tl s)=s:=by simp [tl,bs]
theorem Mo (l:List UInt8):ByteArray.mk l.toArray=bs l:=rfl
theorem yQ {a b:List UInt8} (h:bs a=bs b):a=b:=by have:=congrArg tl h;simpa [yS] using this
def GB.val:GB->Bool | .lit b=>b | .sym b=>b
def pZ:bt->bt->Bool
 |[],[]=>true
 |(j,w)::p,(k,u)::q=>if j=k then(if w=u then pZ p q else false) else false
 |_,_=>false
def ns:bt->bt->Bool
 |p,[]=>pZ p []
 |p,x::q=>if pZ p (x::q)=true then true else ns p q
def fS:List Ev->Nat->bt->Option SV
 |[],_,_=>none
 |⟨t',p',s⟩::r,t,p=>if t' =t then(if ns p' p=true then some s else none) else fS r t p
def gk:List Gd->Nat->Option Gd
 |[],_=>none
 |⟨i',t',p',b'⟩::r,i=>if i' =i then some ⟨i',t',p',b'⟩ else gk r i
def zl:List Gd->Nat->Option Gd
 |[],_=>none
 |⟨i',t',p',b'⟩::r,i=>if t' =i then some ⟨i',t',p',b'⟩ else zl r i
def ie:List Bx->Nat->Option Bx
 |[],_=>none
 |⟨k',t',du⟩::r,i=>if k' =i then some ⟨k',t',du⟩ else ie r i
def cN:List Vc->Nat->Nat->Option Vc
 |[],_,_=>none
 |⟨k',u',e',z',n',x'⟩::r,i,u=>if k' =i then(if u' =u then some ⟨k',u',e',z',n',x'⟩ else none) else cN r i u
def oB (rho:List Gd) (j:Nat) (w:Bool):Bool:=match gk rho j with |some g=>(if w=true then g.b.val else !g.b.val) |none=>false
def bU (rho:List Gd):bt->Bool
 |[]=>true
 |(j,w)::p=>oB rho j w&&bU rho p
def wX:Option Gd->Bool->Bool
 |some ⟨_,_,_,.lit true⟩,false=>true
 |some ⟨_,_,_,.lit false⟩,true=>true
 |_,_=>false
def vr (rho:List Gd):bt->Bool
 |[]=>false
 |(j,w)::p=>if wX (gk rho j) w=true then true else vr rho p
def py (st:LS) (p:bt) (B:Prop):Prop:=bU st.rho p=true->B
def cD (st:LS) (p:bt):Operand->Option SV
 | .tmp t=>fS st.env t p
 | .const x=>some (.v x)
 | .func f=>some (.v (.func (.func f) #[] #[]))
 | .global g=>some (.v (.pointer (some ⟨g,0,none⟩)))
def aI {α:Type} {K:α->Prop} (x:A K (Option α)):Prop:=match x with | .mk (some s)=>K s | .mk none=>False
/-! Types, as the program's tables have them. -/
def eo (P:Program) (t:TypeId):Option (Option Nat):=
 match P.underlying t with
 |some (.struct _) |some (.array _ _)=>(P.info? t).map fun i=>some i.size
 |some _=>some none
 |none=>none
def bC (P:Program) (t:TypeId):Nat:=((P.info? t).map (·.size)).getD 0
def nE (P:Program) (t:TypeId):Nat:=((P.info? t).map (·.bytes)).getD 0
def ft (P:Program) (t:TypeId):Option (List SV):=((P.info? t).bind (·.zero)).map fun z=>z.cells.toList.map .v
def cM (P:Program) (s:TypeId) (f:Nat):Option (Nat×Option Nat×Nat):=
 match P.underlying s with
 |some (.struct fs)=>(fs[f]?).bind fun x=>if 0<bC P x.type then(eo P x.type).map fun g=>(x.offset,g,bC P x.type) else none
 |_=>none
def iQ (P:Program) (t:TypeId):Option TypeId:=
 match P.underlying t with
 |some (.slice e)=>some e
 |_=>none
inductive CvK where |int (k:IntKind) |same |b2s |no
def qA (P:Program) (src dst:TypeId):CvK:=
 match P.underlying src,P.underlying dst with
 |some (.int _),some (.int k)=> .int k
 |some .string,some .string=> .same
 |some (.slice e),some .string=>(match P.underlying e with |some (.int .u8)=> .b2s |_=> .no)
 |_,_=> .no
/-! Values. -/
def az (n:Int):Prop:= -9223372036854775808<=n/\n<=9223372036854775807
def arith {k:IntKind} {u:Prop->Prop} {K:SV->Prop} (x:A (k,u,K) Int):Prop:=
 match k,x with
 | .i64,.mk n=>u (az n)/\K (.v (.int .i64 n))
 |k,.mk n=>K (.v (.int k (k.wrap n)))
def jm {op:BinOp} {k:IntKind} {u:Prop->Prop} {K:SV->Prop} (x:A (op,k,u,K) (Int×Int)):Prop:=
 match op,x with
 | .add,.mk (a,b)=>arith (.mk (k:=(k,u,K)) (a+b))
 | .sub,.mk (a,b)=>arith (.mk (k:=(k,u,K)) (a - b))
 | .mul,.mk (a,b)=>arith (.mk (k:=(k,u,K)) (a * b))
 | .quo,.mk (a,b)=>u (b≠0)/\arith (.mk (k:=(k,u,K)) (a.tdiv b))
 | .rem,.mk (a,b)=>u (b≠0)/\K (.v (.int k (a.tmod b)))
 | .and,.mk (a,b)=>K (.v (.int k (bits .and k a b)))
 | .or,.mk (a,b)=>K (.v (.int k (bits .or k a b)))
 | .xor,.mk (a,b)=>K (.v (.int k (bits .xor k a b)))
 | .andNot,.mk (a,b)=>K (.v (.int k (bits .andNot k a b)))
 | .eql,.mk (a,b)=>K (.v (.bool (decide (a=b))))
 | .neq,.mk (a,b)=>K (.v (.bool (!decide (a=b))))
 | .lss,.mk (a,b)=>K (.v (.bool (decide (a<b))))
 | .leq,.mk (a,b)=>K (.v (.bool (decide (a<=b))))
 | .gtr,.mk (a,b)=>K (.v (.bool (decide (b<a))))
 | .geq,.mk (a,b)=>K (.v (.bool (decide (b<=a))))
 | .shl,.mk (a,b)=>u (0<=b/\b<=k.bits)/\K (.v (.int k (k.wrap (a * 2 ^ b.toNat))))
 | .shr,.mk (a,b)=>u (0<=b/\b<=k.bits)/\K (.v (.int k (a / 2 ^ b.toNat)))
def rq {op:BinOp} {u:Prop->Prop} {K:SV->Prop} (x:A (op,u,K) (List UInt8×List UInt8)):Prop:=
 match op,x with
 | .add,.mk (a,b)=>u (a.length+b.length<=9223372036854775807)/\K (.v (.string (bs (a++b))))
 | .eql,.mk (a,b)=>K (.v (.bool (decide (a=b))))
 | .neq,.mk (a,b)=>K (.v (.bool (!decide (a=b))))
 | .lss,.mk (a,b)=>K (.v (.bool (Op.bytesLess a b)))
 | .geq,.mk (a,b)=>K (.v (.bool (!Op.bytesLess a b)))
 |_,_=>False
def mW:SV->SV->Option Bool
 | .v (.int k a),.v (.int k' b)=>if k=k' then some (decide (a=b)) else none
 | .v (.string a),.v (.string b)=>some (decide (tl a=tl b))
 | .v (.bool a),.v (.bool b)=>some (a==b)
 |_,_=>none
def gT:List SV->List SV->Option Bool
 |[],[]=>some true
 |a::x,b::y=>(mW a b).bind fun e=>(gT x y).map fun r=>e&&r
 |_,_=>none
def kU:SV->Option (List SV)
 | .agg cs=>some cs
 | .v (.agg ⟨l⟩)=>some (l.map .v)
 | .tup _=>none
 | .v (.tuple _)=>none
 |s=>some [s]
def oQ:SV->Option (List SV)
 | .agg cs=>some cs
 | .v (.agg ⟨l⟩)=>some (l.map .v)
 |_=>none
def nj:SV->SV->Bool
 | .v (.int k _),.v (.int k' _)=>decide (k=k')
 | .v (.string _),.v (.string _)=>true
 | .v (.bool _),.v (.bool _)=>true
 |_,_=>false
def jd:List SV->List SV->Bool
 |[],[]=>true
 |z::zs,x::xs=>nj z x&&jd zs xs
 |_,_=>false
def vE (z:Option (List SV)) (xs:List SV):Bool:=
 match z with
 |some zs=>jd zs xs
 |none=>false
def uo (P:Program) (t:TypeId):Prop:=
 ∀(xs ys:List Value) (b:Bool) (w:World) (o o' :Operand) (op:BinOp),gT (xs.map .v) (ys.map .v)=some b->vE (ft P t) (xs.map .v)=true->
  (eqGuard op t o o' (.agg xs.toArray) (.agg ys.toArray)).run P w= .ok () w/\(Op.equal t (.agg xs.toArray) (.agg ys.toArray)).run P w= .ok b w
def ql {op:BinOp} {K:SV->Prop} (x:A (op,K) Bool):Prop:=
 match op,x with
 | .eql,.mk b=>K (.v (.bool b))
 | .neq,.mk b=>K (.v (.bool (!b)))
 |_,_=>False
def qk {P:Program} {op:BinOp} {t:TypeId} {u:Prop->Prop} {K:SV->Prop} (x:A (P,op,t,u,K) (SV×SV)):Prop:=
 match x with
 | .mk (.v (.int k a),.v (.int k' b))=>(op= .shl\/op= .shr\/k=k')/\jm (.mk (k:=(op,k,u,K)) (a,b))
 | .mk (.v (.string a),.v (.string b))=>rq (.mk (k:=(op,u,K)) (tl a,tl b))
 | .mk (.v (.bool a),.v (.bool b))=>P.underlying t=some .bool/\ql (.mk (k:=(op,K)) (a==b))
 | .mk (.agg xs,y)=>uo P t/\vE (ft P t) xs=true/\aI (.mk (k:=fun b=>ql (.mk (k:=(op,K)) b)) ((oQ y).bind fun ys=>gT xs ys))
 | .mk (.v (.agg xs),y)=>uo P t/\vE (ft P t) (xs.toList.map .v)=true/\aI (.mk (k:=fun b=>ql (.mk (k:=(op,K)) b)) ((oQ y).bind fun ys=>gT (xs.toList.map .v) ys))
 |_=>False
def ct (a:Option Addr) (o:Nat):Value:= .pointer (a.map (·.add o))
def pT (x:Value) (o:Nat):Value:=match x with | .pointer a=>ct a o |x=>x
def Ei (x:Value):Prop:=∃a,x= .pointer (some a)
def ua:Value->Bool
 | .pointer none | .nilIface | .nilFunc=>false
 | .func (.func _) _ _=>true
 | .func _ _ _=>false
 |_=>true
def Rd (m:Mem) (x:Value) (cs:List Value):Prop:=
 ∃a,x= .pointer (some a)/\a.spot=none/\∀j,j<cs.length->m.w.cell? (a.add j)=cs[j]? /\a.off+j<m.D a.block
def Bl (a:Option Addr) (n:Nat) (i:Int):Prop:=0<=i/\i<n/\a≠none
def aK (m:Mem) (a:Option Addr) (n sz:Nat) (xs:List Value):Prop:=
 xs.length=n * sz/\(0<n->∃ad,a=some ad/\ad.spot=none/\∀j,j<n * sz->m.w.cell? (ad.add j)=xs[j]? /\ad.off+j<m.D ad.block)
def PY (a:Option Addr) (c l h sz:Nat):Value:= .slice (if c=l then a else a.map (·.add (l * sz))) (h - l) (c - l)
def kM (l:List UInt8):List Value:=l.map fun b=> .int .u8 b.toNat
def sw:SV->Option SV
 | .v x=>some (.v x)
 | .box k o=>some (.box k o)
 | .vec k u=>some (.vec k u)
 | .vp k u o=>some (.vp k u o)
 | .mp k=>some (.mp k)
 | .mv f k o=>some (.mv f k o)
 | .agg _=>none
 | .tup _=>none
def vg (cs:List SV) (off:Nat):Option Nat->Option SV
 |none=>(cs[off]?).bind sw
 |some n=>if off+n<=cs.length then some (.agg ((cs.drop off).take n)) else none
def kK (cs:List SV) (off:Nat):List SV->List SV
 |[]=>cs
 |c::r=>kK (cs.set off c) (off+1) r
inductive PM where |and |or |gen
def A3:Operand->Operand->PM
 |_,.const (.bool false)=> .and
 | .const (.bool true),_=> .or
 |_,_=> .gen
def tL {md:PM} {K:SV->Prop} (x:A (md,K) (Bool×SV×SV)):Prop:=
 match md,x with
 | .and,.mk (c,.v (.bool a),.v (.bool false))=>K (.v (.bool (c&&a)))
 | .or,.mk (c,.v (.bool true),.v (.bool b))=>K (.v (.bool (c||b)))
 | .gen,.mk (c,.v (.bool a),.v (.bool b))=>K (.v (.bool (bif c then a else b)))
 |_,_=>False
def qL (o:Option SV) (d:Int):Option Int:=
 match o with
 |none=>some d
 |some (.v (.int _ n))=>some n
 |_=>none
def xd (st:LS) (p:bt) (o:Option Operand):Option (Option SV):=
 match o with
 |none=>some none
 |some x=>(cD st p x).map some
def u7 (P:Program) (t:TypeId) (st:LS) (p:bt):List (Nat×Operand)->List SV->Option (List SV)
 |[],cs=>some cs
 |(i,x)::r,cs=>(cM P t i).bind fun fo=>((cD st p x).bind kU).bind fun l=>
   if l.length=fo.2.2 then(if fo.1+l.length<=cs.length then u7 P t st p r (kK cs fo.1 l) else none) else none
def nd (P:Program) (t:TypeId):Bool:=
 match P.underlying t with
 |some (.struct fs)=>fs.toList.all fun x=>(P.info? x.type).isSome
 |_=>false
def tU {u:Prop->Prop} {K:SV->Prop} (x:A (u,K) SV):Prop:=
 match x with
 | .mk (.v x)=>u (ua x=true)/\K (.v x)
 | .mk (.box k o)=>K (.box k o)
 |_=>False
def uu {op:UnOp} {u:Prop->Prop} {K:SV->Prop} (x:A (op,u,K) SV):Prop:=
 match op,x with
 | .not,.mk (.v (.bool b))=>K (.v (.bool (!b)))
 | .neg,.mk (.v (.int k n))=>arith (.mk (k:=(k,u,K)) (0 - n))
 |_,_=>False
def E7 (v:Value):Prop:=v= .nilIface\/∃t x,v= .iface t x
def qS:Value->Bool
 | .nilIface=>true
 |_=>false
def Ej (P:Program) (t:TypeId):Bool:=
 match P.underlying t with
 |some (.interface _)=>true
 |_=>false
def vj {P:Program} {op:BinOp} {t:TypeId} {u:Prop->Prop} {K:SV->Prop} (x:A (P,op,t,u,K) SV):Prop:=
 match x with
 | .mk (.v v)=>Ej P t=true/\u (E7 v)/\ql (.mk (k:=(op,K)) (qS v))
 |_=>False
def qU {u:Prop->Prop} {K:SV->Prop} (x:A (u,K) (LS×CvK×SV)):Prop:=
 match x with
 | .mk (_,.int k,.v (.int _ n))=>K (.v (.int k (k.wrap n)))
 | .mk (_,.same,.v (.string s))=>K (.v (.string s))
 | .mk (st,.b2s,.vec k v)=>aI (.mk (k:=fun b:Vc=>∃l,u (b.sz=1/\b.xs=kM l)/\K (.v (.string (bs l)))) (cN st.vc k v))
 | .mk (st,.b2s,.v (.slice a n _))=>∃l,u (aK st.m a n 1 (kM l))/\K (.v (.string (bs l)))
 |_=>False
def sE {u:Prop->Prop} {K:SV->Prop} (x:A (u,K) (LS×SV×Nat)):Prop:=
 match x with
 | .mk (_,.box k o,f)=>K (.box k (o+f))
 | .mk (st,.vp k v o,f)=>aI (.mk (k:=fun b:Vc=>u (o<b.xs.length)/\K (.vp k v (o+f))) (cN st.vc k v))
 | .mk (_,.v x,f)=>u (Ei x)/\K (.v (pT x f))
 |_=>False
def tX {P:Program} {u:Prop->Prop} {K:SV->Prop} (x:A (P,u,K) (LS×TypeId×SV×SV)):Prop:=
 match x with
 | .mk (_,e,.v (.slice a n _),.v (.int _ i))=>0<bC P e/\u (Bl a n i)/\K (.v (ct a (i.toNat * bC P e)))
 | .mk (st,e,.vec k v,.v (.int _ i))=>aI (.mk (k:=fun b:Vc=>0<bC P e/\u (0<=i/\i<b.n/\b.sz=bC P e)/\K (.vp k v (i.toNat * bC P e))) (cN st.vc k v))
 |_=>False
def vN {P:Program} {t:TypeId} {u:Prop->Prop} {K:SV->Prop} (x:A (P,t,u,K) (SV×SV)):Prop:=
 match x with
 | .mk (.v (.string s),.v (.int _ i))=>P.underlying t=some .string/\u (0<=i/\i<(tl s).length)/\K (.v (.int .u8 ((tl s).getD i.toNat 0).toNat))
 |_=>False
def Ie {s:List UInt8} {u:Prop->Prop} {K:SV->Prop} (x:A (s,u,K) (Int×Int)):Prop:=
 match x with
 | .mk (l,h)=>u (0<=l/\l<=h/\h<=s.length)/\K (.v (.string (bs ((s.take h.toNat).drop l.toNat))))
def uv {P:Program} {t:TypeId} {u:Prop->Prop} {K:SV->Prop} (x:A (P,t,u,K) (SV×Option SV×Option SV)):Prop:=
 match x with
 | .mk (.v (.string s),lo,hi)=>P.underlying t=some .string/\
   aI (.mk (k:=fun l:Int=>aI (.mk (k:=fun h:Int=>Ie (.mk (k:=(tl s,u,K)) (l,h))) (qL hi (tl s).length))) (qL lo 0))
 | .mk (.v (.slice a n c),lo,hi)=>aI (.mk (k:=fun l:Int=>aI (.mk (k:=fun h:Int=>aI (.mk (k:=fun e:TypeId=>
   0<bC P e/\u (0<=l/\l<=h/\h<=c)/\K (.v (PY a c l.toNat h.toNat (bC P e)))) (iQ P t))) (qL hi n))) (qL lo 0))
 |_=>False
def xz {m:Mem} {x:Value} {u:Prop->Prop} {K:SV->Prop} (ag:A (m,x,u,K) (Option Nat)):Prop:=
 match ag with
 | .mk none=>∃c,u (Rd m x [c])/\K (.v c)
 | .mk (some n)=>∃cs,u (Rd m x cs/\cs.length=n)/\K (.v (.agg ⟨cs⟩))
def xb {b:Vc} {o:Nat} {u:Prop->Prop} {K:SV->Prop} (ag:A (b,o,u,K) (Option Nat)):Prop:=
 match ag with
 | .mk none=>u (o<b.xs.length)/\K (.v (b.xs.getD o undef))
 | .mk (some n)=>0<n/\u (o+n<=b.xs.length)/\K (.v (.agg ⟨(b.xs.drop o).take n⟩))
def o6 {P:Program} {t:TypeId} {u:Prop->Prop} {K:SV->Prop} (x:A (P,t,u,K) (LS×SV)):Prop:=
 match x with
 | .mk (st,.box k o)=>aI (.mk (k:=fun b:Bx=>(b.ty<om)/\aI (.mk (k:=fun ag:Option Nat=>aI (.mk (k:=K) (vg b.cs o ag))) (eo P t))) (ie st.bx k))
 | .mk (st,.vp k v o)=>aI (.mk (k:=fun b:Vc=>aI (.mk (k:=fun ag:Option Nat=>xb (.mk (k:=(b,o,u,K)) ag)) (eo P t))) (cN st.vc k v))
 | .mk (st,.v x)=>aI (.mk (k:=fun ag:Option Nat=>xz (.mk (k:=(st.m,x,u,K)) ag)) (eo P t))
 |_=>False
def mY:SV->Option SV
 | .v x=>some (.v x)
 | .box k o=>some (.box k o)
 | .vec k u=>some (.vec k u)
 | .vp k u o=>some (.vp k u o)
 | .mp k=>some (.mp k)
 | .mv f k o=>some (.mv f k o)
 | .agg cs=>some (.agg cs)
 | .tup _=>none
def tY {K:SV->Prop} (x:A K (SV×Nat)):Prop:=
 match x with
 | .mk (.tup l,i)=>aI (.mk (k:=K) (l[i]?.bind mY))
 | .mk (.v (.tuple ⟨l⟩),i)=>aI (.mk (k:=K) (l[i]?.map .v))
 |_=>False
def sD {P:Program} {t:TypeId} {K:SV->Prop} (x:A (P,t,K) (LS×SV)):Prop:=
 match x with
 | .mk (_,.v (.string s))=>P.underlying t=some .string/\K (.v (.int .i64 (tl s).length))
 | .mk (_,.v (.slice _ n _))=>aI (.mk (k:=fun _:TypeId=>K (.v (.int .i64 n))) (iQ P t))
 | .mk (st,.vec k v)=>aI (.mk (k:=fun _:TypeId=>aI (.mk (k:=fun b:Vc=>K (.v (.int .i64 b.n))) (cN st.vc k v))) (iQ P t))
 |_=>False
def vx {K:SV->Prop} (x:A K (SV×SV)):Prop:=
 match x with
 | .mk (.v (.int k a),.v (.int _ b))=>K (.v (.int k (if b<a then b else a)))
 |_=>False
def vy {K:SV->Prop} (x:A K (SV×SV)):Prop:=
 match x with
 | .mk (.v (.int k a),.v (.int _ b))=>K (.v (.int k (if a<b then b else a)))
 |_=>False
def mx (a b:Int):Int:=if a<b then b else a
def vk {K:SV->Prop} (x:A K (SV×SV×SV×SV)):Prop:=
 match x with
 | .mk (.v (.int k a),.v (.int _ b),.v (.int _ c),.v (.int _ d))=>K (.v (.int k (mx (mx (mx a b) c) d)))
 |_=>False
def tK {p:bt} {a b:Operand} {st:LS} {g:Gd} {K:SV->Prop} (x:A (p,a,b,st,g,K) PM):Prop:=
 match g,x with
 |⟨i,_,q,.lit true⟩,_=>ns q p=true/\aI (.mk (k:=K) (cD st ((i,true)::q) a))
 |⟨i,_,q,.lit false⟩,_=>ns q p=true/\aI (.mk (k:=K) (cD st ((i,false)::q) b))
 |⟨i,_,q,.sym c⟩,.mk md=>ns q p=true/\
   aI (.mk (k:=fun x:SV=>aI (.mk (k:=fun y:SV=>tL (.mk (k:=(md,K)) (c,x,y))) (cD st ((i,false)::q) b))) (cD st ((i,true)::q) a))
open Classical in
noncomputable def lG:List Value->Value->Option Value
 |k::v::r,s=>if k=s then some v else lG r s
 |_,_=>none
open Classical in
noncomputable def vz:List Value->Value->Value->List Value
 |k::v::r,s,x=>if k=s then k::x::r else k::v::vz r s x
 |_,s,x=>[s,x]
def BY:Option Value->Bool
 |some (.bool b)=>b
 |_=>false
def jb (P:Program) (t:TypeId):Nat×Option Value:=
 match P.underlying t with
 |some (.map k e)=>(match P.underlying k,P.underlying e with
  |some .string,some .bool=>(1000000,none)
  |some .string,_=>(1000002,some (((P.info? e).bind (·.zero)).getD undef))
  |_,some .bool=>(1000001,none)
  |_,_=>(0,none))
 |_=>(0,none)
def gr (g:Nat) (v:Value):Prop:=if g=1000001 then ∃s n,v= .agg ⟨[.string s,.int .i64 n]⟩ else ∃s,v= .string s
def kJ (g:Nat) (v:Value):Prop:=if g=1000002 then True else ∃b,v= .bool b
open Classical in
noncomputable def vT:List MapEntry->Value->Nat->Option (Nat×Value)
 |[],_,_=>none
 |e::es,s,i=>if e.key=s then some (i,e.val) else vT es s (i+1)
def vt (P:Program) (t:TypeId):Prop:=
 om<=(jb P t).1/\∃k e,P.underlying t=some (.map k e)/\
  (∀w key em n,gr (jb P t).1 key->(Instr.checkKey em (n+2) k key).run P w= .ok () w)/\
  (∀w key es,gr (jb P t).1 key->(∀x∈es,gr (jb P t).1 x.key)->(Instr.findKey k key es).run P w= .ok (vT es key 0) w)/\
  (∀w,(zeroValue e).run P w= .ok ((jb P t).2.getD (.bool false)) w)
def plain:SV->Option Value
 | .v x=>some x
 |_=>none
def mf:List SV->Option (List Value)
 |[]=>some []
 |s::r=>(plain s).bind fun x=>(mf r).map (x:: ·)
def oX:SV->Option Value
 | .v x=>some x
 | .agg cs=>(mf cs).map fun l=> .agg ⟨l⟩
 |_=>none
def tW {l:List Value} {key:Value} {K:SV->Prop} (x:A (l,key,K) (Bool×Option Value)):Prop:=
 match x with
 | .mk (false,none)=>K (.v (.bool (BY (lG l key))))
 | .mk (false,some z)=>(∀v,lG l key=some v->K (.v v))/\(lG l key=none->K (.v z))
 | .mk (true,some z)=>(∀v,lG l key=some v->K (.tup [.v v,.v (.bool true)]))/\(lG l key=none->K (.tup [.v z,.v (.bool false)]))
 |_=>False
def tV {P:Program} {t:TypeId} {c:Bool} {K:SV->Prop} (x:A (P,t,c,K) (LS×SV×Option Value)):Prop:=
 match x with
 | .mk (st,.mp k,some key)=>aI (.mk (k:=fun b:Bx=>(b.ty==(jb P t).1)=true/\vt P t/\gr b.ty key/\aI (.mk (k:=fun l:List Value=>tW (.mk (k:=(l,key,K)) (c,(jb P t).2))) (mf b.cs))) (ie st.bx k))
 |_=>False
def qOp {P:Program} {op:Op} {K:SV->Prop} (x:A (P,op,K) (LS×bt)):Prop:=
 match op,x with
 | .move x,.mk (st,p) | .assign x,.mk (st,p)=>aI (.mk (k:=K) (cD st p x))
 | .pick (.tmp t) a b,.mk (st,p)=>aI (.mk (k:=fun g:Gd=>tK (.mk (k:=(p,a,b,st,g,K)) (A3 a b))) (zl st.rho t))
 | .nilCheck x,.mk (st,p)=>aI (.mk (k:=fun s:SV=>tU (.mk (k:=(py st p,K)) s)) (cD st p x))
 | .binOp op t x (.const .nilIface) _,.mk (st,p)=>aI (.mk (k:=fun a:SV=>vj (.mk (k:=(P,op,t,py st p,K)) a)) (cD st p x))
 | .binOp op t x y _,.mk (st,p)=>aI (.mk (k:=fun a:SV=>aI (.mk (k:=fun b:SV=>qk (.mk (k:=(P,op,t,py st p,K)) (a,b))) (cD st p y))) (cD st p x))
 | .unOp op _ x,.mk (st,p)=>aI (.mk (k:=fun s:SV=>uu (.mk (k:=(op,py st p,K)) s)) (cD st p x))
 | .convert src dst x,.mk (st,p)=>aI (.mk (k:=fun s:SV=>qU (.mk (k:=(py st p,K)) (st,qA P src dst,s))) (cD st p x))
 | .fieldAddr s x f,.mk (st,p)=>aI (.mk (k:=fun a:SV=>aI (.mk (k:=fun fo:Nat×Option Nat×Nat=>sE (.mk (k:=(py st p,K)) (st,a,fo.1))) (cM P s f))) (cD st p x))
 | .field s x f,.mk (st,p)=>aI (.mk (k:=fun cs:List SV=>aI (.mk (k:=fun fo:Nat×Option Nat×Nat=>aI (.mk (k:=K) (vg cs fo.1 fo.2.1))) (cM P s f))) ((cD st p x).bind oQ))
 | .indexAddr t x i,.mk (st,p)=>aI (.mk (k:=fun a:SV=>aI (.mk (k:=fun i:SV=>aI (.mk (k:=fun e:TypeId=>tX (.mk (k:=(P,py st p,K)) (st,e,a,i))) (iQ P t))) (cD st p i))) (cD st p x))
 | .index t x i,.mk (st,p)=>aI (.mk (k:=fun a:SV=>aI (.mk (k:=fun i:SV=>vN (.mk (k:=(P,t,py st p,K)) (a,i))) (cD st p i))) (cD st p x))
 | .slice t x lo hi none,.mk (st,p)=>aI (.mk (k:=fun a:SV=>aI (.mk (k:=fun lo:Option SV=>aI (.mk (k:=fun hi:Option SV=>uv (.mk (k:=(P,t,py st p,K)) (a,lo,hi))) (xd st p hi))) (xd st p lo))) (cD st p x))
 | .load t a,.mk (st,p)=>aI (.mk (k:=fun a:SV=>o6 (.mk (k:=(P,t,py st p,K)) (st,a))) (cD st p a))
 | .extract x i,.mk (st,p)=>aI (.mk (k:=fun a:SV=>tY (.mk (k:=K) (a,i))) (cD st p x))
 | .build t parts,.mk (st,p)=>nd P t=true/\aI (.mk (k:=fun z:List SV=>aI (.mk (k:=fun cs:List SV=>K (.agg cs)) (u7 P t st p parts.toList z))) (ft P t))
 | .call {callee:= .builtin .len,args:=⟨[x]⟩,argTypes:=⟨[t]⟩},.mk (st,p)=>aI (.mk (k:=fun a:SV=>sD (.mk (k:=(P,t,K)) (st,a))) (cD st p x))
 | .call {callee:= .builtin .min,args:=⟨[x,y]⟩,..},.mk (st,p)=>aI (.mk (k:=fun a:SV=>aI (.mk (k:=fun b:SV=>vx (.mk (k:=K) (a,b))) (cD st p y))) (cD st p x))
 | .lookup t x i c,.mk (st,p)=>aI (.mk (k:=fun a:SV=>aI (.mk (k:=fun i:SV=>tV (.mk (k:=(P,t,c,K)) (st,a,oX i))) (cD st p i))) (cD st p x))
 | .call {callee:= .builtin .max,args:=⟨[x,y]⟩,..},.mk (st,p)=>aI (.mk (k:=fun a:SV=>aI (.mk (k:=fun b:SV=>vy (.mk (k:=K) (a,b))) (cD st p y))) (cD st p x))
 | .call {callee:= .builtin .max,args:=⟨[x,y,z,u]⟩,..},.mk (st,p)=>aI (.mk (k:=fun a:SV=>aI (.mk (k:=fun b:SV=>aI (.mk (k:=fun c:SV=>aI (.mk (k:=fun d:SV=>vk (.mk (k:=K) (a,b,c,d))) (cD st p u))) (cD st p z))) (cD st p y))) (cD st p x))
 |_,_=>False
structure Hd where
 a:Option Addr
 n:Nat
 c:Nat
def Hd.val (h:Hd):Value:= .slice h.a h.n h.c
structure Vl where
 β:Nat->Nat
 γ:Nat->Nat->Hd
def bj (V:Vl):SV->Value
 | .v x=>x
 | .box k o=> .pointer (some ⟨V.β k,o,none⟩)
 | .vec k u=>(V.γ k u).val
 | .vp k u o=> .pointer ((V.γ k u).a.map (·.add o))
 | .mp k=> .map (some (V.β k))
 | .mv f k o=> .func (.func f) ⟨[.pointer (some ⟨V.β k,o,none⟩)]⟩ ⟨[]⟩
 |_=>undef
def mE (V:Vl):SV->Value
 | .agg cs=> .agg ⟨cs.map (bj V)⟩
 |s=>bj V s
def den (V:Vl):SV->Value
 | .tup l=> .tuple ⟨l.map (mE V)⟩
 |s=>mE V s
def r8 (d:Nat) (o o' :Option Obj):Prop:=
 match o with
 |some (.cells c _ _)=>∃c' t' f',o' =some (.cells c' t' f')/\∀j,j<d->c'[j]? =c[j]?
 |o=>o' =o
def Mem.le (m m' :Mem):Prop:=∀b,m.D b<=m'.D b/\(0<m.D b->b<m.w.heap.size/\r8 (m.D b) m.w.heap[b]? m'.w.heap[b]?)
def Hd.blk (h:Hd):Option Nat:=h.a.map (·.block)
def np (l:List (Value×Value)):List Value:=l.flatMap fun x=>[x.1,x.2]
def mu (ty:TypeId) (vs:List Value) (o:Obj):Prop:=
 if ty<om then o= .cells ⟨vs⟩ ty (0,0)
 else ∃es pJ l,o= .map es pJ/\vs=np l/\es.toList.map (fun e=>(e.key,e.val))=l/\∀x∈l,gr ty x.1/\kJ ty x.2
theorem YP (s:ByteArray):gr 1000000 (.string s)=True:=eq_true (by unfold gr;rw[ae (by decide)];exact⟨s,rfl⟩)
theorem Oh (s:ByteArray) (n:Int):gr 1000001 (.agg ⟨[.string s,.int .i64 n]⟩)=True:=eq_true (by unfold gr;rw[aj rfl];exact⟨s,n,rfl⟩)
theorem YO (s:ByteArray):gr 1000002 (.string s)=True:=eq_true (by unfold gr;rw[ae (by decide)];exact⟨s,rfl⟩)
theorem Yk (b:Bool):kJ 1000000 (.bool b)=True:=eq_true (by unfold kJ;rw[ae (by decide)];exact⟨b,rfl⟩)
theorem Yj (b:Bool):kJ 1000001 (.bool b)=True:=eq_true (by unfold kJ;rw[ae (by decide)];exact⟨b,rfl⟩)
theorem Yi (v:Value):kJ 1000002 v=True:=eq_true (by unfold kJ;rw[aj rfl];trivial)
def CD (V:Vl) (D:Nat->Nat) (w:World) (b:Bx):Prop:=
 (∃o,w.heap[V.β b.id]? =some o/\mu b.ty (b.cs.map (bj V)) o)/\D (V.β b.id)=0
def yc (V:Vl) (D:Nat->Nat) (w:World) (b:Vc):Prop:=
 w.ownsRow 0 b.el b.sz (V.γ b.id b.ver).val b.n b.xs/\(∀g,(V.γ b.id b.ver).blk=some g->D g<=b.n * b.sz)/\0<b.sz/\∀u∈b.xs,u.oneCell' =true
def a7 (V:Vl) (H:Hp):List Nat:=H.bx.map (fun b=>V.β b.id)++H.vc.filterMap fun b=>(V.γ b.id b.ver).blk
structure HSat (V:Vl) (D:Nat->Nat) (w:World) (H:Hp):Prop where
 bx:∀b∈H.bx,CD V D w b
 vc:∀b∈H.vc,yc V D w b
 apart:(a7 V H).Nodup
 uniq:(H.vc.map (·.id)).Nodup
structure Frm (F:Nat->Prop) (w:World) (D:Nat->Nat) (w' :World) (D' :Nat->Nat):Prop where
 os:w'.os=w.os
 tape:w'.tape=w.tape
 output:w'.output=w.output
 size:w.heap.size<=w'.heap.size
 same:∀b,b<w.heap.size->¬F b->w'.heap[b]? =w.heap[b]? /\D' b=D b
def Wf (w:World) (D:Nat->Nat):Prop:=∀b,w.heap.size<=b->D b=0
def FnH (P:Program) (f:FuncId) (args:List SV) (H:Hp) (m:Mem) (R:SV->Hp->Mem->Prop):Prop:=
 ∀(V:Vl) (w:World) (D:Nat->Nat),Wf w D->m.le ⟨w,D⟩->HSat V D w H->
  Calls P f ⟨args.map (den V)⟩ w fun e w' =>∃(r:SV) (V' :Vl) (D' :Nat->Nat) (H' :Hp) (m' :Mem),
   e= .returned (den V' r)/\Wf w' D' /\HSat V' D' w' H' /\(∀b∈H.bx,V'.β b.id=V.β b.id)/\(∀b∈H.vc,∀u,u<=b.ver->V'.γ b.id u=V.γ b.id u)/\
   Frm (· ∈a7 V H) w D w' D' /\(∀b∈a7 V' H',b∈a7 V H\/w.heap.size<=b)/\
   Mem.le ⟨w,D⟩ ⟨w',D'⟩/\m.le m' /\m'.le ⟨w',D'⟩/\R r H' m'
structure Ctx where
 w0:World
 D0:Nat->Nat
 F:Nat->Prop
 H0:Hp
 V0:Vl
 m0:Mem
def fY (rho:List Gd) (p:bt):Prop:=∀x∈p,∃g,gk rho x.1=some g
def bS:List Vc->Nat->Nat->Prop
 |[],_,_=>True
 |⟨k',u',_,_,_,_⟩::r,k,u=>if k' =k then u<=u' else bS r k u
def ll (nid:Nat) (vc:List Vc):SV->Prop
 | .v _=>True
 | .box k _=>k<nid
 | .vec k u=>k<nid/\bS vc k u
 | .vp k u _=>k<nid/\bS vc k u
 | .mp k=>k<nid
 | .mv _ k _=>k<nid
 | .agg _=>True
 | .tup _=>True
def fy (nid:Nat) (vc:List Vc):List SV->Prop
 |[]=>True
 |s::r=>ll nid vc s/\fy nid vc r
def okB (nid:Nat) (vc:List Vc):SV->Prop
 | .agg cs=>fy nid vc cs
 |s=>ll nid vc s
def xC (nid:Nat) (vc:List Vc):List SV->Prop
 |[]=>True
 |s::r=>okB nid vc s/\xC nid vc r
def jg (nid:Nat) (vc:List Vc):SV->Prop
 | .tup l=>xC nid vc l
 |s=>okB nid vc s
structure SatF (n:Nat) (env:List Ev) (rho:List Gd) (a:Act) (V:Vl):Prop where
 defers:a.defers=[]
 size:a.tmps.size=n
 pth:∀e∈env,fY rho e.p
 env:∀t p s,fY rho p->fS env t p=some s->bU rho p=true->a.tmps[t]? =some (den V s)
 rho:∀g∈rho,gk rho g.i=some g/\fY rho g.p/\a.tmps[g.slot]? =some (if bU rho g.p=true then .bool g.b.val else undef)
structure SatW (C:Ctx) (bx:List Bx) (vc:List Vc) (nid:Nat) (m:Mem) (V:Vl) (D:Nat->Nat) (w:World):Prop where
 heap:HSat V D w ⟨bx,vc⟩
 wf:Wf w D
 frm:Frm C.F C.w0 C.D0 w D
 own:∀b∈a7 V ⟨bx,vc⟩,C.F b\/C.w0.heap.size<=b
 baseB:∀b∈C.H0.bx,V.β b.id=C.V0.β b.id/\b.id<nid
 baseV:∀b∈C.H0.vc,(∀u,u<=b.ver->V.γ b.id u=C.V0.γ b.id u)/\b.id<nid/\bS vc b.id b.ver
 ids:(∀b∈bx,b.id<nid/\fy nid vc b.cs)/\∀b∈vc,b.id<nid
 le0:Mem.le ⟨C.w0,C.D0⟩ ⟨w,D⟩
 m0:C.m0.le m
 mle:m.le ⟨w,D⟩
structure Sat (C:Ctx) (n:Nat) (st:LS) (a:Act) (V:Vl) (D:Nat->Nat) (w:World):Prop where
 f:SatF n st.env st.rho a V
 ids:∀e∈st.env,jg st.nid st.vc e.s
 w:SatW C st.bx st.vc st.nid st.m V D w
theorem Sat.env {C:Ctx} {n:Nat} {st:LS} {a:Act} {V:Vl} {D:Nat->Nat} {w:World} (h:Sat C n st a V D w):∀t p s,fY st.rho p->fS st.env t p=some s->bU st.rho p=true->a.tmps[t]? =some (den V s):=h.f.env
theorem Sat.rho {C:Ctx} {n:Nat} {st:LS} {a:Act} {V:Vl} {D:Nat->Nat} {w:World} (h:Sat C n st a V D w):∀g∈st.rho,gk st.rho g.i=some g/\fY st.rho g.p/\a.tmps[g.slot]? =some (if bU st.rho g.p=true then .bool g.b.val else undef):=h.f.rho
theorem Sat.heap {C:Ctx} {n:Nat} {st:LS} {a:Act} {V:Vl} {D:Nat->Nat} {w:World} (h:Sat C n st a V D w):HSat V D w ⟨st.bx,st.vc⟩:=h.w.heap
theorem Sat.mle {C:Ctx} {n:Nat} {st:LS} {a:Act} {V:Vl} {D:Nat->Nat} {w:World} (h:Sat C n st a V D w):st.m.le ⟨w,D⟩:=h.w.mle
def jO (C:Ctx) (n:Nat) (st:LS) (a:Act) (w:World):Prop:=st.rho=[]/\∃V D,Sat C n st a V D w
def WP (P:Program) (n:Nat) (c:Code) (Q:Exit->LS->Prop) (st:LS):Prop:=
 ∀(C:Ctx) (a:Act) (w:World),jO C n st a w->c.wp P (fun e a' w' =>∃ak,jO C n ak a' w' /\Q e ak) a w
def jR {P:Program} {n:Nat} {c:Code} {Q:Exit->LS->Prop} (x:A (P,n,c,Q) LS):Prop:=match x with | .mk st=>WP P n c Q st
def Fq {P:Program} {f:FuncId} {R:SV->Hp->Mem->Prop} (x:A (P,f,R) (List SV×Hp×Mem)):Prop:=match x with | .mk (args,H,m)=>FnH P f args H m R
/-! Operations that act. -/
def wE:List SV->Option (List Value)
 |[]=>some []
 |s::r=>(oX s).bind fun x=>(wE r).map (x:: ·)
def jP:List SV->Bool
 |[]=>true
 | .v x::r=>x.oneCell' &&jP r
 | .box _ _::r=>jP r
 | .vec _ _::r=>jP r
 | .vp _ _ _::r=>jP r
 | .mp _::r=>jP r
 | .mv _ _ _::r=>jP r
 | .agg _::_=>false
 | .tup _::_=>false
def km:List Bx->Nat->List SV->List Bx
 |[],_,_=>[]
 |⟨k',t',du⟩::r,k,cs=>if k' =k then⟨k',t',cs⟩::r else⟨k',t',du⟩::km r k cs
def po:List Vc->Nat->Vc->List Vc
 |[],_,_=>[]
 |⟨k',u',e',z',n',x'⟩::r,k,x=>if k' =k then x::r else⟨k',u',e',z',n',x'⟩::po r k x
def Ia (xs:List Value) (off:Nat):List Value->List Value
 |[]=>xs
 |c::r=>Ia (xs.set off c) (off+1) r
def Er {st:LS} {K:Value->LS->Prop} (x:A (st,K) Vc):Prop:=
 match x with
 | .mk b=>∀(a:Option Addr) (c:Nat) (m1:Mem),st.m.le m1->b.n<=c->aK m1 a b.n b.sz b.xs->K (.slice a b.n c) ⟨st.env,st.rho,st.bx,st.vc,st.nid,m1⟩
def oh:List SV->(List SV->LS->Prop)->LS->Prop
 |[],K,st=>K [] st
 | .vec k u::r,K,st=>aI (.mk (k:=fun b:Vc=>Er (.mk (k:=(st,fun v ak=>oh r (fun r' la=>K (.v v::r') la) ak)) b)) (cN st.vc k u))
 | .v x::r,K,st=>oh r (fun r' ak=>K (.v x::r') ak) st
 | .box k o::r,K,st=>oh r (fun r' ak=>K (.box k o::r') ak) st
 | .vp k u o::r,K,st=>oh r (fun r' ak=>K (.vp k u o::r') ak) st
 | .mp k::r,K,st=>oh r (fun r' ak=>K (.mp k::r') ak) st
 | .mv f k o::r,K,st=>oh r (fun r' ak=>K (.mv f k o::r') ak) st
 | .agg cs::r,K,st=>oh r (fun r' ak=>K (.agg cs::r') ak) st
 | .tup cs::r,K,st=>oh r (fun r' ak=>K (.tup cs::r') ak) st
def lI {K:List SV->LS->Prop} (x:A K (LS×List SV)):Prop:=match x with | .mk (st,l)=>oh l K st
def A2:List SV->(List SV->LS->Prop)->LS->Prop
 |[],K,st=>K [] st
 | .agg cs::r,K,st=>oh cs (fun du ak=>A2 r (fun r' la=>K (.agg du::r') la) ak) st
 |s::r,K,st=>oh [s] (fun s' ak=>A2 r (fun r' la=>K (s' ++r') la) ak) st
def oy {K:List SV->LS->Prop} (x:A K (LS×List SV)):Prop:=match x with | .mk (st,l)=>A2 l K st
def zf (acc:List Nat) (k:Nat):List Nat:=if acc.contains k=true then acc else acc++[k]
def ko (acc:List Nat):List SV->List Nat
 |[]=>acc
 | .box k _::r=>ko (zf acc k) r
 | .vec k _::r=>ko (zf acc k) r
 | .vp k _ _::r=>ko (zf acc k) r
 | .mp k::r=>ko (zf acc k) r
 | .mv _ k _::r=>ko (zf acc k) r
 | .v _::r=>ko acc r
 | .agg _::r=>ko acc r
 | .tup _::r=>ko acc r
def cellsOf:Option Bx->List SV
 |some b=>b.cs
 |none=>[]
def oA (acc:List Nat):List SV->List Nat
 |[]=>acc
 | .agg cs::r=>oA (ko acc cs) r
 |s::r=>oA (ko acc [s]) r
def zp (bx:List Bx):List Nat->List Nat->List Nat
 |acc,[]=>acc
 |acc,k::r=>zp bx (ko acc (cellsOf (ie bx k))) r
def tv (bx:List Bx) (l:List Nat):List Nat:=zp bx (zp bx l l) (zp bx l l)
def idxOf:List Nat->Nat->Option Nat
 |[],_=>none
 |j::r,i=>if j=i then some 0 else(idxOf r i).map (· +1)
def jf (L:List Nat) (base:Nat) (i:Nat):Nat:=((idxOf L i).map fun j=>j).getD (base+i)
def fi (L:List Nat) (base:Nat) (j:Nat):Nat:=(L[j]?).getD (base+j)
def mA (ρ:Nat->Nat):SV->SV
 | .box k o=> .box (ρ k) o
 | .vec k u=> .vec (ρ k) u
 | .vp k u o=> .vp (ρ k) u o
 | .mp k=> .mp (ρ k)
 | .mv f k o=> .mv f (ρ k) o
 | .v x=> .v x
 | .agg cs=> .agg cs
 | .tup cs=> .tup cs
def zg (ρ:Nat->Nat):SV->SV
 | .agg cs=> .agg (cs.map (mA ρ))
 |s=>mA ρ s
def tS (ρ:Nat->Nat):SV->SV
 | .tup l=> .tup (l.map (zg ρ))
 |s=>zg ρ s
def o5 (ρ:Nat->Nat):Bx->Bx |⟨k,t,cs⟩=>⟨ρ k,t,cs.map (mA ρ)⟩
def jL (ρ:Nat->Nat):Vc->Vc |⟨k,u,e,z,n,xs⟩=>⟨ρ k,u,e,z,n,xs⟩
def mC:List Vc->Nat->Option Vc
 |[],_=>none
 |⟨k',u',e',z',n',x'⟩::r,i=>if k' =i then some ⟨k',u',e',z',n',x'⟩ else mC r i
def gd (L:List Nat):List Bx->List Bx
 |[]=>[]
 |⟨k',t',du⟩::r=>if L.contains k' =true then⟨k',t',du⟩::gd L r else gd L r
def fL (L:List Nat):List Vc->List Vc
 |[]=>[]
 |⟨k',u',e',z',n',x'⟩::r=>if L.contains k' =true then⟨k',u',e',z',n',x'⟩::fL L r else fL L r
def mT (L:List Nat):List Bx->List Bx
 |[]=>[]
 |⟨k',t',du⟩::r=>if L.contains k' =true then mT L r else⟨k',t',du⟩::mT L r
def mh (L:List Nat):List Vc->List Vc
 |[]=>[]
 |⟨k',u',e',z',n',x'⟩::r=>if L.contains k' =true then mh L r else⟨k',u',e',z',n',x'⟩::mh L r
def ng:List Bx->Nat |[]=>0 |⟨k,_,_⟩::r=>max (k+1) (ng r)
def nf:List Vc->Nat |[]=>0 |⟨k,_,_,_,_,_⟩::r=>max (k+1) (nf r)
structure Cfg where
 own:FuncId->Bool
 pure:FuncId->Option (Mem->List Value->Option (Prop×Value))
def va (st:LS) (L:List Nat) (H' :Hp) (m' :Mem):LS:=
 ⟨st.env,st.rho,H'.bx.map (o5 (fi L st.nid))++mT L st.bx,H'.vc.map (jL (fi L st.nid))++mh L st.vc,st.nid+max (ng H'.bx) (nf H'.vc),m'⟩
def BW:List Nat->Prop
 |[]=>True
 |k::r=>r.contains k=false/\BW r
def uy (n:Nat):List Nat->Prop
 |[]=>True
 |k::r=>k<n/\uy n r
def rN (L:List Nat):SV->Prop
 | .v _=>True
 | .box k _=>L.contains k=true
 | .vec k _=>L.contains k=true
 | .vp k _ _=>L.contains k=true
 | .mp k=>L.contains k=true
 | .mv _ k _=>L.contains k=true
 | .agg _=>True
 | .tup _=>False
def xD (L:List Nat):List SV->Prop
 |[]=>True
 |s::r=>rN L s/\xD L r
def E6 (L:List Nat):SV->Prop
 | .agg cs=>xD L cs
 |s=>rN L s
def Bt (L:List Nat):List SV->Prop
 |[]=>True
 |s::r=>E6 L s/\Bt L r
def zn (L:List Nat):List Bx->Prop
 |[]=>True
 |⟨_,_,cs⟩::r=>xD L cs/\zn L r
def If (st:LS) (L:List Nat) (args:List SV):Prop:=BW L/\uy st.nid L/\Bt L args/\zn L (gd L st.bx)
def rZ (nB nV:List Nat) (len:Nat):SV->Prop
 | .v _=>True
 | .box j _=>if j<len then nB.contains j=true else True
 | .vec j _=>if j<len then nV.contains j=true else True
 | .vp j _ _=>if j<len then nV.contains j=true else True
 | .mp j=>if j<len then nB.contains j=true else True
 | .mv _ j _=>if j<len then nB.contains j=true else True
 | .agg _=>True
 | .tup _=>True
def ya (nB nV:List Nat) (len:Nat):List SV->Prop
 |[]=>True
 |s::r=>rZ nB nV len s/\ya nB nV len r
def CC (nB nV:List Nat) (len:Nat):SV->Prop
 | .agg cs=>ya nB nV len cs
 |s=>rZ nB nV len s
def CB (nB nV:List Nat) (len:Nat):List SV->Prop
 |[]=>True
 |s::r=>CC nB nV len s/\CB nB nV len r
def Fp (nB nV:List Nat) (len:Nat):SV->Prop
 | .tup l=>CB nB nV len l
 |s=>CC nB nV len s
def zA (nB nV:List Nat) (len:Nat):List Bx->Prop
 |[]=>True
 |⟨k,_,cs⟩::r=>(if k<len then nB.contains k=true else True)/\ya nB nV len cs/\zA nB nV len r
def zz (nV:List Nat) (len:Nat):List Vc->Prop
 |[]=>True
 |⟨k,_,_,_,_,_⟩::r=>(if k<len then nV.contains k=true else True)/\zz nV len r
def yV (nid:Nat) (vc:List Vc):List Bx->Prop
 |[]=>True
 |⟨_,_,cs⟩::r=>fy nid vc cs/\yV nid vc r
def A0 (L:List Nat) (eJ:List Vc):List Vc->Prop
 |[]=>True
 |⟨k,u,_,_,_,_⟩::r=>(if L.contains k=true then bS eJ k u else True)/\A0 L eJ r
def na:List Bx->List Nat
 |[]=>[]
 |⟨k,_,_⟩::r=>k::na r
def lF:List Vc->List Nat
 |[]=>[]
 |⟨k,_,_,_,_,_⟩::r=>k::lF r
def gj (st:LS) (L:List Nat):Hp:=⟨(gd L st.bx).map (o5 (jf L 0)),(fL L st.vc).map (jL (jf L 0))⟩
def Ni {L:List Nat} {r:SV} {H' :Hp} (x:A (L,r,H') (LS×LS×Hp)):Prop:=
 match x with
 | .mk (st,ak,Hi)=>Fp (na Hi.bx) (lF Hi.vc) L.length r/\zA (na Hi.bx) (lF Hi.vc) L.length H'.bx/\zz (lF Hi.vc) L.length H'.vc/\
   jg ak.nid ak.vc (tS (fi L st.nid) r)/\yV ak.nid ak.vc (H'.bx.map (o5 (fi L st.nid)))/\A0 L (H'.vc.map (jL (fi L st.nid))) st.vc
def HC (st:LS) (L:List Nat) (r:SV) (H' :Hp) (m' :Mem):Prop:=Ni (.mk (k:=(L,r,H')) (st,va st L H' m',gj st L))
def H5 {P:Program} {f:FuncId} {st:LS} {args:List SV} {K:SV->LS->Prop} (x:A (P,f,st,args,K) (List Nat)):Prop:=
 match x with
 | .mk L=>If st L args/\Fq (.mk (k:=(P,f,fun r H' m' =>HC st L r H' m' /\K (tS (fi L st.nid) r) (va st L H' m')))
   (args.map (tS (jf L 0)),gj st L,st.m))
def Bh {P:Program} {f:FuncId} {K:SV->LS->Prop} (x:A (P,f,K) (LS×List SV)):Prop:=
 match x with
 | .mk (st,args)=>H5 (.mk (k:=(P,f,st,args,K)) (tv st.bx (oA [] args)))
def Bg {P:Program} {f:FuncId} {st:LS} {args:List SV} {K:SV->LS->Prop} (x:A (P,f,st,args,K) Bool):Prop:=
 match x with
 | .mk true=>Bh (.mk (k:=(P,f,K)) (st,args))
 | .mk false=>oy (.mk (k:=fun jY ak=>Bh (.mk (k:=(P,f,K)) (ak,jY))) (st,args))
def tT (st:LS) (p:bt):List Operand->Option (List SV)
 |[]=>some []
 |x::r=>(cD st p x).bind fun s=>(tT st p r).map (s:: ·)
def oY (sz:Nat) (st:LS) (p:bt):List (Nat×Operand)->List SV->Option (List SV)
 |[],cs=>some cs
 |(i,x)::r,cs=>((cD st p x).bind kU).bind fun l=>if l.length=sz then(if i * sz+sz<=cs.length then oY sz st p r (kK cs (i * sz) l) else none) else none
def tF (sz:Nat) (st:LS) (p:bt):Nat->List (Nat×Operand)->Option (List SV)
 |_,[]=>some []
 |i,(j,x)::r=>if j=i then((cD st p x).bind kU).bind fun l=>if l.length=sz then(tF sz st p (i+1) r).map (l++ ·) else none else none
def AT (sz:Nat) (st:LS) (p:bt) (parts:List (Nat×Operand)) (len:Nat) (z:List SV):Option (List SV)->Option (List SV)
 |some cs=>if cs.length=len * sz then some cs else oY sz st p parts (List.replicate len z).flatten
 |none=>oY sz st p parts (List.replicate len z).flatten
def nc:Vc->Nat->List Value->Vc |⟨k,u,e,z,_,_⟩,n,xs=>⟨k,u+1,e,z,n,xs⟩
def room (n wq:Nat):Prop:=n * wq<=140737488355328/\n<=maxLen
def vd {P:Program} {tx:TypeId} {sz:Nat} {K:Nat->List Value->Prop} (x:A (P,tx,sz,K) (LS×SV)):Prop:=
 match x with
 | .mk (st,.vec k u)=>aI (.mk (k:=fun _:TypeId=>aI (.mk (k:=fun b:Vc=>b.sz=sz/\K b.n b.xs) (cN st.vc k u))) (iQ P tx))
 | .mk (st,.v (.slice a n _))=>aI (.mk (k:=fun _:TypeId=>∃xs,aK st.m a n sz xs/\(∀u∈xs,u.oneCell' =true)/\K n xs) (iQ P tx))
 | .mk (_,.v (.string s))=>P.underlying tx=some .string/\sz=1/\K (tl s).length (kM (tl s))
 |_=>False
def zm {P:Program} {e tx:TypeId} {y:SV} {K:SV->LS->Prop} (x:A (P,e,tx,y,K) (LS×SV)):Prop:=
 match x with
 | .mk (st,.vec k u)=>aI (.mk (k:=fun b:Vc=>b.sz=bC P e/\b.el=e/\0<bC P e/\aI (.mk (k:=fun z:List SV=>z.length=bC P e/\vd (.mk (k:=(P,tx,bC P e,fun n xs=>room (b.n+n) (nE P e)/\
   K (.vec k (u+1)) ⟨st.env,st.rho,st.bx,po st.vc k (nc b (b.n+n) (b.xs++xs)),st.nid,st.m⟩)) (st,y))) (ft P e))) (cN st.vc k u))
 | .mk (st,.v (.slice none 0 0))=>0<bC P e/\aI (.mk (k:=fun z:List SV=>z.length=bC P e/\vd (.mk (k:=(P,tx,bC P e,fun n xs=>room n (nE P e)/\
   K (.vec st.nid 0) ⟨st.env,st.rho,st.bx,⟨st.nid,0,e,bC P e,n,xs⟩::st.vc,st.nid+1,st.m⟩)) (st,y))) (ft P e))
 |_=>False
def EA {sz:Nat} {cs:List SV} {K:SV->LS->Prop} (x:A (sz,cs,K) (LS×SV)):Prop:=
 match x with
 | .mk (st,.box k o)=>aI (.mk (k:=fun b:Bx=>b.ty<om/\0<sz/\cs.length=sz/\jP cs=true/\fy st.nid st.vc cs/\o+cs.length<=b.cs.length/\K (.v undef) ⟨st.env,st.rho,km st.bx k (kK b.cs o cs),st.vc,st.nid,st.m⟩) (ie st.bx k))
 |_=>False
def E1 {P:Program} {e:TypeId} {z:List Value} {K:SV->LS->Prop} (x:A (P,e,z,K) (LS×SV×SV)):Prop:=
 match x with
 | .mk (st,.v (.int _ l),.v (.int _ cp))=>0<=l/\l<=cp/\room cp.toNat (nE P e)/\z.length=bC P e/\0<bC P e/\jP (z.map .v)=true/\
   K (.vec st.nid 0) ⟨st.env,st.rho,st.bx,⟨st.nid,0,e,bC P e,l.toNat,(List.replicate l.toNat z).flatten⟩::st.vc,st.nid+1,st.m⟩
 |_=>False
def iJ (P:Program) (f:FuncId):Bool:=
 match P.funcs[f]? with
 |some fn=> !(fn.name== "runtime.NumGoroutine")&&fn.body.isSome
 |none=>false
def A7 {c:Cfg} {P:Program} {l:List SV} {K:SV->LS->Prop} (x:A (c,P,l,K) (LS×SV)):Prop:=
 match x with
 | .mk (st,.v (.func (.func f) ⟨[]⟩ ⟨[]⟩))=>iJ P f=true/\Bg (.mk (k:=(P,f,st,l,K)) (c.own f))
 | .mk (st,.mv f k o)=>iJ P f=true/\Bg (.mk (k:=(P,f,st,.box k o::l,K)) (c.own f))
 |_=>False
def E0 {f:FuncId} {K:SV->LS->Prop} (x:A (f,K) (LS×SV)):Prop:=
 match x with
 | .mk (st,.box k o)=>K (.mv f k o) st
 |_=>False
def EB {P:Program} {t:TypeId} {K:SV->LS->Prop} (x:A (P,t,K) (LS×SV×Option Value×Option Value)):Prop:=
 match x with
 | .mk (st,.mp k,some key,some v)=>aI (.mk (k:=fun b:Bx=>(b.ty==(jb P t).1)=true/\vt P t/\gr b.ty key/\kJ b.ty v/\aI (.mk (k:=fun l:List Value=>K (.v undef) ⟨st.env,st.rho,km st.bx k ((vz l key v).map .v),st.vc,st.nid,st.m⟩) (mf b.cs))) (ie st.bx k))
 |_=>False
def oF {c:Cfg} {P:Program} {op:Op} {K:SV->LS->Prop} (x:A (c,P,op,K) (LS×bt)):Prop:=
 match op,x with
 | .alloc t,.mk (st,_)=>aI (.mk (k:=fun cs:List SV=>t<om/\fy st.nid st.vc cs/\K (.box st.nid 0) ⟨st.env,st.rho,⟨st.nid,t,cs⟩::st.bx,st.vc,st.nid+1,st.m⟩) (ft P t))
 | .box t x,.mk (st,p)=>aI (.mk (k:=fun cs:List SV=>t<om/\fy st.nid st.vc cs/\K (.box st.nid 0) ⟨st.env,st.rho,⟨st.nid,t,cs⟩::st.bx,st.vc,st.nid+1,st.m⟩) ((cD st p x).bind kU))
 | .store t a x,.mk (st,p)=>aI (.mk (k:=fun a:SV=>aI (.mk (k:=fun cs:List SV=>EA (.mk (k:=(bC P t,cs,K)) (st,a))) ((cD st p x).bind kU))) (cD st p a))
 | .buildSlice t len parts,.mk (st,p)=>aI (.mk (k:=fun e:TypeId=>aI (.mk (k:=fun z:List SV=>z.length=bC P e/\0<bC P e/\len * bC P e<=16777216/\
   aI (.mk (k:=fun cs:List SV=>lI (.mk (k:=fun du ak=>aI (.mk (k:=fun l:List Value=>jP du=true/\
    K (.vec ak.nid 0) ⟨ak.env,ak.rho,ak.bx,⟨ak.nid,0,e,bC P e,len,l⟩::ak.vc,ak.nid+1,ak.m⟩) (mf du))) (st,cs)))
    (AT (bC P e) st p parts.toList len z (tF (bC P e) st p 0 parts.toList)))) (ft P e))) (iQ P t))
 | .call {callee:= .builtin .append,args:=⟨[s,x]⟩,argTypes:=⟨[t,tx]⟩},.mk (st,p)=>
   aI (.mk (k:=fun s:SV=>aI (.mk (k:=fun y:SV=>aI (.mk (k:=fun e:TypeId=>zm (.mk (k:=(P,e,tx,y,K)) (st,s))) (iQ P t))) (cD st p x))) (cD st p s))
 | .makeSlice t l cp,.mk (st,p)=>aI (.mk (k:=fun l:SV=>aI (.mk (k:=fun cp:SV=>aI (.mk (k:=fun e:TypeId=>aI (.mk (k:=fun z:List Value=>E1 (.mk (k:=(P,e,z,K)) (st,l,cp))) ((ft P e).bind mf))) (iQ P t))) (cD st p cp))) (cD st p l))
 | .makeMap t none,.mk (st,_)=>vt P t/\K (.mp st.nid) ⟨st.env,st.rho,⟨st.nid,(jb P t).1,[]⟩::st.bx,st.vc,st.nid+1,st.m⟩
 | .makeFunc (.func f) ⟨[r]⟩ ⟨[]⟩,.mk (st,p)=>aI (.mk (k:=fun s:SV=>E0 (.mk (k:=(f,K)) (st,s))) (cD st p r))
 | .mapUpdate t m k x,.mk (st,p)=>aI (.mk (k:=fun a:SV=>aI (.mk (k:=fun i:SV=>aI (.mk (k:=fun y:SV=>EB (.mk (k:=(P,t,K)) (st,a,oX i,oX y))) (cD st p x))) (cD st p k))) (cD st p m))
 | .call {callee:= .value f,args,..},.mk (st,p)=>aI (.mk (k:=fun l:List SV=>aI (.mk (k:=fun f:SV=>A7 (.mk (k:=(c,P,l,K)) (st,f))) (cD st p f))) (tT st p args.toList))
 |_,_=>False
inductive OpK where
 |qt
 |pu (F:Mem->List Value->Option (Prop×Value))
 |ac
def pk:Option (Mem->List Value->Option (Prop×Value))->OpK
 |some F=> .pu F
 |none=> .ac
def gL (c:Cfg):Op->OpK
 | .move _ | .assign _ | .pick .. | .nilCheck _ | .binOp .. | .unOp .. | .convert .. | .fieldAddr .. | .field .. | .indexAddr .. | .index .. | .slice .. | .load .. | .extract .. | .build .. | .lookup .. => .qt
 | .call {callee:= .builtin .len,..}=> .qt
 | .call {callee:= .builtin .min,..}=> .qt
 | .call {callee:= .builtin .max,..}=> .qt
 | .call {callee:= .value (.func f),..}=>pk (c.pure f)
 |_=> .ac
def yG:Op->List Operand
 | .call {args,..}=>args.toList
 |_=>[]
def HK {F:List Value->Option (Prop×Value)} {u:Prop->Prop} {K:SV->Prop} (x:A (F,u,K) (Option (List SV))):Prop:=
 match x with
 | .mk l=>aI (.mk (k:=fun y:Prop×Value=>u y.1/\K (.v y.2)) ((l.bind wE).bind F))
/-! A region, in the order of the text. -/
def lg:List Gd->Nat->Bool->List Gd
 |[],_,_=>[]
 |⟨i',t',p',b'⟩::r,j,x=>if i' =j then⟨i',t',p',.lit x⟩::lg r j x else⟨i',t',p',b'⟩::lg r j x
def rh {j:Nat} {w:Bool} {dead live:LS->Prop} (x:A (j,w,dead,live) (LS×Gd)):Prop:=
 match w,x with
 |true,.mk (st,⟨_,t,q,.sym b⟩)=>
   (b=true->live ⟨⟨t,q,.v (.bool true)⟩::st.env,lg st.rho j true,st.bx,st.vc,st.nid,st.m⟩)/\
   (b=false->dead ⟨⟨t,q,.v (.bool false)⟩::st.env,lg st.rho j false,st.bx,st.vc,st.nid,st.m⟩)
 |false,.mk (st,⟨_,t,q,.sym b⟩)=>
   (b=false->live ⟨⟨t,q,.v (.bool false)⟩::st.env,lg st.rho j false,st.bx,st.vc,st.nid,st.m⟩)/\
   (b=true->dead ⟨⟨t,q,.v (.bool true)⟩::st.env,lg st.rho j true,st.bx,st.vc,st.nid,st.m⟩)
 |true,.mk (st,⟨_,_,_,.lit true⟩)=>live st
 |false,.mk (st,⟨_,_,_,.lit false⟩)=>live st
 |true,.mk (st,⟨_,_,_,.lit false⟩)=>dead st
 |false,.mk (st,⟨_,_,_,.lit true⟩)=>dead st
def D3:bt->(LS->Prop)->(LS->Prop)->LS->Prop
 |[],_,live,st=>live st
 |(j,w)::p,dead,live,st=>D3 p dead (fun ak=>aI (.mk (k:=fun g:Gd=>rh (.mk (k:=(j,w,dead,live)) (ak,g))) (gk ak.rho j))) st
def En {dead live:LS->Prop} (x:A (dead,live) (LS×bt)):Prop:=match x with | .mk (st,p)=>D3 p dead live st
def put (st:LS) (d:Option Nat) (p:bt) (s:SV):LS:=
 match d with
 |some d=>⟨⟨d,p,s⟩::st.env,st.rho,st.bx,st.vc,st.nid,st.m⟩
 |none=>st
def lD (st:LS) (i:Nat) (d:Option Nat) (p:bt) (mv:Bool) (s:SV):LS:=
 match mv,d,s with
 |true,some d,.v (.bool b)=>⟨st.env,⟨i,d,p,.sym b⟩::st.rho,st.bx,st.vc,st.nid,st.m⟩
 |_,_,_=>st
def n7:Op->Bool
 | .move _=>true
 |_=>false
def pathOf (st:LS):Option (Nat×Bool)->Option bt
 |none=>some []
 |some (j,w)=>(gk st.rho j).map fun g=>(j,w)::g.p
def lE (st:LS) (i:Nat) (d:Option Nat) (p:bt) (mv:Bool):LS:=
 match mv,d with
 |true,some d=>⟨st.env,⟨i,d,p,.sym false⟩::st.rho,st.bx,st.vc,st.nid,st.m⟩
 |_,_=>st
def xe {c:Cfg} {P:Program} {i:Nat} {o:Oper} {K:LS->Prop} {q:OpK} {dead:Bool} (x:A (c,P,i,o,K,q,dead) (LS×bt)):Prop:=
 match dead,q,x with
 |true,_,.mk (st,p)=>K (lE (put st o.dst p (.v undef)) i o.dst p (n7 o.op))
 |false,.qt,.mk (st,p)=>qOp (.mk (k:=(P,o.op,fun s=>jg st.nid st.vc s/\K (lD (put st o.dst p s) i o.dst p (n7 o.op) s))) (st,p))
 |false,.pu F,.mk (st,p)=>HK (.mk (k:=(F st.m,py st p,fun s=>K (put st o.dst p s))) (tT st p (yG o.op)))
 |false,.ac,.mk (st,p)=>En (.mk (k:=(fun ak=>K (put ak o.dst p (.v undef)),fun ak=>oF (.mk (k:=(c,P,o.op,fun s la=>jg la.nid la.vc s/\K (put la o.dst p s))) (ak,p)))) (st,p))
def j2:List Gd->Option Nat->Bool
 |[],_=>false
 |_::_,none=>false
 |⟨_,t',_,_⟩::r,some d=>if t' =d then true else j2 r (some d)
def Bp {c:Cfg} {P:Program} {i:Nat} {o:Oper} {K:LS->Prop} {st:LS} {p:bt} (x:A (c,P,i,o,K,st,p) (OpK×Bool×Bool)):Prop:=
 match x with
 | .mk (q,dead,false)=>xe (.mk (k:=(c,P,i,o,K,q,dead)) (st,p))
 | .mk (_,_,true)=>False
def one {c:Cfg} {P:Program} {i:Nat} {o:Oper} {K:LS->Prop} (x:A (c,P,i,o,K) (LS×bt)):Prop:=
 match x with
 | .mk (st,p)=>Bp (.mk (k:=(c,P,i,o,K,st,p)) (gL c o.op,vr st.rho p,j2 st.rho o.dst))
def ja:List Nat->Nat->Bool
 |[],_=>false
 |y::r,x=>if y=x then true else ja r x
def mU:List Nat->List Ev->List Ev
 |_,[]=>[]
 |dead,⟨t,[],s⟩::r=>if ja dead t=true then mU dead r else⟨t,[],s⟩::mU dead r
 |dead,⟨t,_::_,_⟩::r=>mU (t::dead) r
def clean (st:LS):LS:=⟨mU [] st.env,[],st.bx,st.vc,st.nid,st.m⟩
def Bn (c:Cfg) (P:Program):List Oper->Nat->(LS->Prop)->LS->Prop
 |[],_,K,st=>K (clean st)
 |o::r,i,K,st=>aI (.mk (k:=fun p:bt=>one (.mk (k:=(c,P,i,o,fun ak=>Bn c P r (i+1) K ak)) (st,p))) (pathOf st o.guard))
def zC {c:Cfg} {P:Program} {i:Nat} {l:List Oper} {K:LS->Prop} (x:A (c,P,i,l,K) LS):Prop:=match x with | .mk st=>Bn c P l i K st
/-! Code. -/
def sd:SV->Option Bool
 | .v (.bool b)=>some b
 |_=>none
def lJ:Code->Bool
 | .ret | .exit _ | .goto _ | .loop _=>false
 | .seq a b=>lJ a&&lJ b
 | .cond _ a b=>lJ a||lJ b
 |_=>true
def jI (K:LS->Prop) (Q:Exit->LS->Prop):Exit->LS->Prop
 | .normal,st=>K st
 |e,st=>Q e st
def A8 (l:Nat) (J:LS->Prop) (Q:Exit->LS->Prop):Exit->LS->Prop
 | .goto l',st=>l' =l/\J st
 |e,st=>Q e st
def pV (id:Nat) (Q:Exit->LS->Prop):Exit->LS->Prop
 | .exit id',st=>if id' =id then Q .normal st else Q (.exit id') st
 |e,st=>Q e st
def my (c:Cfg) (P:Program) (n:Nat):Code->(Exit->LS->Prop)->LS->Prop
 | .skip,Q,st=>Q .normal st
 | .region _ ⟨ops⟩ false,Q,st=>zC (.mk (k:=(c,P,0,ops,Q .normal)) st)
 | .seq (.cond x a b) rest,Q,st=>
  match lJ a&&lJ b with
  |true=>jR (.mk (k:=(P,n,.seq (.cond x a b) rest,Q)) st)
  |false=>aI (.mk (k:=fun t:Bool=>(t=true->my c P n a (jI (my c P n rest Q) Q) st)/\(t=false->my c P n b (jI (my c P n rest Q) Q) st)) ((cD st [] x).bind sd))
 | .seq a b,Q,st=>my c P n a (jI (my c P n b Q) Q) st
 | .cond x a b,Q,st=>aI (.mk (k:=fun t:Bool=>(t=true->my c P n a Q st)/\(t=false->my c P n b Q st)) ((cD st [] x).bind sd))
 | .block id a,Q,st=>my c P n a (pV id Q) st
 | .exit id,Q,st=>Q (.exit id) st
 | .ret,Q,st=>Q .ret st
 | .label _,Q,st=>Q .normal st
 | .goto l,Q,st=>Q (.goto l) st
 |x,Q,st=>jR (.mk (k:=(P,n,x,Q)) st)
def dK {c:Cfg} {P:Program} {n:Nat} {x:Code} {Q:Exit->LS->Prop} (y:A (c,P,n,x,Q) LS):Prop:=match y with | .mk st=>my c P n x Q st
def IG {c:Cfg} {P:Program} {n:Nat} {t e:Code} {Q:Exit->LS->Prop} {st:LS} (y:A (c,P,n,t,e,Q,st) Bool):Prop:=
 match y with
 | .mk b=>(b=true->dK (.mk (k:=(c,P,n,t,Q)) st))/\(b=false->dK (.mk (k:=(c,P,n,e,Q)) st))
/-! Results, loops, joins. -/
def xa:List SV->SV
 |[x]=>x
 |l=> .tup l
def Ep (P:Program) (st:LS) (t:TypeId):Option SV->Option SV
 |some (.box k o)=>(ie st.bx k).bind fun b=>if b.ty<om then(eo P t).bind fun ag=>vg b.cs o ag else none
 |_=>none
def pr (P:Program) (st:LS):List ResultVar->Option (List SV)
 |[]=>some []
 | .tmp t::r=>((fS st.env t []).bind mY).bind fun s=>(pr P st r).map (s:: ·)
 | .cell a t::r=>((Ep P st t (fS st.env a [])).bind mY).bind fun s=>(pr P st r).map (s:: ·)
def Iv {st:LS} {l:List SV} {R:SV->Hp->Mem->Prop} (x:A (st,l,R) (List Nat)):Prop:=
 match x with
 | .mk L=>R (xa l) ⟨gd L st.bx,fL L st.vc⟩ st.m
def zu (P:Program) (res:List ResultVar) (uc:List Nat) (R:SV->Hp->Mem->Prop):Exit->LS->Prop
 | .ret,st=>aI (.mk (k:=fun l:List SV=>Iv (.mk (k:=(st,l,R)) (tv st.bx (oA uc l)))) (pr P st res))
 | .normal,st=>aI (.mk (k:=fun l:List SV=>Iv (.mk (k:=(st,l,R)) (tv st.bx (oA uc l)))) (pr P st res))
 |_,_=>False
def uh (i:Nat):List SV->List Ev
 |[]=>[]
 |s::r=>⟨i,[],s⟩::uh (i+1) r
def zq (H:Hp):List Nat:=H.bx.map (·.id)++H.vc.map (·.id)
def BJ (args:List SV) (H:Hp) (m:Mem):LS:=⟨uh 0 args,[],H.bx,H.vc,max (ng H.bx) (nf H.vc),m⟩
/-! What a function starts from; the head of a loop. -/
def Bq (nid:Nat) (vc:List Vc):List SV->Prop
 |[]=>True
 |s::r=>jg nid vc s/\Bq nid vc r
def DV (args:List SV) (H:Hp):Prop:=Bq (max (ng H.bx) (nf H.vc)) H.vc args/\yV (max (ng H.bx) (nf H.vc)) H.vc H.bx
def Br (nid:Nat) (vc:List Vc):List Ev->Prop
 |[]=>True
 |⟨_,_,s⟩::r=>jg nid vc s/\Br nid vc r
def zi (nid:Nat) (vc:List Vc):List Bx->Prop
 |[]=>True
 |⟨k,_,cs⟩::r=>k<nid/\fy nid vc cs/\zi nid vc r
def zh (nid:Nat):List Vc->Prop
 |[]=>True
 |⟨k,_,_,_,_,_⟩::r=>k<nid/\zh nid r
def pv (st:LS):Prop:=Br st.nid st.vc st.env/\zi st.nid st.vc st.bx/\zh st.nid st.vc
def zk (st:LS):List Ev->Prop
 |[]=>True
 |⟨t,p,s⟩::r=>fS st.env t []=some s/\p=[]/\zk st r
def rK (st:LS):List Bx->Prop
 |[]=>True
 |⟨k,t,cs⟩::r=>ie st.bx k=some ⟨k,t,cs⟩/\ie r k=none/\rK st r
def rJ (st:LS):List Vc->Prop
 |[]=>True
 |⟨k,u,e,z,n,xs⟩::r=>mC st.vc k=some ⟨k,u,e,z,n,xs⟩/\mC r k=none/\rJ st r
def an (m m' :Mem):Prop:=m=m' \/m.le m'
theorem VC (m:Mem):an m m=True:=eq_true (.inl rfl)
def Match (st ak:LS):Prop:=zk st ak.env/\ak.rho=[]/\rK st ak.bx/\rJ st ak.vc/\an ak.m st.m
section
variable {c:Cfg} {P:Program} {n i:Nat}
theorem Ww {K:LS->Prop} {st:LS}:zC (.mk (k:=(c,P,i,[],K)) st)=K (clean st):=rfl
theorem Us {K:LS->Prop} {st:LS} {o:Oper} {r:List Oper}:zC (.mk (k:=(c,P,i,o::r,K)) st)=
  aI (.mk (k:=fun p:bt=>one (.mk (k:=(c,P,i,o,fun ak=>zC (.mk (k:=(c,P,i+1,r,K)) ak))) (st,p))) (pathOf st o.guard)):=rfl
theorem Vo {K:List SV->LS->Prop} {st:LS}:lI (.mk (k:=K) (st,[]))=K [] st:=rfl
theorem Vn {K:List SV->LS->Prop} {st:LS} {k u:Nat} {r:List SV}:lI (.mk (k:=K) (st,.vec k u::r))=
  aI (.mk (k:=fun b:Vc=>Er (.mk (k:=(st,fun v ak=>lI (.mk (k:=fun r' la=>K (.v v::r') la) (ak,r)))) b)) (cN st.vc k u)):=rfl
theorem YD {K:List SV->LS->Prop} {st:LS} {x:Value} {r:List SV}:lI (.mk (k:=K) (st,.v x::r))=lI (.mk (k:=fun r' ak=>K (.v x::r') ak) (st,r)):=rfl
theorem Vp {K:List SV->LS->Prop} {st:LS} {k u:Nat} {r:List SV}:lI (.mk (k:=K) (st,.box k u::r))=lI (.mk (k:=fun r' ak=>K (.box k u::r') ak) (st,r)):=rfl
theorem WY {K:List SV->LS->Prop} {st:LS} {k u o:Nat} {r:List SV}:lI (.mk (k:=K) (st,.vp k u o::r))=lI (.mk (k:=fun r' ak=>K (.vp k u o::r') ak) (st,r)):=rfl
theorem W0 {K:List SV->LS->Prop} {st:LS} {k:Nat} {r:List SV}:lI (.mk (k:=K) (st,.mp k::r))=lI (.mk (k:=fun r' ak=>K (.mp k::r') ak) (st,r)):=rfl
theorem WZ {K:List SV->LS->Prop} {st:LS} {f:FuncId} {k o:Nat} {r:List SV}:lI (.mk (k:=K) (st,.mv f k o::r))=lI (.mk (k:=fun r' ak=>K (.mv f k o::r') ak) (st,r)):=rfl
theorem WX {K:List SV->LS->Prop} {st:LS} {k:Nat} {r:List SV}:oy (.mk (k:=K) (st,.mp k::r))=oy (.mk (k:=fun r' ak=>K (.mp k::r') ak) (st,r)):=rfl
theorem WW {K:List SV->LS->Prop} {st:LS} {f:FuncId} {k o:Nat} {r:List SV}:oy (.mk (k:=K) (st,.mv f k o::r))=oy (.mk (k:=fun r' ak=>K (.mv f k o::r') ak) (st,r)):=rfl
theorem Vj {K:List SV->LS->Prop} {st:LS}:oy (.mk (k:=K) (st,[]))=K [] st:=rfl
theorem Vm {K:List SV->LS->Prop} {st:LS} {cs r:List SV}:oy (.mk (k:=K) (st,.agg cs::r))=
  lI (.mk (k:=fun du ak=>oy (.mk (k:=fun r' la=>K (.agg du::r') la) (ak,r))) (st,cs)):=rfl
theorem YC {K:List SV->LS->Prop} {st:LS} {x:Value} {r:List SV}:oy (.mk (k:=K) (st,.v x::r))=oy (.mk (k:=fun r' ak=>K (.v x::r') ak) (st,r)):=rfl
theorem Vk {K:List SV->LS->Prop} {st:LS} {k u:Nat} {r:List SV}:oy (.mk (k:=K) (st,.box k u::r))=oy (.mk (k:=fun r' ak=>K (.box k u::r') ak) (st,r)):=rfl
theorem Vi {K:List SV->LS->Prop} {st:LS} {k u:Nat} {r:List SV}:oy (.mk (k:=K) (st,.vec k u::r))=
  aI (.mk (k:=fun b:Vc=>Er (.mk (k:=(st,fun v ak=>oy (.mk (k:=fun r' la=>K (.v v::r') la) (ak,r)))) b)) (cN st.vc k u)):=rfl
theorem T1 {dead live:LS->Prop} {st:LS}:En (.mk (k:=(dead,live)) (st,[]))=live st:=rfl
theorem SP {dead live:LS->Prop} {st:LS} {j:Nat} {w:Bool} {p:bt}:En (.mk (k:=(dead,live)) (st,(j,w)::p))=
  En (.mk (k:=(dead,fun ak=>aI (.mk (k:=fun g:Gd=>rh (.mk (k:=(j,w,dead,live)) (ak,g))) (gk ak.rho j)))) (st,p)):=rfl
variable {Q:Exit->LS->Prop} {st:LS}
theorem Ut:dK (.mk (k:=(c,P,n,.skip,Q)) st)=Q .normal st:=rfl
theorem R4 {id:Nat} {l:List Oper}:dK (.mk (k:=(c,P,n,.region id ⟨l⟩ false,Q)) st)=zC (.mk (k:=(c,P,0,l,Q .normal)) st):=rfl
theorem UF {id:Nat} {l:Array Oper}:dK (.mk (k:=(c,P,n,.region id l true,Q)) st)=jR (.mk (k:=(P,n,.region id l true,Q)) st):=by cases l;rfl
theorem UC {x:Operand} {t e rest:Code} (h:(lJ t&&lJ e)=true):dK (.mk (k:=(c,P,n,.seq (.cond x t e) rest,Q)) st)=jR (.mk (k:=(P,n,.seq (.cond x t e) rest,Q)) st):=by
 simp only[dK,my,h]
theorem Yh {x:Operand} {t e rest:Code} (h:(lJ t&&lJ e)=false):dK (.mk (k:=(c,P,n,.seq (.cond x t e) rest,Q)) st)=
  aI (.mk (k:=fun b:Bool=>IG (.mk (k:=(c,P,n,t,e,jI (fun ak=>dK (.mk (k:=(c,P,n,rest,Q)) ak)) Q,st)) b)) ((cD st [] x).bind sd)):=by
 simp only[dK,my,h];rfl
theorem Uv {id:Nat} {l:Array Oper} {d:Bool} {b:Code}:dK (.mk (k:=(c,P,n,.seq (.region id l d) b,Q)) st)=dK (.mk (k:=(c,P,n,.region id l d,jI (fun ak=>dK (.mk (k:=(c,P,n,b,Q)) ak)) Q)) st):=rfl
theorem Uz {id:Nat} {a b:Code}:dK (.mk (k:=(c,P,n,.seq (.block id a) b,Q)) st)=dK (.mk (k:=(c,P,n,.block id a,jI (fun ak=>dK (.mk (k:=(c,P,n,b,Q)) ak)) Q)) st):=rfl
theorem Uu {x y b:Code}:dK (.mk (k:=(c,P,n,.seq (.seq x y) b,Q)) st)=dK (.mk (k:=(c,P,n,.seq x y,jI (fun ak=>dK (.mk (k:=(c,P,n,b,Q)) ak)) Q)) st):=rfl
theorem Uy {x b:Code}:dK (.mk (k:=(c,P,n,.seq (.loop x) b,Q)) st)=jR (.mk (k:=(P,n,.loop x,jI (fun ak=>dK (.mk (k:=(c,P,n,b,Q)) ak)) Q)) st):=rfl
theorem Uw {x b:Code}:dK (.mk (k:=(c,P,n,.seq (.scope x) b,Q)) st)=jR (.mk (k:=(P,n,.scope x,jI (fun ak=>dK (.mk (k:=(c,P,n,b,Q)) ak)) Q)) st):=rfl
theorem Ux {b:Code}:dK (.mk (k:=(c,P,n,.seq .skip b,Q)) st)=dK (.mk (k:=(c,P,n,b,Q)) st):=rfl
theorem UG {x:Operand} {t e:Code}:dK (.mk (k:=(c,P,n,.cond x t e,Q)) st)=
  aI (.mk (k:=fun b:Bool=>IG (.mk (k:=(c,P,n,t,e,Q,st)) b)) ((cD st [] x).bind sd)):=rfl
theorem Td {id:Nat} {a:Code}:dK (.mk (k:=(c,P,n,.block id a,Q)) st)=dK (.mk (k:=(c,P,n,a,pV id Q)) st):=rfl
theorem UB {a:Code}:dK (.mk (k:=(c,P,n,.loop a,Q)) st)=jR (.mk (k:=(P,n,.loop a,Q)) st):=rfl
theorem Tb {a:Code}:dK (.mk (k:=(c,P,n,.scope a,Q)) st)=jR (.mk (k:=(P,n,.scope a,Q)) st):=rfl
theorem UE {id:Nat}:dK (.mk (k:=(c,P,n,.exit id,Q)) st)=Q (.exit id) st:=rfl
theorem Tc {l:Nat}:dK (.mk (k:=(c,P,n,.label l,Q)) st)=Q .normal st:=rfl
theorem UD {l:Nat}:dK (.mk (k:=(c,P,n,.goto l,Q)) st)=Q (.goto l) st:=rfl
theorem UA {l:Nat} {b:Code}:dK (.mk (k:=(c,P,n,.seq (.label l) b,Q)) st)=dK (.mk (k:=(c,P,n,b,Q)) st):=rfl
theorem Wx:dK (.mk (k:=(c,P,n,.ret,Q)) st)=Q .ret st:=rfl
end
attribute [go_sem] GB.val.eq_1 GB.val.eq_2 om.eq_1 pZ.eq_1 pZ.eq_2 pZ.eq_3 ns.eq_1 ns.eq_2 fS.eq_1 fS.eq_2 gk.eq_1 gk.eq_2 zl.eq_1 zl.eq_2 ie.eq_1 ie.eq_2 cN.eq_1 cN.eq_2 oB.eq_1 bU.eq_1 bU.eq_2 wX.eq_1 wX.eq_2 wX.eq_3 vr.eq_1 vr.eq_2 py.eq_1 cD.eq_1 cD.eq_2 cD.eq_3 cD.eq_4 aI.eq_1 aI.eq_2 arith.eq_1 arith.eq_2 jm.eq_1 jm.eq_2 jm.eq_3 jm.eq_4 jm.eq_5 jm.eq_6 jm.eq_7 jm.eq_8 jm.eq_9 jm.eq_10 jm.eq_11 jm.eq_12 jm.eq_13 jm.eq_14 jm.eq_15 jm.eq_16 jm.eq_17 rq.eq_1 rq.eq_2 rq.eq_3 rq.eq_4 rq.eq_5 rq.eq_6 mW.eq_1 mW.eq_2 mW.eq_3 mW.eq_4 gT.eq_1 gT.eq_2 gT.eq_3 nj.eq_1 nj.eq_2 nj.eq_3 nj.eq_4 jd.eq_1 jd.eq_2 jd.eq_3 vE.eq_1 vE.eq_2 kU.eq_1 kU.eq_2 kU.eq_3 kU.eq_4 kU.eq_5 oQ.eq_1 oQ.eq_2 oQ.eq_3 ql.eq_1 ql.eq_2 ql.eq_3 qk.eq_1 qk.eq_2 qk.eq_3 qk.eq_4 qk.eq_5 qk.eq_6 pT.eq_1 pT.eq_2 ua.eq_1 ua.eq_2 ua.eq_3 ua.eq_4 ua.eq_5 ua.eq_6 sw.eq_1 sw.eq_2 sw.eq_3 sw.eq_4 sw.eq_5 sw.eq_6 sw.eq_7 sw.eq_8 vg.eq_1 vg.eq_2 kK.eq_1 kK.eq_2 A3.eq_1 A3.eq_2 A3.eq_3 tL.eq_1 tL.eq_2 tL.eq_3 tL.eq_4 qL.eq_1 qL.eq_2 qL.eq_3 xd.eq_1 xd.eq_2 u7.eq_1 u7.eq_2 tU.eq_1 tU.eq_2 tU.eq_3 uu.eq_1 uu.eq_2 uu.eq_3 vj.eq_1 vj.eq_2 qS.eq_1 qS.eq_2 A8.eq_1 A8.eq_2 qU.eq_1 qU.eq_2 qU.eq_3 qU.eq_4 qU.eq_5 sE.eq_1 sE.eq_2 sE.eq_3 sE.eq_4 tX.eq_1 tX.eq_2 tX.eq_3 vN.eq_1 vN.eq_2 Ie.eq_1 uv.eq_1 uv.eq_2 uv.eq_3 xz.eq_1 xz.eq_2 xb.eq_1 xb.eq_2 tW.eq_1 tW.eq_2 tW.eq_3 tW.eq_4 tV.eq_1 tV.eq_2 o6.eq_1 o6.eq_2 o6.eq_3 o6.eq_4 mY.eq_1 mY.eq_2 mY.eq_3 mY.eq_4 mY.eq_5 mY.eq_6 mY.eq_7 mY.eq_8 tY.eq_1 tY.eq_2 tY.eq_3 sD.eq_1 sD.eq_2 sD.eq_3 sD.eq_4 vx.eq_1 vx.eq_2 vy.eq_1 vy.eq_2 vk.eq_1 vk.eq_2 tK.eq_1 tK.eq_2 tK.eq_3 qOp.eq_1 qOp.eq_2 qOp.eq_3 qOp.eq_4 qOp.eq_5 qOp.eq_6 qOp.eq_7 qOp.eq_8 qOp.eq_9 qOp.eq_10 qOp.eq_11 qOp.eq_12 qOp.eq_13 qOp.eq_14 qOp.eq_15 qOp.eq_16 qOp.eq_17 qOp.eq_18 qOp.eq_19 qOp.eq_20 qOp.eq_21 qOp.eq_22 plain.eq_1 plain.eq_2 mf.eq_1 mf.eq_2 oX.eq_1 oX.eq_2 oX.eq_3 wE.eq_1 wE.eq_2 jP.eq_1 jP.eq_2 jP.eq_3 jP.eq_4 jP.eq_5 jP.eq_6 jP.eq_7 jP.eq_8 jP.eq_9 km.eq_1 km.eq_2 po.eq_1 po.eq_2 Ia.eq_1 Ia.eq_2 Er.eq_1 zf.eq_1 ko.eq_1 ko.eq_2 ko.eq_3 ko.eq_4 ko.eq_5 ko.eq_6 ko.eq_7 ko.eq_8 ko.eq_9 cellsOf.eq_1 cellsOf.eq_2 oA.eq_1 oA.eq_2 oA.eq_3 zp.eq_1 zp.eq_2 tv.eq_1 idxOf.eq_1 idxOf.eq_2 jf.eq_1 fi.eq_1 mA.eq_1 mA.eq_2 mA.eq_3 mA.eq_4 mA.eq_5 mA.eq_6 mA.eq_7 mA.eq_8 zg.eq_1 zg.eq_2 tS.eq_1 tS.eq_2 o5.eq_1 jL.eq_1 mC.eq_1 mC.eq_2 gd.eq_1 gd.eq_2 fL.eq_1 fL.eq_2 mT.eq_1 mT.eq_2 mh.eq_1 mh.eq_2 ng.eq_1 ng.eq_2 nf.eq_1 nf.eq_2 va.eq_1 BW.eq_1 BW.eq_2 uy.eq_1 uy.eq_2 rN.eq_1 rN.eq_2 rN.eq_3 rN.eq_4 rN.eq_5 rN.eq_6 rN.eq_7 rN.eq_8 xD.eq_1 xD.eq_2 E6.eq_1 E6.eq_2 Bt.eq_1 Bt.eq_2 zn.eq_1 zn.eq_2 If.eq_1 rZ.eq_1 rZ.eq_2 rZ.eq_3 rZ.eq_4 rZ.eq_5 rZ.eq_6 rZ.eq_7 rZ.eq_8 ya.eq_1 ya.eq_2 CC.eq_1 CC.eq_2 CB.eq_1 CB.eq_2 Fp.eq_1 Fp.eq_2 zA.eq_1 zA.eq_2 zz.eq_1 zz.eq_2 yV.eq_1 yV.eq_2 A0.eq_1 A0.eq_2 na.eq_1 na.eq_2 lF.eq_1 lF.eq_2 gj.eq_1 Ni.eq_1 HC.eq_1 bS.eq_1 bS.eq_2 ll.eq_1 ll.eq_2 ll.eq_3 ll.eq_4 ll.eq_5 ll.eq_6 ll.eq_7 ll.eq_8 fy.eq_1 fy.eq_2 okB.eq_1 okB.eq_2 xC.eq_1 xC.eq_2 jg.eq_1 jg.eq_2 H5.eq_1 Bh.eq_1 Bg.eq_1 Bg.eq_2 tT.eq_1 tT.eq_2 oY.eq_1 oY.eq_2 tF.eq_1 tF.eq_2 AT.eq_1 AT.eq_2 nc.eq_1 vd.eq_1 vd.eq_2 vd.eq_3 vd.eq_4 zm.eq_1 zm.eq_2 zm.eq_3 EA.eq_1 EA.eq_2 E1.eq_1 E1.eq_2 EB.eq_1 EB.eq_2 E0.eq_1 E0.eq_2 A7.eq_1 A7.eq_2 A7.eq_3 oF.eq_1 oF.eq_2 oF.eq_3 oF.eq_4 oF.eq_5 oF.eq_6 oF.eq_7 oF.eq_8 oF.eq_9 oF.eq_10 oF.eq_11 pk.eq_1 pk.eq_2 gL.eq_1 gL.eq_2 gL.eq_3 gL.eq_4 gL.eq_5 gL.eq_6 gL.eq_7 gL.eq_8 gL.eq_9 gL.eq_10 gL.eq_11 gL.eq_12 gL.eq_13 gL.eq_14 gL.eq_15 gL.eq_16 gL.eq_17 gL.eq_18 gL.eq_19 gL.eq_20 gL.eq_21 yG.eq_1 yG.eq_2 HK.eq_1 lg.eq_1 lg.eq_2 rh.eq_1 rh.eq_2 rh.eq_3 rh.eq_4 rh.eq_5 rh.eq_6 put.eq_1 put.eq_2 lD.eq_1 lD.eq_2 lE.eq_1 lE.eq_2 n7.eq_1 n7.eq_2 j2.eq_1 j2.eq_2 j2.eq_3 pathOf.eq_1 pathOf.eq_2 xe.eq_1 xe.eq_2 xe.eq_3 xe.eq_4 Bp.eq_1 Bp.eq_2 one.eq_1 ja.eq_1 ja.eq_2 mU.eq_1 mU.eq_2 mU.eq_3 clean.eq_1 sd.eq_1 sd.eq_2 lJ.eq_1 lJ.eq_2 lJ.eq_3 lJ.eq_4 lJ.eq_5 lJ.eq_6 lJ.eq_7 jI.eq_1 jI.eq_2 pV.eq_1 pV.eq_2 IG.eq_1 xa.eq_1 xa.eq_2 Ep.eq_1 Ep.eq_2 pr.eq_1 pr.eq_2 pr.eq_3 Iv.eq_1 zu.eq_1 zu.eq_2 zu.eq_3 uh.eq_1 uh.eq_2 zq.eq_1 BJ.eq_1 Bq.eq_1 Bq.eq_2 DV.eq_1 Br.eq_1 Br.eq_2 zi.eq_1 zi.eq_2 zh.eq_1 zh.eq_2 pv.eq_1 zk.eq_1 zk.eq_2 rK.eq_1 rK.eq_2 rJ.eq_1 rJ.eq_2 Match.eq_1 Ww Us Vo Vn YD Vp WY W0 WZ WX WW Vj Vm YC Vk Vi T1 SP Ut R4 UF UC Yh Uv Uz Uu Uy Uw Ux UG Td UB Tb UE Wx VC Tc UD UA YP Oh YO Yk Yj Yi
theorem eR (V:Vl) (x:Value):den V (.v x)=x:=rfl
theorem yK (V:Vl) (k o:Nat):den V (.box k o)= .pointer (some ⟨V.β k,o,none⟩):=rfl
theorem Hv (V:Vl) (cs:List SV):den V (.agg cs)= .agg ⟨cs.map (bj V)⟩:=rfl
theorem XX (V:Vl) (cs:List SV):den V (.tup cs)= .tuple ⟨cs.map (mE V)⟩:=rfl
theorem yX (V:Vl) (l:List Value):(l.map SV.v).map (bj V)=l:=by
 induction l with
 |nil=>rfl
 |cons x l ih=>simp only[br,ih];rfl
theorem CJ {V:Vl} {s:SV} {cs:List SV} (h:kU s=some cs):(den V s).cells=⟨cs.map (bj V)⟩:=by
 cases s with
 |agg l=>simp only[kU,dy] at h;subst h;rfl
 |tup l=>simp [kU] at h
 |v x=>
  cases x with
  |agg a=>obtain⟨l⟩:=a;simp only[kU,dy] at h;subst h;simp only[yX];rfl
  |tuple a=>simp [kU] at h
  |_=>simp only[kU,dy] at h;subst h;rfl
 |_=>simp only[kU,dy] at h;subst h;rfl
/-! Paths. -/
theorem DK {rho:List Gd} {j:Nat} {w:Bool} {g:Gd} (h:gk rho j=some g):oB rho j w=(if w=true then g.b.val else !g.b.val):=by
 unfold oB;rw[h]
theorem Eh {rho:List Gd} {i:Nat} {g:Gd} (h:gk rho i=some g):g.i=i/\g∈rho:=by
 induction rho with
 |nil=>cases h
 |cons x r ih=>
  obtain⟨i',t',p',b'⟩:=x;simp only[gk] at h;split at h
  ·rename_i e;cases h;exact⟨e,dz ..⟩
  ·exact⟨(ih h).1,cS _ (ih h).2⟩
theorem GQ:∀{p q:bt},pZ p q=true->p=q
 |[],[],_=>rfl
 |(j,w)::p,(k,u)::q,h=>by
  simp only[pZ] at h;split at h
  ·split at h
   ·rename_i e e';subst e;subst e';rw[GQ h]
   ·cases h
  ·cases h
 |[],_::_,h=>by simp [pZ] at h
 |_::_,[],h=>by simp [pZ] at h
theorem LM {p:bt}:∀{q:bt},ns p q=true->∃r,q=r++p
 |[],h=>⟨[],by simp only[ns] at h;rw[GQ h];rfl⟩
 |x::q,h=>by
  simp only[ns] at h;split at h
  ·rename_i e;exact⟨[],by rw[GQ e];rfl⟩
  ·obtain⟨r,hr⟩:=LM h;exact⟨x::r,by rw[hr];rfl⟩
theorem Lw {rho:List Gd}:∀{p q:bt},bU rho (p++q)=(bU rho p&&bU rho q)
 |[],q=>by simp [bU]
 |(j,w)::p,q=>by simp [bU,Lw (p:=p),Bool.and_assoc]
theorem Db {rho:List Gd} {p q:bt} (h:ns p q=true) (hq:bU rho q=true):bU rho p=true:=by
 obtain⟨r,rfl⟩:=LM h;rw[Lw,cY] at hq;exact hq.2
theorem qK {rho:List Gd}:fY rho []:=fun _ h=>by cases h
theorem C9 {rho:List Gd}:∀{p:bt},vr rho p=true->bU rho p=false
 |[],h=>by simp [vr] at h
 |(j,w)::p,h=>by
  simp only[vr] at h;split at h
  ·rename_i e;simp only[bU,Bool.and_eq_false_iff];refine .inl ?_;cases hg:gk rho j with
   |none=>rw[hg] at e;cases w<;>simp [wX] at e
   |some g=>
    rw[hg] at e;rw[DK hg];obtain⟨i',t',p',b'⟩:=g;cases b' with
    |lit b=>cases b<;>cases w<;>simp_all [wX,GB.val]
    |sym b=>cases w<;>simp [wX] at e
  ·simp only[bU,Bool.and_eq_false_iff];exact .inr (C9 h)
section
variable {C:Ctx} {n:Nat} {st:LS} {a:Act} {V:Vl} {D:Nat->Nat} {w:World} {P:Program}
theorem dw (hS:Sat C n st a V D w) {p:bt} (hp:fY st.rho p) (hc:bU st.rho p=true) {x:Operand} {s:SV} (h:cD st p x=some s):a.eval x=den V s:=by
 cases x with
 |tmp t=>
  have:=hS.env t p s hp h hc;simp [Act.eval,this]
 |const v=>simp only[cD,dy] at h;subst h;rfl
 |func f=>simp only[cD,dy] at h;subst h;rfl
 |global g=>simp only[cD,dy] at h;subst h;rfl
theorem tE {l:List Bx} {k:Nat} {b:Bx} (h:ie l k=some b):b.id=k/\b∈l:=by
 induction l with
 |nil=>cases h
 |cons x r ih=>
  obtain⟨i',t',p'⟩:=x;simp only[ie] at h;split at h
  ·rename_i e;cases h;exact⟨e,dz ..⟩
  ·exact⟨(ih h).1,cS _ (ih h).2⟩
theorem AH {l:List Vc} {k u:Nat} {b:Vc} (h:cN l k u=some b):b.id=k/\b.ver=u/\b∈l:=by
 induction l with
 |nil=>cases h
 |cons x r ih=>
  obtain⟨i',u',e',z',n',x'⟩:=x;simp only[cN] at h;split at h
  ·rename_i e;split at h
   ·rename_i e';cases h;exact⟨e,e',dz ..⟩
   ·cases h
  ·exact⟨(ih h).1,(ih h).2.1,cS _ (ih h).2.2⟩
end
def Yl (c:Bool) (P:Program) (x:Sem Value) (w:World) (v:Value):Prop:=c=true->x.run P w= .ok v w
section
variable {P:Program} {c:Bool} {w:World}
abbrev U (c:Bool):Prop->Prop:=fun B=>c=true->B
theorem z6 {k:IntKind} {V:Vl} {K:SV->Prop} {n:Int} (h:arith (.mk (k:=(k,U c,K)) n)):
  ∃s,K s/\(c=true->den V s= .int k (k.wrap n)):=by
 cases k;case i64=>
  simp only[arith] at h;refine⟨_,h.2,fun hc=> ?_⟩;have hb:=h.1 hc;rw[eR];have:IntKind.i64.wrap n=n:=by
   rw[IntKind.wrap_i64];unfold az at hb;omega
  rw[this]
 all_goals exact⟨_,h,fun _=>rfl⟩
theorem S6 {op:BinOp} {k k' :IntKind} {x y:Int} {t:TypeId} {o o' :Operand} {V:Vl} {K:SV->Prop} (hk:op= .shl\/op= .shr\/k=k') (h:jm (.mk (k:=(op,k,U c,K)) (x,y))):
  ∃s,K s/\Yl c P (do eqGuard op t o o' (.int k x) (.int k' y);binOp op t (.int k x) (.int k' y)) w (den V s):=by
 by_cases hs:op= .shl\/op= .shr
 ·rcases hs with rfl |rfl
  ·simp only[jm] at h;refine⟨_,h.2,fun hc=> ?_⟩;simp [go_sem,shift_shl _ _ _ _ (h.1 hc).1 (h.1 hc).2,eR]
  ·simp only[jm] at h;refine⟨_,h.2,fun hc=> ?_⟩;simp [go_sem,shift_shr _ _ _ _ (h.1 hc).1 (h.1 hc).2,eR]
 ·have ep:k=k' :=by
   rcases hk with h1 |h1 |h1
   ·exact absurd (.inl h1) hs
   ·exact absurd (.inr h1) hs
   ·exact h1
  subst ep;cases op<;>simp only[jm] at h;case shl=>exact absurd (.inl rfl) hs
  case shr=>exact absurd (.inr rfl) hs
  case add=>obtain⟨s,h1,h2⟩:=z6 (V:=V) h;exact⟨s,h1,fun hc=>by rw[h2 hc];simp [go_sem,Op.intArith]⟩
  case sub=>obtain⟨s,h1,h2⟩:=z6 (V:=V) h;exact⟨s,h1,fun hc=>by rw[h2 hc];simp [go_sem,Op.intArith]⟩
  case mul=>obtain⟨s,h1,h2⟩:=z6 (V:=V) h;exact⟨s,h1,fun hc=>by rw[h2 hc];simp [go_sem,Op.intArith]⟩
  case quo=>obtain⟨s,h1,h2⟩:=z6 (V:=V) h.2;exact⟨s,h1,fun hc=>by rw[h2 hc];simp [go_sem,Op.intDiv,h.1 hc]⟩
  case rem=>exact⟨_,h.2,fun hc=>by simp [go_sem,Op.intDiv,h.1 hc,eR]⟩
  case eql=>exact⟨_,h,fun _=>by simp [go_sem,eR];rfl⟩
  case neq=>exact⟨_,h,fun _=>by simp [go_sem,eR,bne];rfl⟩
  all_goals exact⟨_,h,fun _=>by simp [go_sem,eR]⟩
end
theorem Ub (x y:ByteArray):x++y=bs (tl x++tl y):=by
 obtain⟨a⟩:=x;obtain⟨b⟩:=y;obtain⟨a⟩:=a;obtain⟨b⟩:=b;exact ByteArray.mk_append_mk a b
theorem yt (x:ByteArray):x.toList=tl x:=ByteArray.toList_eq x
theorem yN (x:ByteArray):(tl x).length=x.size:=by unfold tl ByteArray.size;exact Array.length_toList
theorem NP (x y:List UInt8):(x==y)=decide (x=y):=by
 rw[Bool.eq_iff_iff];simp only[beq_iff_eq,gz]
theorem aG {α:Type} {K:α->Prop} {x:Option α} (h:aI (.mk (k:=K) x)):∃s,x=some s/\K s:=by
 cases x with
 |none=>exact h.elim
 |some s=>exact⟨s,rfl,h⟩
section
variable {P:Program} {c:Bool} {w:World}
theorem S4 {op:BinOp} {x y:ByteArray} {t:TypeId} {o o' :Operand} {V:Vl} {K:SV->Prop} (h:rq (.mk (k:=(op,U c,K)) (tl x,tl y))):
  ∃s,K s/\Yl c P (do eqGuard op t o o' (.string x) (.string y);binOp op t (.string x) (.string y)) w (den V s):=by
 cases op<;>simp only[rq] at h;case add=>
  refine⟨_,h.2,fun hc=> ?_⟩;have hl:=h.1 hc;rw[yN,yN] at hl;have:¬((x.size+y.size:Nat):Int)>IntKind.i64.max:=by rw[IntKind.max_i64];omega
  simp only[go_sem,binOp,Op.stringOp,Sem.run_bind,Sem.run_pure,Result.andThen_ok];rw[ae this];rw[Ub,eR];rfl
 case eql=>exact⟨_,h,fun _=>by simp [go_sem,eR,yt,NP]⟩
 case neq=>exact⟨_,h,fun _=>by simp [go_sem,eR,yt,NP]⟩
 case lss=>exact⟨_,h,fun _=>by simp [go_sem,eR,yt]⟩
 case geq=>exact⟨_,h,fun _=>by simp [binOp,Op.stringOp,go_sem,eR,yt]⟩
theorem S2 {V:Vl} {x y:SV} {b:Bool} (h:mW x y=some b):mW (.v (bj V x)) (.v (bj V y))=some b:=by
 unfold mW at h;split at h<;>first |exact h |cases h
theorem VN {V:Vl} {z x:SV} (h:nj z x=true):nj z (.v (bj V x))=true:=by
 unfold nj at h;split at h<;>first |exact h |cases h
theorem MH {V:Vl}:∀{z x:List SV},jd z x=true->jd z ((x.map (bj V)).map .v)=true
 |[],[],h=>h
 |z::zs,x::xs,h=>by
  simp only[jd,cY] at h;simp only[br,jd,VN h.1,MH h.2,Bool.and_self]
 |[],_::_,h=>by simp [jd] at h
 |_::_,[],h=>by simp [jd] at h
theorem VM {V:Vl} {z:Option (List SV)} {x:List SV} (h:vE z x=true):vE z ((x.map (bj V)).map .v)=true:=by
 cases z with
 |none=>cases h
 |some z=>exact MH h
theorem Kc {V:Vl}:∀{x y:List SV} {b:Bool},gT x y=some b->gT ((x.map (bj V)).map .v) ((y.map (bj V)).map .v)=some b
 |[],[],_,h=>h
 |x::xs,y::ys,b,h=>by
  simp only[gT,Option.bind_eq_some_iff,Option.map_eq_some_iff] at h;obtain⟨e,he,r,hr,rfl⟩:=h;simp only[br,gT,S2 he,Kc hr,Option.bind_some,Option.map_some]
 |[],_::_,_,h=>by simp [gT] at h
 |_::_,[],_,h=>by simp [gT] at h
theorem F6 {op:BinOp} {b:Bool} {K:SV->Prop} {V:Vl} (h:ql (.mk (k:=(op,K)) b)):
  ∃s,K s/\((op= .eql/\den V s= .bool b)\/(op= .neq/\den V s= .bool (!b))):=by
 cases op<;>simp only[ql] at h;case eql=>exact⟨_,h,.inl ⟨rfl,rfl⟩⟩
 case neq=>exact⟨_,h,.inr ⟨rfl,rfl⟩⟩
theorem JY {V:Vl} {y:SV} {ys:List SV} (h:oQ y=some ys):den V y= .agg ⟨ys.map (bj V)⟩:=by
 cases y with
 |agg l=>simp only[oQ,dy] at h;subst h;rfl
 |v x=>
  cases x with
  |agg a=>obtain⟨l⟩:=a;simp only[oQ,dy] at h;subst h;rw[yX];rfl
  |_=>simp [oQ] at h
 |_=>simp [oQ] at h
theorem Ka {op:BinOp} {t:TypeId} {o o' :Operand} {V:Vl} {K:SV->Prop} {xs:List SV} {y:SV} {xv:Value} (hxv:xv= .agg ⟨xs.map (bj V)⟩) 
  (he:uo P t) (hl:vE (ft P t) xs=true) (h:aI (.mk (k:=fun b=>ql (.mk (k:=(op,K)) b)) ((oQ y).bind fun ys=>gT xs ys))):
  ∃s,K s/\Yl c P (do eqGuard op t o o' xv (den V y);binOp op t xv (den V y)) w (den V s):=by
 obtain⟨b,hb,hK⟩:=aG h;simp only[Option.bind_eq_some_iff] at hb;obtain⟨ys,hys,hb⟩:=hb;have hyv:den V y= .agg ⟨ys.map (bj V)⟩:=JY hys;have hE:=fun op=>he (xs.map (bj V)) (ys.map (bj V)) b w o o' op (Kc hb) (VM hl)
 obtain⟨s,hs,hh⟩:=F6 (V:=V) hK;refine⟨s,hs,fun hc=> ?_⟩;rw[hxv,hyv];rcases hh with ⟨rfl,hr⟩ |⟨rfl,hr⟩
 ·rw[hr];simp only[Sem.run_bind,(hE .eql).1,Result.andThen_ok,binOp,(hE .eql).2,Sem.run_pure]
 ·rw[hr];simp only[Sem.run_bind,(hE .neq).1,Result.andThen_ok,binOp,(hE .neq).2,Sem.run_pure]
theorem run_equal_bool {t:TypeId} (x y:Bool) (h:P.underlying t=some .bool):(Op.equal t (.bool x) (.bool y)).run P w= .ok (x==y) w:=by
 have hd:∀d:Nat,(Op.equalIn (d+1) t (.bool x) (.bool y)).run P w= .ok (x==y) w:=fun d=>by
  simp only[Op.equalIn,Sem.run_bind,run_underlying h,Result.andThen_ok,Sem.run_pure]
 exact hd 9999
theorem JK {t:TypeId} {v:Value} (h:Ej P t=true) (hv:E7 v):(Op.equal t v .nilIface).run P w= .ok (qS v) w:=by
 unfold Ej at h;split at h
 ·rename_i ms hu;have hd:∀d:Nat,(Op.equalIn (d+1) t v .nilIface).run P w= .ok (qS v) w:=fun d=>by
   rcases hv with rfl |⟨ty,x,rfl⟩<;>simp only[Op.equalIn,Sem.run_bind,run_underlying hu,Result.andThen_ok,Sem.run_pure,qS]
  exact hd 9999
 ·cases h
theorem RJ {op:BinOp} {x:SV} {t:TypeId} {o:Operand} {V:Vl} {K:SV->Prop} (h:vj (.mk (k:=(P,op,t,U c,K)) x)):
  ∃s,K s/\Yl c P (do eqGuard op t o (.const .nilIface) (den V x) .nilIface;binOp op t (den V x) .nilIface) w (den V s):=by
 unfold vj at h;split at h
 ·rename_i v e;cases e;obtain⟨h1,h2,h3⟩:=h;obtain⟨s,hs,hh⟩:=F6 (V:=V) h3;refine⟨s,hs,fun hc=> ?_⟩;have hv:=h2 hc;have hg:∀op,(eqGuard op t o (.const .nilIface) v .nilIface).run P w= .ok () w:=fun op=>by
   unfold eqGuard;rcases hv with rfl |⟨ty,x,rfl⟩<;>cases op<;>simp
  have uF:binOp .eql t v .nilIface=(do let b <- Op.equal t v .nilIface;pure (.bool b)):=by
   rcases hv with rfl |⟨ty,x,rfl⟩<;>rfl
  have rW:binOp .neq t v .nilIface=(do let b <- Op.equal t v .nilIface;pure (.bool (!b))):=by
   rcases hv with rfl |⟨ty,x,rfl⟩<;>rfl
  rcases hh with ⟨rfl,hr⟩ |⟨rfl,hr⟩
  ·rw[hr];simp only[Sem.run_bind,eR,hg,Result.andThen_ok,uF,JK h1 hv,Sem.run_pure]
  ·rw[hr];simp only[Sem.run_bind,eR,hg,Result.andThen_ok,rW,JK h1 hv,Sem.run_pure]
 ·cases h
theorem S5 {op:BinOp} {x y:SV} {t:TypeId} {o o' :Operand} {V:Vl} {K:SV->Prop} (h:qk (.mk (k:=(P,op,t,U c,K)) (x,y))):
  ∃s,K s/\Yl c P (do eqGuard op t o o' (den V x) (den V y);binOp op t (den V x) (den V y)) w (den V s):=by
 unfold qk at h;split at h
 ·rename_i k a k' b e;cases e;exact S6 h.1 h.2
 ·rename_i a b e;cases e;exact S4 h
 ·rename_i a b e;cases e;obtain⟨s,hs,hh⟩:=F6 (V:=V) h.2;refine⟨s,hs,fun hc=> ?_⟩;rcases hh with ⟨rfl,hr⟩ |⟨rfl,hr⟩
  ·rw[hr];simp only[Sem.run_bind,eqGuard_at_bool,eR,Sem.run_pure,Result.andThen_ok,binOp,run_equal_bool a b h.1]
  ·rw[hr];simp only[Sem.run_bind,eqGuard_at_bool,eR,Sem.run_pure,Result.andThen_ok,binOp,run_equal_bool a b h.1]
 ·rename_i xs y e;cases e;exact Ka rfl h.1 h.2.1 h.2.2
 ·rename_i xs y e;cases e;obtain⟨l⟩:=xs;refine Ka (xs:=l.map .v) (by rw[yX];rfl) h.1 h.2.1 h.2.2
 ·cases h
end
section
variable {P:Program} {w:World}
theorem AD {t:TypeId} (h:0<bC P t):(sizeOf t).run P w= .ok (bC P t) w:=by
 unfold bC at h ⊢;cases hi:P.info? t with
 |none=>rw[hi] at h;simp at h
 |some i=>simp [sizeOf,typeInfo,hi]
theorem JR {t:TypeId} (h:eo P t=some none):(isAgg t).run P w= .ok false w:=by
 unfold eo at h;split at h
 ·simp at h
 ·simp at h
 ·rename_i d h1 h2 hd;simp only[isAgg,Sem.run_bind,run_underlying hd,Result.andThen_ok];rfl
 ·cases h
theorem CG {t:TypeId} {n:Nat} (h:eo P t=some (some n)):(isAgg t).run P w= .ok true w/\(sizeOf t).run P w= .ok n w:=by
 unfold eo at h;split at h
 ·rename_i fs hd;simp only[Option.map_eq_some_iff,dy] at h;obtain⟨i,hi,rfl⟩:=h;exact⟨by simp [isAgg,run_underlying hd],by simp [sizeOf,typeInfo,hi]⟩
 ·rename_i fs k hd;simp only[Option.map_eq_some_iff,dy] at h;obtain⟨i,hi,rfl⟩:=h;exact⟨by simp [isAgg,run_underlying hd],by simp [sizeOf,typeInfo,hi]⟩
 ·cases h
 ·cases h
theorem yd {t:TypeId} {ad:Addr} {ag:Option Nat} {cs:List Value} {v:Value} (h:eo P t=some ag) (hc:∀j u,cs[j]? =some u->w.cell? (ad.add j)=some u)
  (hv:match ag with |none=>cs=[v] |some n=>cs.length=n/\v= .agg ⟨cs⟩):(loadVar t ad).run P w= .ok v w:=by
 cases ag with
 |none=>
  subst hv;have h0:=hc 0 v rfl;rw[Addr.add_zero'] at h0;simp only[loadVar,Sem.run_bind,JR h,Result.andThen_ok,Bool.false_eq_true,if_false];rw[run_load];simp [h0]
 |some n=>
  obtain⟨hl,rfl⟩:=hv;simp only[loadVar,Sem.run_bind,(CG h).1,(CG h).2,Result.andThen_ok,if_true];subst hl;rw[run_loadCells_list w ad cs hc];rfl
theorem Li {D:Nat} {o o' :Option Obj} {c:Array Value} {t:TypeId} {f:Nat×Nat} (h:r8 D o o') (ho:o=some (.cells c t f)):∃c' t' f',o' =some (.cells c' t' f')/\∀j,j<D->c'[j]? =c[j]? :=by
 subst ho;exact h
theorem CX {m:Mem} {D:Nat->Nat} (hle:m.le ⟨w,D⟩) {ad:Addr} {v:Value} (hs:ad.spot=none) (hd:ad.off<m.D ad.block) (h:m.w.cell? ad=some v):w.cell? ad=some v:=by
 obtain⟨_,hk⟩:=hle ad.block;obtain⟨_,hk⟩:=hk (by omega);unfold World.cell? at h ⊢;split at h
 ·rename_i c t f hc;obtain⟨c',t',f',ho,hj⟩:=Li hk hc;dsimp only at ho;rw[ho];simp only[hs,Option.isSome_none,Bool.false_eq_true,if_false] at h ⊢;rw[hj _ hd];exact h
 ·cases h
theorem oO (ad:Addr) (j:Nat) (h:ad.spot=none):(ad.add j).block=ad.block/\(ad.add j).off=ad.off+j/\(ad.add j).spot=none:=by
 unfold Addr.add;split
 ·rename_i e;subst e;exact⟨rfl,rfl,h⟩
 ·exact⟨rfl,rfl,rfl⟩
theorem Pl {m:Mem} {D:Nat->Nat} (hle:m.le ⟨w,D⟩) {x:Value} {cs:List Value} (h:Rd m x cs):∃ad,x= .pointer (some ad)/\∀j u,cs[j]? =some u->w.cell? (ad.add j)=some u:=by
 obtain⟨ad,hx,hs,hc⟩:=h;refine⟨ad,hx,fun j u hu=> ?_⟩;have hj:j<cs.length:=(List.getElem?_eq_some_iff.1 hu).1;obtain⟨h1,h2⟩:=hc j hj;obtain⟨e1,e2,e3⟩:=oO ad j hs;exact CX hle e3 (by rw[e1,e2];exact h2) (h1.trans hu)
theorem OM {m:Mem} {D:Nat->Nat} (hle:m.le ⟨w,D⟩) {x:Option Addr} {n sz:Nat} {cs:List Value} (h:aK m x n sz cs) (hn:0<n):∃ad,x=some ad/\∀j u,cs[j]? =some u->w.cell? (ad.add j)=some u:=by
 obtain⟨hl,h⟩:=h;obtain⟨ad,hx,hs,hc⟩:=h hn;refine⟨ad,hx,fun j u hu=> ?_⟩;have hj:j<cs.length:=(List.getElem?_eq_some_iff.1 hu).1;obtain⟨h1,h2⟩:=hc j (by omega);obtain⟨e1,e2,e3⟩:=oO ad j hs;exact CX hle e3 (by rw[e1,e2];exact h2) (h1.trans hu)
theorem kg {x:Sem Value} {v:Value} {w' :World} (h:x.run P w= .ok v w'):(do pure (Next.value (<- x)):Sem Next).run P w= .ok (.value v) w' :=by
 simp [h]
theorem KQ {V:Vl} {cs:List SV} {off:Nat} {ag:Option Nat} {s:SV} (h:vg cs off ag=some s):
  match ag with |none=>(cs.map (bj V))[off]? =some (den V s) |some n=>den V s= .agg ⟨((cs.map (bj V)).drop off).take n⟩/\off+n<=cs.length:=by
 cases ag with
 |none=>
  obtain⟨x,hx,hs⟩:=Option.bind_eq_some_iff.1 h;dsimp only;rw[List.getElem?_map,hx];cases x<;>simp only[sw,dy] at hs<;>first |(subst hs;rfl) |cases hs
 |some n=>
  simp only[vg] at h;split at h
  ·rename_i hl;simp only[dy] at h;subst h;exact⟨by rw[Hv,List.map_take,List.map_drop],hl⟩
  ·cases h
end
theorem Vz {rho:List Gd} {t:Nat} {g:Gd} (h:zl rho t=some g):g.slot=t/\g∈rho:=by
 induction rho with
 |nil=>cases h
 |cons x r ih=>
  obtain⟨i',t',p',b'⟩:=x;simp only[zl] at h;split at h
  ·rename_i e;cases h;exact⟨e,dz ..⟩
  ·exact⟨(ih h).1,cS _ (ih h).2⟩
theorem uM {α β:Type} {o:Option α} {f:α->Option β} {y:β} (h:o.bind f=some y):∃x,o=some x/\f x=some y:=Option.bind_eq_some_iff.1 h
def Run (P:Program) (c:Bool) (x:Sem Next) (w:World) (v:Value):Prop:=c=true->x.run P w= .ok (.value v) w
theorem Yl.run {P:Program} {c:Bool} {x:Sem Value} {w:World} {v:Value} (h:Yl c P x w v):Run P c (do pure (.value (<- x))) w v:=fun hc=>kg (h hc)
section
variable {C:Ctx} {n:Nat} {st:LS} {a:Act} {V:Vl} {D:Nat->Nat} {w:World} {P:Program} {p:bt} {K:SV->Prop} {c:Bool}
theorem Sm {s:SV} (h:tU (.mk (k:=(U c,K)) s)):∃r,K r/\den V r=den V s/\(c=true->ua (den V s)=true):=by
 unfold tU at h;split at h
 ·rename_i x e;cases e;exact⟨_,h.2,rfl,fun hc=>h.1 hc⟩
 ·rename_i k o e;cases e;exact⟨_,h,rfl,fun _=>rfl⟩
 ·cases h
theorem VS {o:Oper} {x:Operand} (ho:o.op= .nilCheck x) (h:ua (a.eval x)=true):(execOp a.eval o).run P w= .ok (.value (a.eval x)) w:=by
 unfold execOp;simp only[ho];revert h;generalize a.eval x=v
 intro h;cases v with
 |pointer q=>cases q with
  |none=>cases h
  |some q=>rfl
 |nilIface=>cases h
 |nilFunc=>cases h
 |func f b d=>cases f<;>first |rfl |cases h
 |_=>rfl
theorem Tz {op:UnOp} {s:SV} (h:uu (.mk (k:=(op,U c,K)) s)):∃r,K r/\Yl c P (Op.unary op (den V s)) w (den V r):=by
 unfold uu at h;split at h
 ·rename_i b e;cases e;exact⟨_,h,fun _=>rfl⟩
 ·rename_i k m e;cases e;obtain⟨r,h1,h2⟩:=z6 (V:=V) h;exact⟨r,h1,fun hc=>by rw[h2 hc];rfl⟩
 ·cases h
theorem af2 {l:List UInt8} {j:Nat} {u:Value} (h:(kM l)[j]? =some u):∃b:UInt8,l[j]? =some b/\u= .int .u8 b.toNat:=by
 simp only[kM,List.getElem?_map,Option.map_eq_some_iff] at h;obtain⟨b,hb,rfl⟩:=h;exact⟨b,hb,rfl⟩
theorem X0 {P:Program} {src dst:TypeId} {k:IntKind} {m:Int} {k' :IntKind} (h:qA P src dst= .int k):(convert src dst (.int k' m)).run P w= .ok (.int k (k.wrap m)) w:=by
 unfold qA at h;split at h
 ·rename_i k1 k2 h1 h2;cases h;simp [convert,run_underlying h1,run_underlying h2,Conv.intToInt]
 ·cases h
 ·split at h<;>cases h
 ·cases h
theorem V6 {P:Program} {src dst:TypeId} {s:ByteArray} (h:qA P src dst= .same):(convert src dst (.string s)).run P w= .ok (.string s) w:=by
 unfold qA at h;split at h
 ·cases h
 ·rename_i h1 h2;simp [convert,run_underlying h1,run_underlying h2]
 ·split at h<;>cases h
 ·cases h
theorem X1 {P:Program} {src dst:TypeId} (h:qA P src dst= .b2s):∃e,P.underlying src=some (.slice e)/\P.underlying e=some (.int .u8)/\P.underlying dst=some .string:=by
 unfold qA at h;split at h
 ·cases h
 ·cases h
 ·rename_i e h1 h2;split at h
  ·rename_i h3;exact⟨e,h1,h3,h2⟩
  ·cases h
 ·cases h
theorem M1 {P:Program} {src dst:TypeId} {l:List UInt8} {x:Option Addr} {n cp:Nat} (h:qA P src dst= .b2s) (hn:l.length=n) (hx:0<n->∃ad,x=some ad/\∀j u,(kM l)[j]? =some u->w.cell? (ad.add j)=some u):
  (convert src dst (.slice x n cp)).run P w= .ok (.string (bs l)) w:=by
 obtain⟨e,h1,h2,h3⟩:=X1 h;rcases Nat.eq_zero_or_pos n with h0 |h0
 ·subst h0;have:l=[]:=List.eq_nil_of_length_eq_zero hn;subst this;cases x with
  |none=>rw[run_convert_bytes_string w src dst e none _ cp h1 h2 h3];simp [Conv.bytesToString];rfl
  |some ad=>exact run_convert_bytes_back w src dst e ad cp [] h1 h2 h3 (fun j hj=>absurd hj (by simp))
 ·obtain⟨ad,rfl,hc⟩:=hx h0;subst hn;exact run_convert_bytes_back w src dst e ad cp l h1 h2 h3 (fun j hj=>hc j _ (by simp [kM,List.getElem?_eq_getElem hj]))
theorem wO {e:TypeId} {sz:Nat} {h:Hd} {m:Nat} {xs:List Value} (ho:w.ownsRow 0 e sz h.val m xs):h.n=m/\xs.length=m * sz/\(0<m->∃g,h.a=some ⟨g,0,none⟩/\∀j u,xs[j]? =some u->w.cell? ⟨g,j,none⟩=some u):=by
 obtain⟨hl,hv⟩:=ho;rcases hv with ⟨hv,rfl⟩ |⟨g,cap,cur,hv,_,hh,I3,_,j9,pB⟩
 ·simp only[Hd.val,Value.slice.injEq] at hv;exact⟨hv.2.1,hl,fun h0=>absurd h0 (by omega)⟩
 ·simp only[Hd.val,Value.slice.injEq] at hv;refine⟨hv.2.1,hl,fun _=>⟨g,hv.1,fun j u hu=> ?_⟩⟩;have hj:j<m * sz:=by have:=(List.getElem?_eq_some_iff.1 hu).1;omega
  rw[<- pB,List.getElem?_take,aj hj] at hu;simp only[World.cell?,hh,Option.isSome_none,Bool.false_eq_true,if_false];rw[<- hu,Array.getElem?_toList]
theorem CI (g j:Nat):(Addr.add ⟨g,0,none⟩ j)=⟨g,j,none⟩:=by
 unfold Addr.add;split
 ·rename_i h;subst h;rfl
 ·simp
theorem wT (hS:Sat C n st a V D w) {k u:Nat} {b:Vc} (h:cN st.vc k u=some b):yc V D w b/\b.id=k/\b.ver=u:=
 ⟨hS.heap.vc b (AH h).2.2,(AH h).1,(AH h).2.1⟩
theorem RM (hS:Sat C n st a V D w) {src dst:TypeId} {s:SV} (h:qU (.mk (k:=(U c,K)) (st,qA P src dst,s))):
  ∃r,K r/\Yl c P (convert src dst (den V s)) w (den V r):=by
 unfold qU at h;split at h
 ·rename_i k k' m e;simp only[A.mk.injEq,Prod.mk.injEq] at e;obtain⟨rfl,e2,rfl⟩:=e;exact⟨_,h,fun _=>X0 e2⟩
 ·rename_i s' e;simp only[A.mk.injEq,Prod.mk.injEq] at e;obtain⟨rfl,e2,rfl⟩:=e;exact⟨_,h,fun _=>V6 e2⟩
 ·rename_i ak k v e;simp only[A.mk.injEq,Prod.mk.injEq] at e;obtain⟨rfl,e2,rfl⟩:=e;obtain⟨b,hb,l,h1,h2⟩:=aG h;refine⟨_,h2,fun hc=> ?_⟩;obtain⟨e1,e3⟩:=h1 hc;obtain⟨hv,rfl,rfl⟩:=wT hS hb;obtain⟨hn,hl,hx⟩:=wO hv.1;have Jj:l.length=b.n:=by rw[e1,Nat.mul_one,e3] at hl;simpa [kM] using hl
  refine M1 e2 (by rw[Jj,hn]) (fun h0=> ?_);obtain⟨g,hg,jM⟩:=hx (by omega);refine⟨_,hg,fun j y hy=> ?_⟩;rw[CI];exact jM j y (by rw[e3];exact hy)
 ·rename_i ak x m cp e;simp only[A.mk.injEq,Prod.mk.injEq] at e;obtain⟨rfl,e2,rfl⟩:=e;obtain⟨l,h1,h2⟩:=h;refine⟨_,h2,fun hc=> ?_⟩;have hr:=h1 hc;refine M1 e2 (by have:=hr.1;simpa [kM] using this) (fun h0=>OM hS.mle hr h0)
 ·cases h
theorem GZ {P:Program} {s:TypeId} {f off sz:Nat} {ag:Option Nat} (h:cM P s f=some (off,ag,sz)):∃fs x,P.underlying s=some (.struct fs)/\fs[f]? =some x/\x.offset=off/\eo P x.type=some ag/\0<bC P x.type/\bC P x.type=sz:=by
 unfold cM at h;split at h
 ·rename_i fs hs;obtain⟨x,hx,h⟩:=uM h;split at h
  ·rename_i h0;simp only[Option.map_eq_some_iff,Prod.mk.injEq] at h;obtain⟨g,hg,rfl,rfl,rfl⟩:=h;exact⟨fs,x,hs,hx,rfl,hg,h0,rfl⟩
  ·cases h
 ·cases h
theorem FE {P:Program} {s:TypeId} {f off sz:Nat} {ag:Option Nat} {ad:Addr} (h:cM P s f=some (off,ag,sz)):(Instr.fieldAt s (.pointer (some ad)) f).run P w= .ok (.pointer (some (ad.add off))) w:=by
 obtain⟨fs,x,hs,hx,rfl,_,h0,_⟩:=GZ h;have:bC P x.type≠0:=by omega
 simp [Instr.fieldAt,run_underlying hs,hx,Instr.sureAddr,fieldPlace,AD h0,this]
theorem yM (b o f:Nat):(Addr.add ⟨b,o,none⟩ f)=⟨b,o+f,none⟩:=by
 unfold Addr.add;split
 ·rename_i h;subst h;rfl
 ·rfl
theorem Ss (hS:Sat C n st a V D w) {s:TypeId} {x:SV} {f off sz:Nat} {ag:Option Nat} (hf:cM P s f=some (off,ag,sz))
  (h:sE (.mk (k:=(U c,K)) (st,x,off))):∃r,K r/\Yl c P (Instr.fieldAt s (den V x) f) w (den V r):=by
 unfold sE at h;split at h
 ·rename_i ak k o f' e;simp only[A.mk.injEq,Prod.mk.injEq] at e;obtain⟨rfl,rfl,rfl⟩:=e;exact⟨_,h,fun _=>by rw[yK,FE hf,yM];rfl⟩
 ·rename_i ak k v o f' e;simp only[A.mk.injEq,Prod.mk.injEq] at e;obtain⟨rfl,rfl,rfl⟩:=e;obtain⟨b,hb,h1,h2⟩:=aG h;refine⟨_,h2,fun hc=> ?_⟩;obtain⟨hv,rfl,rfl⟩:=wT hS hb;obtain⟨_,hl,hx⟩:=wO hv.1;have ho:=h1 hc;have hn:0<b.n:=by
   rcases Nat.eq_zero_or_pos b.n with h0 |h0
   ·rw[h0,Nat.zero_mul] at hl;omega
   ·exact h0
  obtain⟨g,hg,_⟩:=hx hn;show(Instr.fieldAt s (.pointer ((V.γ b.id b.ver).a.map (·.add o))) f).run P w= .ok (.pointer ((V.γ b.id b.ver).a.map (·.add (o+off)))) w;rw[hg];simp only[Option.map_some,yM,FE hf,Nat.zero_add]
 ·rename_i ak y f' e;simp only[A.mk.injEq,Prod.mk.injEq] at e;obtain⟨rfl,rfl,rfl⟩:=e;refine⟨_,h.2,fun hc=> ?_⟩;obtain⟨ad,rfl⟩:=h.1 hc;exact FE hf
 ·cases h
theorem wy {P:Program} {t:TypeId} {ag:Option Nat} {cs:List Value} {off:Nat} {v:Value} (h:eo P t=some ag)
  (hv:match ag with |none=>cs[off]? =some v |some k=>v= .agg ⟨(cs.drop off).take k⟩/\off+k<=cs.length):(part t ⟨cs⟩ off).run P w= .ok v w:=by
 cases ag with
 |none=>
  simp only[part,Sem.run_bind,JR h,Result.andThen_ok,Bool.false_eq_true,if_false];dsimp only at hv;have:(⟨cs⟩:Array Value)[off]? =some v:=by rw[<- hv,<- Array.getElem?_toList]
  rw[this];rfl
 |some k=>
  obtain⟨rfl,hl⟩:=hv;simp only[part,Sem.run_bind,(CG h).1,(CG h).2,Result.andThen_ok,if_true,Sem.run_pure];have:(Array.mk cs).extract off (off+k)=⟨(cs.drop off).take k⟩:=by
   apply Array.ext'
   simp [List.extract,Nat.add_sub_cancel_left]
  rw[this]
theorem Ro {s:TypeId} {x:SV} {f off sz:Nat} {ag:Option Nat} {cs:List SV} {r:SV} (hf:cM P s f=some (off,ag,sz)) (hx:oQ x=some cs) (h:vg cs off ag=some r):
  (Instr.field s (den V x) f).run P w= .ok (den V r) w:=by
 obtain⟨fs,y,hs,hy,rfl,hg,_,_⟩:=GZ hf;have hd:den V x= .agg ⟨cs.map (bj V)⟩:=JY hx;simp only[Instr.field,Sem.run_bind,run_underlying hs,Result.andThen_ok,hy,hd,asAgg,Sem.run_pure];refine wy hg ?_;have ht:=KQ (V:=V) h;cases ag with
 |none=>
  exact ht
 |some k=>exact⟨ht.1,by rw[List.length_map];exact ht.2⟩
end
section
variable {C:Ctx} {n:Nat} {st:LS} {a:Act} {V:Vl} {D:Nat->Nat} {w:World} {P:Program} {p:bt} {K:SV->Prop} {c:Bool}
theorem nK {t e:TypeId} (h:iQ P t=some e):P.underlying t=some (.slice e):=by
 unfold iQ at h;split at h
 ·rename_i e' h';cases h;exact h'
 ·cases h
theorem J2 {t e:TypeId} {ad:Addr} {len cp:Nat} {k:IntKind} {i:Int} (h:iQ P t=some e) (h0:0<bC P e) (hi:0<=i) (hl:i<len):
  (Instr.indexAt t (.slice (some ad) len cp) (.int k i)).run P w= .ok (.pointer (some (ad.add (i.toNat * bC P e)))) w:=by
 simp [Instr.indexAt,asIntOf,run_underlying (nK h),hi,hl,AD h0]
theorem Sr (hS:Sat C n st a V D w) {t e:TypeId} {x i:SV} (he:iQ P t=some e) (h:tX (.mk (k:=(P,U c,K)) (st,e,x,i))):
  ∃r,K r/\Yl c P (Instr.indexAt t (den V x) (den V i)) w (den V r):=by
 unfold tX at h;split at h
 ·rename_i ak e' x m cp k j q;simp only[A.mk.injEq,Prod.mk.injEq] at q;obtain⟨rfl,rfl,rfl,rfl⟩:=q;refine⟨_,h.2.2,fun hc=> ?_⟩;obtain⟨h1,h2,h3⟩:=h.2.1 hc;cases x with
  |none=>exact absurd rfl h3
  |some ad=>exact J2 he h.1 h1 h2
 ·rename_i ak e' k v kk j q;simp only[A.mk.injEq,Prod.mk.injEq] at q;obtain⟨rfl,rfl,rfl,rfl⟩:=q;obtain⟨b,hb,h0,h1,h2⟩:=aG h;refine⟨_,h2,fun hc=> ?_⟩;obtain⟨hv,rfl,rfl⟩:=wT hS hb;obtain⟨i0,i1,_⟩:=h1 hc;obtain⟨hn,hl,hx⟩:=wO hv.1;obtain⟨g,hg,_⟩:=hx (by omega);show(Instr.indexAt t (V.γ b.id b.ver).val (.int kk j)).run P w= .ok (.pointer ((V.γ b.id b.ver).a.map (·.add (j.toNat * bC P e)))) w;unfold Hd.val;rw[hg,hn];exact J2 he h0 i0 i1
 ·cases h
theorem byte_at (s:ByteArray) (i:Nat) (h:i<(tl s).length):s[i]? =some ((tl s).getD i 0):=by
 have hs:i<s.size:=by rw[<- yN];exact h
 have e1:s[i]? =some s[i]:=getElem?_pos s i hs;rw[e1];rw[List.getD_eq_getElem?_getD,List.getElem?_eq_getElem h];rfl
theorem TF {t:TypeId} {x i:SV} (h:vN (.mk (k:=(P,t,U c,K)) (x,i))):∃r,K r/\Yl c P (Instr.index t (den V x) (den V i)) w (den V r):=by
 unfold vN at h;split at h
 ·rename_i s k j q;simp only[A.mk.injEq,Prod.mk.injEq] at q;obtain⟨rfl,rfl⟩:=q;refine⟨_,h.2.2,fun hc=> ?_⟩;obtain⟨h1,h2⟩:=h.2.1 hc;have hb:=byte_at s j.toNat (by omega);simp only[eR,Instr.index,asIntOf,Sem.run_bind,Sem.run_pure,Result.andThen_ok,run_underlying h.1,aj h1,hb]
 ·cases h
theorem JQ {o:Option SV} {d l:Int} (h:qL o d=some l):(o=none/\l=d)\/∃k,o=some (.v (.int k l)):=by
 unfold qL at h;split at h
 ·cases h;exact .inl ⟨rfl,rfl⟩
 ·cases h;exact .inr ⟨_,rfl⟩
 ·cases h
theorem DS {k:IntKind} {i:Int} {y:Nat} {code:BoundsCode} (h0:0<=i) (h1:i<=y):(Instr.sliceBound (.int k i) y code).run P w= .ok i.toNat w:=by
 simp [Instr.sliceBound,asIntOf,h0,h1]
theorem M0 {isS:Bool} {len cp:Nat} {lo hi:Option SV} {l h:Int} (hl:qL lo 0=some l) (hh:qL hi len=some h) (h0:0<=l) (h1:l<=h) (h2:h<=cp):
  (Instr.sliceBounds isS len cp (lo.map (den V)) (hi.map (den V)) none).run P w= .ok (l.toNat,h.toNat,cp) w:=by
 have eh:(h.toNat:Int)=h:=Int.toNat_of_nonneg (by omega);rcases JQ hl with ⟨rfl,rfl⟩ |⟨k,rfl⟩<;>rcases JQ hh with ⟨rfl,rfl⟩ |⟨k',rfl⟩
 ·simp [Instr.sliceBounds]
 ·simp only[Instr.sliceBounds,Option.map_none,Option.map_some,Sem.run_bind,Sem.run_pure,Result.andThen_ok,eR];rw[DS (by omega) h2];rfl
 ·simp only[Instr.sliceBounds,Option.map_none,Option.map_some,Sem.run_bind,Sem.run_pure,Result.andThen_ok,eR];rw[DS h0 h1];simp
 ·simp only[Instr.sliceBounds,Option.map_none,Option.map_some,Sem.run_bind,Sem.run_pure,Result.andThen_ok,eR];rw[DS (by omega) h2];simp only[Result.andThen_ok];rw[DS h0 (by omega)];rfl
theorem SS (s:ByteArray) (l h:Nat):s.extract l h=bs (((tl s).take h).drop l):=by
 rw[<- lH (s.extract l h)];congr 1
 show(s.extract l h).data.toList=_;rw[Lib.extract_data,List.drop_take];rfl
theorem TA {t:TypeId} {x:SV} {lo hi:Option SV} (h:uv (.mk (k:=(P,t,U c,K)) (x,lo,hi))):
  ∃r,K r/\Yl c P (Instr.sliceAt t (den V x) (lo.map (den V)) (hi.map (den V)) none) w (den V r):=by
 unfold uv at h;split at h
 ·rename_i s lo hi q;simp only[A.mk.injEq,Prod.mk.injEq] at q;obtain⟨rfl,rfl,rfl⟩:=q;obtain⟨ht,h⟩:=h;obtain⟨l,hl,h⟩:=aG h;obtain⟨r,hr,h⟩:=aG h;simp only[Ie] at h;refine⟨_,h.2,fun hc=> ?_⟩;obtain⟨h0,h1,h2⟩:=h.1 hc;rw[yN] at hr h2;rw[eR,run_sliceAt_string (h:=ht)];simp only[Instr.slice,Sem.run_bind,run_underlying ht,Result.andThen_ok,Option.isSome_none,Bool.false_eq_true,if_false,Sem.run_pure];rw[M0 hl hr h0 h1 h2];simp only[Result.andThen_ok,SS];rfl
 ·rename_i x m cp lo hi q;simp only[A.mk.injEq,Prod.mk.injEq] at q;obtain⟨rfl,rfl,rfl⟩:=q;obtain⟨l,hl,h⟩:=aG h;obtain⟨r,hr,h⟩:=aG h;obtain⟨e,he,hz,h⟩:=aG h;refine⟨_,h.2,fun hc=> ?_⟩;obtain⟨h0,h1,h2⟩:=h.1 hc;have hu:=nK he;have B8:P.underlying t=some (.slice (P.elem t)):=by
   rw[hu];unfold Program.elem;rw[hu]
  rw[eR,run_sliceAt_slice (h:=B8)];simp only[Instr.slice,Sem.run_bind,run_underlying hu,Result.andThen_ok];rw[M0 hl hr h0 h1 h2];simp only[Result.andThen_ok,AD hz,Sem.run_pure];rfl
 ·cases h
theorem Ai {t:TypeId} {ad:Addr} {v:Value} (h:(loadVar t ad).run P w= .ok v w):(Instr.loadAt t (.pointer (some ad))).run P w= .ok v w:=by
 simp [Instr.loadAt,Instr.sureAddr,h]
theorem NN (hS:Sat C n st a V D w) {k:Nat} {b:Bx} (h:ie st.bx k=some b) (cZ:b.ty<om) (j:Nat):w.cell? ⟨V.β k,j,none⟩=(b.cs.map (bj V))[j]? :=by
 obtain⟨rfl,hm⟩:=tE h;obtain⟨o,this,ho⟩:=(hS.heap.bx b hm).1;unfold mu at ho;rw[aj cZ] at ho;subst ho;simp only[World.cell?,this,Option.isSome_none,Bool.false_eq_true,if_false];rw[<- Array.getElem?_toList]
theorem J4 (hS:Sat C n st a V D w) {t:TypeId} {x:SV} (h:o6 (.mk (k:=(P,t,U c,K)) (st,x))):∃r,K r/\Yl c P (Instr.loadAt t (den V x)) w (den V r):=by
 unfold o6 at h;split at h
 ·rename_i ak k o q;simp only[A.mk.injEq,Prod.mk.injEq] at q;obtain⟨rfl,rfl⟩:=q;obtain⟨b,hb,cZ,h⟩:=aG h;obtain⟨ag,ji,h⟩:=aG h;obtain⟨r,hr,h⟩:=aG h;refine⟨r,h,fun _=>Ai ?_⟩;have ht:=KQ (V:=V) hr;cases ag with
  |none=>
   refine yd (cs:=[den V r]) ji (fun j u hu=> ?_) rfl;cases j with
   |zero=>rw[yM,NN hS hb cZ];simp only[List.getElem?_cons_zero] at hu;rw[<- hu];exact ht
   |succ j=>simp at hu
  |some k' =>
   refine yd (cs:=((b.cs.map (bj V)).drop o).take k') ji (fun j u hu=> ?_) ⟨?_,ht.1⟩
   ·rw[yM,NN hS hb cZ];rw[List.getElem?_take] at hu;split at hu
    ·rw[List.getElem?_drop] at hu;exact hu
    ·cases hu
   ·have:=ht.2;simp only[List.length_take,cH,List.length_map];omega
 ·rename_i ak k v o q;simp only[A.mk.injEq,Prod.mk.injEq] at q;obtain⟨rfl,rfl⟩:=q;obtain⟨b,hb,h⟩:=aG h;obtain⟨ag,ji,h⟩:=aG h;obtain⟨hv,rfl,rfl⟩:=wT hS hb;obtain⟨_,hl,hx⟩:=wO hv.1;have key:o<b.xs.length->∃g,den V (.vp b.id b.ver o)= .pointer (some ⟨g,o,none⟩)/\∀j u,b.xs[j]? =some u->w.cell? ⟨g,j,none⟩=some u:=by
   intro ho;have hn:0<b.n:=by
    rcases Nat.eq_zero_or_pos b.n with h0 |h0
    ·rw[h0,Nat.zero_mul] at hl;omega
    ·exact h0
   obtain⟨g,hg,hc⟩:=hx hn;refine⟨g,?_,hc⟩;show Value.pointer ((V.γ b.id b.ver).a.map (·.add o))=_;rw[hg];simp only[Option.map_some,CI]
  cases ag with
  |none=>
   simp only[xb] at h;refine⟨_,h.2,fun hc=> ?_⟩;have ho:=h.1 hc;obtain⟨g,hg,jM⟩:=key ho;rw[hg,eR];refine Ai (yd (cs:=[b.xs.getD o undef]) ji (fun j u hu=> ?_) rfl);cases j with
   |zero=>
    simp only[List.getElem?_cons_zero,dy] at hu;rw[yM];refine jM _ _ ?_;rw[<- hu,Nat.add_zero,List.getD_eq_getElem?_getD,List.getElem?_eq_getElem ho];rfl
   |succ j=>simp at hu
  |some k' =>
   simp only[xb] at h;obtain⟨hk,h⟩:=h;refine⟨_,h.2,fun hc=> ?_⟩;have ho:=h.1 hc;obtain⟨g,hg,jM⟩:=key (by omega);rw[hg,eR];refine Ai (yd (cs:=(b.xs.drop o).take k') ji (fun j u hu=> ?_) ⟨by simp only[List.length_take,cH];omega,rfl⟩);rw[yM];refine jM _ _ ?_;rw[List.getElem?_take] at hu;split at hu
   ·rw[List.getElem?_drop] at hu;exact hu
   ·cases hu
 ·rename_i ak x q;simp only[A.mk.injEq,Prod.mk.injEq] at q;obtain⟨rfl,rfl⟩:=q;obtain⟨ag,ji,h⟩:=aG h;cases ag with
  |none=>
   simp only[xz] at h;obtain⟨v,h1,h2⟩:=h;refine⟨_,h2,fun hc=> ?_⟩;obtain⟨ad,rfl,jM⟩:=Pl hS.mle (h1 hc);exact Ai (yd ji jM rfl)
  |some k' =>
   simp only[xz] at h;obtain⟨cs,h1,h2⟩:=h;refine⟨_,h2,fun hc=> ?_⟩;obtain⟨hr,hlen⟩:=h1 hc;obtain⟨ad,rfl,jM⟩:=Pl hS.mle hr;exact Ai (yd ji jM ⟨hlen,rfl⟩)
 ·cases h
end
open Classical in
noncomputable def mB:List (Value×Value)->Value->Value->List (Value×Value)
 |[],s,x=>[(s,x)]
 |(a,v)::r,s,x=>if a=s then(a,x)::r else(a,v)::mB r s x
open Classical in
noncomputable def mG:List (Value×Value)->Value->Option (Nat×Value)
 |[],_=>none
 |(a,v)::r,s=>if a=s then some (0,v) else(mG r s).map fun x=>(x.1+1,x.2)
theorem Lt (a v:Value) (l:List (Value×Value)):np ((a,v)::l)=a::v::np l:=rfl
theorem Gt (s:Value):∀(l:List (Value×Value)),lG (np l) s=(mG l s).map (·.2)
 |[]=>rfl
 |(a,v)::l=>by
  rw[Lt,lG,mG];by_cases h:a=s
  ·rw[aj h,aj h];rfl
  ·rw[ae h,ae h,Gt s l];cases mG l s<;>rfl
theorem L3 (s x:Value):∀(l:List (Value×Value)),vz (np l) s x=np (mB l s x)
 |[]=>rfl
 |(a,v)::l=>by
  rw[Lt,vz,mB];by_cases h:a=s
  ·rw[aj h,aj h];rfl
  ·rw[ae h,ae h,L3 s x l];rfl
theorem Ho (s:Value):∀(es:List MapEntry) (i:Nat),vT es s i=(mG (es.map fun e=>(e.key,e.val)) s).map fun x=>(i+x.1,x.2)
 |[],_=>rfl
 |e::es,i=>by
  simp only[vT,br,mG];by_cases h:e.key=s
  ·rw[aj h,aj h];rfl
  ·rw[ae h,ae h,Ho s es (i+1)];cases mG (es.map fun e=>(e.key,e.val)) s with
   |none=>rfl
   |some x=>simp only[Option.map_some];rw[show i+1+x.1=i+(x.1+1) by omega]
theorem Nv {g:Nat}:∀{l:List (Value×Value)} {s:Value} {y:Nat×Value},(∀x∈l,gr g x.1/\kJ g x.2)->mG l s=some y->kJ g y.2
 |[],_,_,_,h=>by cases h
 |(a,v)::l,s,y,hl,h=>by
  simp only[mG] at h;split at h
  ·cases h;exact(hl (a,v) (dz ..)).2
  ·obtain⟨y',h',rfl⟩:=Option.map_eq_some_iff.1 h;exact Nv (l:=l) (s:=s) (y:=y') (fun x hx=>hl x (cS _ hx)) h'
theorem M9 {g:Nat} {s x:Value} (hs:gr g s) (hx:kJ g x):∀{l:List (Value×Value)},(∀y∈l,gr g y.1/\kJ g y.2)->∀y∈mB l s x,gr g y.1/\kJ g y.2
 |[],_,y,hy=>by
  rw[List.mem_singleton.1 hy];exact⟨hs,hx⟩
 |(a,v)::l,hl,y,hy=>by
  rw[mB] at hy;have ha:=hl (a,v) (dz ..);have hr:=fun z hz=>hl z (cS _ hz)
  split at hy
  ·rcases List.mem_cons.1 hy with rfl |hy
   ·exact⟨ha.1,hx⟩
   ·exact hr y hy
  ·rcases List.mem_cons.1 hy with rfl |hy
   ·exact ha
   ·exact M9 hs hx hr y hy
theorem TT {P:Program} {t:TypeId} (h:(jb P t).2=none):(jb P t).1≠1000002:=by
 unfold jb at h ⊢;split<;>rename_i hu
 ·rw[hu] at h;simp only at h ⊢;split<;>rename_i hk he
  ·simp
  ·exfalso;revert h;split
   ·simp_all
   ·simp
   ·simp_all
   ·simp_all
  ·simp
  ·simp
 ·simp
theorem Te {g:Nat} {v:Value} (h:kJ g v) (hg:g≠1000002):∃b,v= .bool b:=by
 unfold kJ at h;rwa [ae hg] at h
theorem VD {P:Program} {w:World} {g:Nat} {v:Value} (h:gr g v):(Instr.keyThatStays v v).run P w= .ok v w:=by
 have e:Instr.sameBits 10000 v v=true:=by
  unfold gr at h;split at h
  ·obtain⟨s,n,rfl⟩:=h;have hs:(s==s)=true:=(MapKept.bytes_beq s s).2 rfl;simp [Instr.sameBits,hs]
  ·obtain⟨s,rfl⟩:=h;have hs:(s==s)=true:=(MapKept.bytes_beq s s).2 rfl;simp [Instr.sameBits,hs]
 unfold Instr.keyThatStays;rw[e];rfl
def Ey (c:Bool) (z:Value):Option Value->Value
 |some v=>if c=true then .tuple #[v,.bool true] else v
 |none=>if c=true then .tuple #[z,.bool false] else z
section
variable {P:Program} {w:World} {t:TypeId} {r pJ:Nat} {es:Array MapEntry} {l:List (Value×Value)}
theorem Nt {g:Nat} (fm:es.toList.map (fun e=>(e.key,e.val))=l) (hk:∀x∈l,gr g x.1/\kJ g x.2):∀x∈es.toList,gr g x.key:=fun x hx=>by
 have:(x.key,x.val)∈l:=by rw[<- fm];exact List.mem_map.2 ⟨x,hx,rfl⟩
 exact(hk _ this).1
theorem SF (ht:vt P t) (hb:w.heap[r]? =some (.map es pJ)) (fm:es.toList.map (fun e=>(e.key,e.val))=l) (hk:∀x∈l,gr (jb P t).1 x.1/\kJ (jb P t).1 x.2) {key:Value} (rm:gr (jb P t).1 key) (c:Bool):
  (Instr.lookup t (.map (some r)) key c).run P w= .ok (Ey c ((jb P t).2.getD (.bool false)) (lG (np l) key)) w:=by
 obtain⟨_,k,e,h1,h2,h3,h4⟩:=ht;have hc:=h2 w key es.isEmpty 9998 rm;have hf:=h3 w key es.toList rm (Nt fm hk);rw[Ho,fm] at hf;have hz:=h4 w;rw[Gt];cases hx:mG l key with
 |none=>
  rw[hx] at hf;cases c<;>simp [Instr.lookup,run_underlying h1,MapKept.run_getObj_map hb,hc,hf,hz,Result.andThen,Ey]
 |some x=>
  rw[hx] at hf;cases c<;>simp [Instr.lookup,run_underlying h1,MapKept.run_getObj_map hb,hc,hf,Result.andThen,Ey]
theorem L1 {s x:Value}:∀{l:List (Value×Value)},mG l s=none->mB l s x=l++[(s,x)]
 |[],_=>rfl
 |(a,v)::l,h=>by
  simp only[mG] at h;split at h
  ·cases h
  ·rename_i hs;rw[mB,ae hs,L1 (Option.map_eq_none_iff.1 h)];rfl
theorem LZ {s x:Value}:∀{l:List (Value×Value)} {y:Nat×Value},mG l s=some y->∃h:y.1<l.length,l[y.1].1=s/\mB l s x=l.set y.1 (s,x)
 |[],_,h=>by cases h
 |(a,v)::l,y,h=>by
  simp only[mG] at h;split at h
  ·rename_i hs;cases h;exact⟨Nat.zero_lt_succ _,hs,by rw[mB,aj hs,hs];rfl⟩
  ·rename_i hs;obtain⟨y',h',rfl⟩:=Option.map_eq_some_iff.1 h;obtain⟨h1,h2,h3⟩:=LZ (x:=x) h';exact⟨Nat.succ_lt_succ h1,h2,by rw[mB,ae hs,h3];rfl⟩
theorem R6 (ht:vt P t) (hb:w.heap[r]? =some (.map es pJ)) (fm:es.toList.map (fun e=>(e.key,e.val))=l) (hk:∀x∈l,gr (jb P t).1 x.1/\kJ (jb P t).1 x.2) {key:Value} (rm:gr (jb P t).1 key) (v:Value):
  ∃xX zw,(Instr.mapUpdate t (.map (some r)) key v).run P w= .ok () {w with heap:=w.heap.setIfInBounds r (.map xX zw)}/\
   xX.toList.map (fun e=>(e.key,e.val))=mB l key v:=by
 obtain⟨_,k,e,h1,h2,h3,h4⟩:=ht;have hc:=h2 w key false 9998 rm;have hf:=h3 w key es.toList rm (Nt fm hk);rw[Ho,fm] at hf;cases hx:mG l key with
 |none=>
  rw[hx] at hf;refine⟨es.push {key:=key,val:=v,born:=pJ},pJ+1,?_,?_⟩
  ·simp [Instr.mapUpdate,run_underlying h1,MapKept.run_getObj_map hb,hc,hf,MapKept.run_setObj_map _ hb,Result.andThen]
  ·rw[L1 hx,Array.toList_push,List.map_append,fm];rfl
 |some y=>
  rw[hx] at hf;obtain⟨hy,hky,hput⟩:=LZ (x:=v) hx;have hlen:es.toList.length=l.length:=by have:=congrArg List.length fm;simpa using this
  have hj:y.1<es.size:=by rw[<- Array.length_toList,hlen];exact hy
  have aai:(es[y.1]).key=key:=by
   have:=congrArg (·[y.1]?) fm;simp only[List.getElem?_map,Array.getElem?_toList,Array.getElem?_eq_getElem hj,List.getElem?_eq_getElem hy,Option.map_some,dy] at this;rw[<- hky,<- this]
  refine⟨es.modify y.1 fun e=>{e with key:=key,val:=v},pJ,?_,?_⟩
  ·simp [Instr.mapUpdate,run_underlying h1,MapKept.run_getObj_map hb,hc,hf,MapKept.run_setObj_map _ hb,Result.andThen,hj,aai,VD rm]
  ·rw[hput];apply List.ext_getElem?
   intro q;have hq:=congrArg (·[q]?) fm;simp only[List.getElem?_map,Array.getElem?_toList] at hq ⊢;rw[List.getElem?_set,Array.getElem?_modify];by_cases e:y.1=q
   ·subst e;simp [hj,hy]
   ·simp only[ae e];exact hq
end
/-! Which maps are so. -/
theorem J8 {s:ByteArray}:∀(es:List MapEntry) (i:Nat),(∀x∈es,∃a,x.key= .string a)->Instr.findNow .string (.string s) es i=some (vT es (.string s) i)
 |[],_,_=>rfl
 |e::es,i,h=>by
  obtain⟨a,ha⟩:=h e (dz ..);have ih:=J8 (s:=s) es (i+1) fun x hx=>h x (cS _ hx)
  simp only[Instr.findNow,ha,Instr.sameNow,vT];by_cases hs:s=a
  ·have:(s==a)=true:=(MapKept.bytes_beq s a).2 hs;rw[this,aj (by rw[ha,hs])]
  ·have:(s==a)=false:=by
    cases hb:(s==a) with
    |false=>rfl
    |true=>exact absurd ((MapKept.bytes_beq s a).1 hb) hs
   rw[this,ae (fun h=>hs (Value.string.inj (ha.symm.trans h)).symm)];exact ih
theorem GW {g:Nat} {v:Value} (hg:g≠1000001):gr g v↔∃s,v= .string s:=by unfold gr;rw[ae hg]
theorem TS {P:Program} {t k e:TypeId} (h1:P.underlying t=some (.map k e)) (h2:P.underlying k=some .string) (hg:om<=(jb P t).1/\(jb P t).1≠1000001)
  (hz:∀w,(zeroValue e).run P w= .ok ((jb P t).2.getD (.bool false)) w):vt P t:=by
 refine⟨hg.1,k,e,h1,fun w key em n hk=> ?_,fun w key es hk fm=> ?_,hz⟩
 ·obtain⟨s,rfl⟩:=(GW hg.2).1 hk;exact MapKept.run_checkKey (P:=P) (w:=w) (kt:=k) h2 (by simp [MapKept.IsKey]) em (n+1)
 ·obtain⟨s,rfl⟩:=(GW hg.2).1 hk;exact MapKept.run_findKey (P:=P) (w:=w) (kt:=k) h2 (J8 es 0 fun x hx=>(GW hg.2).1 (fm x hx))
theorem KL {P:Program} {e:TypeId} {i:TypeInfo} {z:Value} (h1:P.info? e=some i) (h2:i.zero=some z) (w:World):(zeroValue e).run P w= .ok z w:=by simp [zeroValue,typeInfo,h1,h2]
section
variable {P:Program} {C:Ctx} {n:Nat} {st:LS} {a:Act} {V:Vl} {D:Nat->Nat} {w:World} {K:SV->Prop}
theorem CZ {V:Vl}:∀{cs:List SV} {l:List Value},mf cs=some l->cs.map (bj V)=l
 |[],l,h=>by simp only[mf,dy] at h;subst h;rfl
 |s::r,l,h=>by
  simp only[mf,Option.bind_eq_some_iff,Option.map_eq_some_iff] at h;obtain⟨x,hx,l',hl,rfl⟩:=h;simp only[br];rw[CZ hl];cases s<;>simp only[plain,dy] at hx<;>first |(subst hx;rfl) |cases hx
theorem Gg {V:Vl} {s:SV} {v:Value} (h:oX s=some v):den V s=v:=by
 cases s with
 |v x=>cases h;rfl
 |agg cs=>
  obtain⟨l,hl,rfl⟩:=Option.map_eq_some_iff.1 h;show Value.agg ⟨_⟩=_;rw[CZ hl]
 |box k o=>cases h
 |vec k u=>cases h
 |vp k u o=>cases h
 |mp k=>cases h
 |mv f k o=>cases h
 |tup l=>cases h
theorem N9 (hS:Sat C n st a V D w) {k:Nat} {b:Bx} (hb:ie st.bx k=some b) (cZ:om<=b.ty):
  ∃es pJ l,w.heap[V.β k]? =some (.map es pJ)/\b.cs.map (bj V)=np l/\es.toList.map (fun e=>(e.key,e.val))=l/\∀x∈l,gr b.ty x.1/\kJ b.ty x.2:=by
 obtain⟨rfl,hm⟩:=tE hb;obtain⟨o,ho,hob⟩:=(hS.heap.bx b hm).1;unfold mu at hob;rw[ae (Nat.not_lt.2 cZ)] at hob;obtain⟨es,pJ,l,rfl,h1,h2,h3⟩:=hob;exact⟨es,pJ,l,ho,h1,h2,h3⟩
theorem Sp (hS:Sat C n st a V D w) {t:TypeId} {c:Bool} {x i:SV} (h:tV (.mk (k:=(P,t,c,K)) (st,x,oX i))):∃r,K r/\(Instr.lookup t (den V x) (den V i) c).run P w= .ok (den V r) w:=by
 unfold tV at h;split at h
 ·rename_i ak k key q;simp only[A.mk.injEq,Prod.mk.injEq] at q;obtain⟨rfl,rfl,rm⟩:=q;obtain⟨b,hb,cZ,ht,hk,h⟩:=aG h;obtain⟨l,hl,hK⟩:=aG h;have cZ:=beq_iff_eq.1 cZ;obtain⟨es,pJ,l',h1,h2,h3,h4⟩:=N9 hS hb (by rw[cZ];exact ht.1);rw[CZ hl] at h2;rw[cZ] at h4 hk;subst h2;have dq:=SF (P:=P) (w:=w) ht h1 h3 h4 hk c;rw[Gg rm];unfold tW at hK;split at hK
  ·rename_i q;simp only[A.mk.injEq,Prod.mk.injEq] at q;obtain⟨rfl,hz⟩:=q;refine⟨_,hK,?_⟩;rw[hz] at dq;rw[show Instr.lookup t (den V (.mp k)) key false=Instr.lookup t (.map (some (V.β k))) key false from rfl,dq];rw[Gt];cases hx:mG l' key with
   |none=>rfl
   |some y=>
    obtain⟨bv,hbv⟩:=Te (Nv h4 hx) (TT hz);simp only[Option.map_some,Ey,hbv];rfl
  ·rename_i z q;simp only[A.mk.injEq,Prod.mk.injEq] at q;obtain⟨rfl,hz⟩:=q;rw[hz] at dq;cases hf:lG (np l') key with
   |none=>
    rw[hf] at dq;exact⟨_,hK.2 hf,dq⟩
   |some v=>
    rw[hf] at dq;exact⟨_,hK.1 v hf,dq⟩
  ·rename_i z q;simp only[A.mk.injEq,Prod.mk.injEq] at q;obtain⟨rfl,hz⟩:=q;rw[hz] at dq;cases hf:lG (np l') key with
   |none=>
    rw[hf] at dq;exact⟨_,hK.2 hf,dq⟩
   |some v=>
    rw[hf] at dq;exact⟨_,hK.1 v hf,dq⟩
  ·cases hK
 ·cases h
end
section
variable {C:Ctx} {n:Nat} {st:LS} {a:Act} {V:Vl} {D:Nat->Nat} {w:World} {P:Program} {p:bt} {K:SV->Prop} {c:Bool}
theorem LN:∀(l cs:List SV) (off:Nat),(kK cs off l).length=cs.length
 |[],_,_=>rfl
 |c::r,cs,off=>by simp only[kK];rw[LN r];simp
theorem GY {V:Vl}:∀(l:List SV) (cs:List SV) (off k:Nat),
  (List.zipIdx (l.map (bj V)) k).foldl (fun(cs:Array Value) (x:Value×Nat)=>cs.setIfInBounds (off+x.2) x.1) ⟨cs.map (bj V)⟩=⟨(kK cs (off+k) l).map (bj V)⟩
 |[],_,_,_=>rfl
 |c::r,cs,off,k=>by
  simp only[br,List.zipIdx_cons,List.foldl_cons,kK];have:(⟨cs.map (bj V)⟩:Array Value).setIfInBounds (off+k) (bj V c)=⟨(cs.set (off+k) c).map (bj V)⟩:=by
   apply Array.ext'
   simp
  rw[this,GY r (cs.set (off+k) c) off (k+1)];rfl
theorem LP {α β:Type} (f:α->Sem β) (g:α->β):∀(l:List α),(∀x∈l,∀w,(f x).run P w= .ok (g x) w)->∀w,(l.mapM f).run P w= .ok (l.map g) w
 |[],_,w=>by simp
 |x::r,h,w=>by
  simp only[List.mapM_cons,Sem.run_bind,h x (dz ..),Result.andThen_ok,LP f g r (fun y hy=>h y (cS _ hy)),Sem.run_pure,br]
theorem UR {α β:Type} (f:α->Sem β) (g:α->β) (l:Array α) (h:∀x∈l.toList,∀w,(f x).run P w= .ok (g x) w):(l.mapM f).run P w= .ok (l.map g) w:=by
 obtain⟨l⟩:=l;simp only[List.mapM_toArray,Sem.run_map,LP f g l h,Result.andThen_ok];simp
theorem FN {t:TypeId} {cs:List SV} (h:ft P t=some cs):∃z,(zeroValue t).run P w= .ok z w/\z.cells=⟨cs.map (bj V)⟩:=by
 unfold ft at h;simp only[Option.map_eq_some_iff,Option.bind_eq_some_iff] at h;obtain⟨z,⟨i,hi,hz⟩,rfl⟩:=h;refine⟨z,by simp [zeroValue,typeInfo,hi,hz],?_⟩;rw[yX]
theorem JW (hS:Sat C n st a V D w) (hp:fY st.rho p) (hc:bU st.rho p=true) {t:TypeId} {fs:Array Field} (hf:P.underlying t=some (.struct fs)):
  ∀(parts:List (Nat×Operand)) (cs du:List SV),u7 P t st p parts cs=some du->
   Instr.fill (fun i=>(fs.map fun f=>(f.offset,bC P f.type))[i]?) ⟨cs.map (bj V)⟩ (parts.map fun x=>(x.1,a.eval x.2))=some ⟨du.map (bj V)⟩
 |[],cs,du,h=>by simp only[u7,dy] at h;subst h;rfl
 |(i,x)::r,cs,du,h=>by
  simp only[u7,Option.bind_eq_some_iff] at h;obtain⟨⟨off,ag,sz⟩,hfo,l,⟨s,hs,hl⟩,h⟩:=h;split at h
  ·rename_i j9;split at h
   ·rename_i ue;dsimp only at j9 ue h;obtain⟨fs',y,hs',hy,rfl,_,_,rfl⟩:=GZ hfo;rw[hf] at hs';cases hs';have qv:=dw hS hp hc hs;have bW:=CJ (V:=V) hl;have Bb:(a.eval x).cells.size=l.length:=by rw[qv,bW];simp
    have jQ:(fs.map fun f=>(f.offset,bC P f.type))[i]? =some (y.offset,bC P y.type):=by
     simp [Array.getElem?_map,hy]
    simp only[br,Instr.fill,jQ]
    rw[ae (by
     simp only[Bb,List.size_toArray,List.length_map,Bool.or_eq_true,gz,not_or,Decidable.not_not]
     exact⟨by simpa using j9,by omega⟩)]
    have HZ:((a.eval x).cells.zipIdx.foldl (fun(cs:Array Value) (x:Value×Nat)=>cs.setIfInBounds (y.offset+x.2) x.1) ⟨cs.map (bj V)⟩)=⟨(kK cs y.offset l).map (bj V)⟩:=by
     rw[qv,bW,<- Array.foldl_toList];have:=GY (V:=V) l cs y.offset 0;simp only[Nat.add_zero] at this;rw[<- this];simp [Array.toList_zipIdx]
    have ih:=JW hS hp hc hf r _ du h;rw[<- ih,<- HZ]
   ·cases h
  ·cases h
theorem To {fs:Array Field} (h:(fs.toList.all fun x=>(P.info? x.type).isSome)=true):
  (fs.mapM (m:=Sem) fun(f:Field)=>do pure (f.offset,<- sizeOf f.type)).run P w= .ok (fs.map fun f=>(f.offset,bC P f.type)) w:=by
 refine UR _ _ fs (fun x hx w=> ?_);have:=List.all_eq_true.1 h x hx;obtain⟨i,hi⟩:=Option.isSome_iff_exists.1 this;simp [sizeOf,typeInfo,hi,bC]
theorem R0 (hS:Sat C n st a V D w) (hp:fY st.rho p) (hc:bU st.rho p=true) {t:TypeId} {parts:Array (Nat×Operand)} {z cs:List SV}
  (hb:nd P t=true) (hz:ft P t=some z) (h:u7 P t st p parts.toList z=some cs):
  (Instr.build t (parts.map fun x=>(x.1,a.eval x.2))).run P w= .ok (.agg ⟨cs.map (bj V)⟩) w:=by
 unfold nd at hb;split at hb
 ·rename_i fs hf;obtain⟨zv,hzv,hzc⟩:=FN (V:=V) (w:=w) hz;have zb:=JW hS hp hc hf parts.toList z cs h;simp only[Instr.build,Sem.run_bind,hzv,Result.andThen_ok,run_underlying hf,To hb,hzc];have:(parts.map fun x=>(x.1,a.eval x.2)).toList=parts.toList.map fun x=>(x.1,a.eval x.2):=by simp
  rw[this,zb];simp
 ·cases hb
theorem M7 (hS:Sat C n st a V D w) (hp:fY st.rho p) (hc:bU st.rho p=true) {x:Option Operand} {s:Option SV} (h:xd st p x=some s):x.map a.eval=s.map (den V):=by
 cases x with
 |none=>simp only[xd,dy] at h;subst h;rfl
 |some x=>
  simp only[xd,Option.map_eq_some_iff] at h;obtain⟨s,hs,rfl⟩:=h;simp only[Option.map_some,dw hS hp hc hs]
theorem Gm {s r:SV} (h:mY s=some r):den V r=mE V s:=by
 cases s<;>simp only[mY,dy] at h<;>first |(subst h;rfl) |cases h
theorem Su {x:SV} {i:Nat} (h:tY (.mk (k:=K) (x,i))):∃r,K r/\(Instr.extract (den V x) i).run P w= .ok (den V r) w:=by
 unfold tY at h;split at h
 ·rename_i l i' q;simp only[A.mk.injEq,Prod.mk.injEq] at q;obtain⟨rfl,rfl⟩:=q;obtain⟨r,hr,hK⟩:=aG h;obtain⟨s,hs,hr⟩:=uM hr;refine⟨r,hK,?_⟩;have:(⟨l.map (mE V)⟩:Array Value)[i]? =some (den V r):=by
   rw[<- Array.getElem?_toList];simp only[List.getElem?_map,hs,Option.map_some,Gm hr]
  rw[XX];simp only[Instr.extract,this,Sem.run_pure]
 ·rename_i l i' q;simp only[A.mk.injEq,Prod.mk.injEq] at q;obtain⟨rfl,rfl⟩:=q;obtain⟨r,hr,hK⟩:=aG h;simp only[Option.map_eq_some_iff] at hr;obtain⟨v,hv,rfl⟩:=hr;refine⟨_,hK,?_⟩;have:(⟨l⟩:Array Value)[i]? =some v:=by rw[<- Array.getElem?_toList];exact hv
  simp only[eR,Instr.extract,this,Sem.run_pure]
 ·cases h
theorem Sq (hS:Sat C n st a V D w) {t ty:TypeId} {x:SV} (h:sD (.mk (k:=(P,t,K)) (st,x))):∃r,K r/\(Builtin.len_ #[t] ty #[den V x]).run P w= .ok (den V r) w:=by
 unfold sD at h;split at h
 ·rename_i ak s q;simp only[A.mk.injEq,Prod.mk.injEq] at q;obtain⟨rfl,rfl⟩:=q;refine⟨_,h.2,?_⟩;simp [Builtin.len_,run_underlying h.1,eR,goInt,yN]
 ·rename_i ak x m cp q;simp only[A.mk.injEq,Prod.mk.injEq] at q;obtain⟨rfl,rfl⟩:=q;obtain⟨e,he,hK⟩:=aG h;refine⟨_,hK,?_⟩;simp [Builtin.len_,run_underlying (nK he),eR,goInt]
 ·rename_i ak k v q;simp only[A.mk.injEq,Prod.mk.injEq] at q;obtain⟨rfl,rfl⟩:=q;obtain⟨e,he,h⟩:=aG h;obtain⟨b,hb,hK⟩:=aG h;obtain⟨hv,rfl,rfl⟩:=wT hS hb;obtain⟨hn,_,_⟩:=wO hv.1;refine⟨_,hK,?_⟩;show(Builtin.len_ #[t] ty #[(V.γ b.id b.ver).val]).run P w=_;unfold Hd.val;simp [Builtin.len_,run_underlying (nK he),eR,goInt,hn]
 ·cases h
theorem Sn {ts:Array TypeId} {ty:TypeId} {x y:SV} (h:vx (.mk (k:=K) (x,y))):∃r,K r/\(Builtin.min_ ts ty #[den V x,den V y]).run P w= .ok (den V r) w:=by
 unfold vx at h;split at h
 ·rename_i k i k' j q;simp only[A.mk.injEq,Prod.mk.injEq] at q;obtain⟨rfl,rfl⟩:=q;exact⟨_,h,by simp [Builtin.min_,Builtin.min2,eR]⟩
 ·cases h
theorem So {ts:Array TypeId} {ty:TypeId} {x y:SV} (h:vy (.mk (k:=K) (x,y))):∃r,K r/\(Builtin.max_ ts ty #[den V x,den V y]).run P w= .ok (den V r) w:=by
 unfold vy at h;split at h
 ·rename_i k i k' j q;simp only[A.mk.injEq,Prod.mk.injEq] at q;obtain⟨rfl,rfl⟩:=q;exact⟨_,h,by simp [Builtin.max_,Builtin.max2,eR]⟩
 ·cases h
theorem RL {ts:Array TypeId} {ty:TypeId} {x y z u:SV} (h:vk (.mk (k:=K) (x,y,z,u))):∃r,K r/\(Builtin.max_ ts ty #[den V x,den V y,den V z,den V u]).run P w= .ok (den V r) w:=by
 unfold vk at h;split at h
 ·rename_i k a k' b k2 c k3 d q;simp only[A.mk.injEq,Prod.mk.injEq] at q;obtain⟨rfl,rfl,rfl,rfl⟩:=q;exact⟨_,h,by simp [Builtin.max_,Builtin.max2,eR,mx]<;>rfl⟩
 ·cases h
theorem RI (hS:Sat C n st a V D w) (hp:fY st.rho p) {g:Gd} {x y:Operand} (hg:g∈st.rho) (h:tK (.mk (k:=(p,x,y,st,g,K)) (A3 x y))):
  ∃r,K r/\(bU st.rho p=true->a.tmps.getD g.slot undef= .bool g.b.val/\(if g.b.val=true then a.eval x else a.eval y)=den V r):=by
 obtain⟨kP,j8,Ba⟩:=hS.rho g hg;have jM:bU st.rho p=true->ns g.p p=true->a.tmps.getD g.slot undef= .bool g.b.val/\bU st.rho g.p=true:=fun hc hs=>by
  have:=Db hs hc;rw[this,aj rfl] at Ba;exact⟨by simp [Ba],this⟩
 have side:∀b,g.b.val=b->bU st.rho g.p=true->bU st.rho ((g.i,b)::g.p)=true:=fun b hb hc=>by
  simp only[bU,DK kP,hb,hc,Bool.and_true];cases b<;>simp
 have vL:∀b,fY st.rho ((g.i,b)::g.p):=fun b x hx=>by
  rcases List.mem_cons.1 hx with rfl |hx
  ·exact⟨g,kP⟩
  ·exact j8 x hx
 unfold tK at h;split at h
 ·rename_i i s q _;obtain⟨hs,h⟩:=h;obtain⟨r,hr,hK⟩:=aG h;refine⟨r,hK,fun hc=> ?_⟩;obtain⟨h1,h2⟩:=jM hc hs;exact⟨h1,by simp only[GB.val,if_true];exact dw hS (vL true) (side true rfl h2) hr⟩
 ·rename_i i s q _;obtain⟨hs,h⟩:=h;obtain⟨r,hr,hK⟩:=aG h;refine⟨r,hK,fun hc=> ?_⟩;obtain⟨h1,h2⟩:=jM hc hs;exact⟨h1,by simp only[GB.val,Bool.false_eq_true,if_false];exact dw hS (vL false) (side false rfl h2) hr⟩
 ·rename_i i s q b md heq;obtain⟨hs,h⟩:=h;obtain⟨sx,hx,h⟩:=aG h;obtain⟨sy,hy,h⟩:=aG h;have Ju:bU st.rho p=true->b=true->a.eval x=den V sx:=fun hc hb=>dw hS (vL true) (side true hb (jM hc hs).2) hx
  have Jt:bU st.rho p=true->b=false->a.eval y=den V sy:=fun hc hb=>dw hS (vL false) (side false hb (jM hc hs).2) hy
  unfold tL at h;split at h
  ·rename_i b' a1 q';simp only[A.mk.injEq,Prod.mk.injEq] at q';obtain⟨rfl,rfl,rfl⟩:=q';refine⟨_,h,fun hc=>⟨(jM hc hs).1,?_⟩⟩;cases b with
   |true=>simp only[GB.val,if_true,Ju hc rfl,eR,Bool.true_and]
   |false=>simp only[GB.val,Bool.false_eq_true,if_false,Jt hc rfl,eR,Bool.false_and]
  ·rename_i b' a1 q';simp only[A.mk.injEq,Prod.mk.injEq] at q';obtain⟨rfl,rfl,rfl⟩:=q';refine⟨_,h,fun hc=>⟨(jM hc hs).1,?_⟩⟩;cases b with
   |true=>simp only[GB.val,if_true,Ju hc rfl,eR,Bool.true_or]
   |false=>simp only[GB.val,Bool.false_eq_true,if_false,Jt hc rfl,eR,Bool.false_or]
  ·rename_i b' a1 a2 q';simp only[A.mk.injEq,Prod.mk.injEq] at q';obtain⟨rfl,rfl,rfl⟩:=q';refine⟨_,h,fun hc=>⟨(jM hc hs).1,?_⟩⟩;cases b with
   |true=>simp only[GB.val,if_true,Ju hc rfl,eR,cond_true]
   |false=>simp only[GB.val,Bool.false_eq_true,if_false,Jt hc rfl,eR,cond_false]
  ·cases h
theorem Ge (hS:Sat C n st a V D w) (hp:fY st.rho p) {o:Oper} {op:Op} (ho:o.op=op) (h:qOp (.mk (k:=(P,op,K)) (st,p))):
  ∃s,K s/\(bU st.rho p=true->(execOp a.eval o).run P w= .ok (.value (den V s)) w):=by
 unfold qOp at h;split at h
 ·rename_i x ak p' q;cases q;obtain⟨s,hs,hK⟩:=aG h;exact⟨s,hK,fun hc=>by simp only[execOp,ho,Sem.run_pure,dw hS hp hc hs]⟩
 ·rename_i x ak p' q;cases q;obtain⟨s,hs,hK⟩:=aG h;exact⟨s,hK,fun hc=>by simp only[execOp,ho,Sem.run_pure,dw hS hp hc hs]⟩
 ·rename_i t x y ak p' q;cases q;obtain⟨g,hg,h'⟩:=aG h;obtain⟨fT,hm⟩:=Vz hg;obtain⟨r,hK,hr⟩:=RI hS hp hm h';refine⟨r,hK,fun hc=> ?_⟩;obtain⟨h1,h2⟩:=hr hc;have he:a.eval (.tmp t)= .bool g.b.val:=by rw[<- fT];exact h1
  simp only[execOp,ho,he,asBool,Sem.run_bind,Sem.run_pure,Result.andThen_ok,h2]
 ·rename_i x ak p' q;cases q;obtain⟨s,hs,h⟩:=aG h;obtain⟨r,hK,e,hn⟩:=Sm (V:=V) h;refine⟨r,hK,fun hc=> ?_⟩;have qv:=dw hS hp hc hs;rw[e,<- qv];exact VS ho (by rw[qv];exact hn hc)
 ·rename_i QW t x t' ak p' q;cases q;obtain⟨sx,hx,h⟩:=aG h;obtain⟨r,hK,hr⟩:=RJ (V:=V) (w:=w) (o:=x) h;refine⟨r,hK,fun hc=> ?_⟩;have:=kg (hr hc);rw[<- dw hS hp hc hx] at this;simp only[execOp,ho];exact this
 ·rename_i QW t x y t' ak p' _ q;cases q;obtain⟨sx,hx,h⟩:=aG h;obtain⟨sy,hy,h⟩:=aG h;obtain⟨r,hK,hr⟩:=S5 (V:=V) (w:=w) (o:=x) (o' :=y) h;refine⟨r,hK,fun hc=> ?_⟩;have:=kg (hr hc);rw[<- dw hS hp hc hx,<- dw hS hp hc hy] at this;simp only[execOp,ho];exact this
 ·rename_i uop t x ak p' q;cases q;obtain⟨sx,hx,h⟩:=aG h;obtain⟨r,hK,hr⟩:=Tz (V:=V) (w:=w) (P:=P) h;refine⟨r,hK,fun hc=> ?_⟩;have:=kg (hr hc);rw[<- dw hS hp hc hx] at this;simp only[execOp,ho];exact this
 ·rename_i src dst x ak p' q;cases q;obtain⟨sx,hx,h⟩:=aG h;obtain⟨r,hK,hr⟩:=RM hS h;refine⟨r,hK,fun hc=> ?_⟩;have:=kg (hr hc);rw[<- dw hS hp hc hx] at this;simp only[execOp,ho];exact this
 ·rename_i s x f ak p' q;cases q;obtain⟨sx,hx,h⟩:=aG h;obtain⟨⟨off,ag,sz⟩,hf,h⟩:=aG h;obtain⟨r,hK,hr⟩:=Ss hS hf h;refine⟨r,hK,fun hc=> ?_⟩;have:=kg (hr hc);rw[<- dw hS hp hc hx] at this;simp only[execOp,ho];exact this
 ·rename_i s x f ak p' q;cases q;obtain⟨cs,fp,h⟩:=aG h;obtain⟨sx,hx,fp⟩:=uM fp;obtain⟨⟨off,ag,sz⟩,hf,h⟩:=aG h;obtain⟨r,hr,hK⟩:=aG h;refine⟨r,hK,fun hc=> ?_⟩;have:=kg (Ro (V:=V) (w:=w) hf fp hr);rw[<- dw hS hp hc hx] at this;simp only[execOp,ho];exact this
 ·rename_i t x i ak p' q;cases q;obtain⟨sx,hx,h⟩:=aG h;obtain⟨si,hi,h⟩:=aG h;obtain⟨e,he,h⟩:=aG h;obtain⟨r,hK,hr⟩:=Sr hS he h;refine⟨r,hK,fun hc=> ?_⟩;have:=kg (hr hc);rw[<- dw hS hp hc hx,<- dw hS hp hc hi] at this;simp only[execOp,ho];exact this
 ·rename_i t x i ak p' q;cases q;obtain⟨sx,hx,h⟩:=aG h;obtain⟨si,hi,h⟩:=aG h;obtain⟨r,hK,hr⟩:=TF (V:=V) (w:=w) h;refine⟨r,hK,fun hc=> ?_⟩;have:=kg (hr hc);rw[<- dw hS hp hc hx,<- dw hS hp hc hi] at this;simp only[execOp,ho];exact this
 ·rename_i t x lo hi ak p' q;cases q;obtain⟨sx,hx,h⟩:=aG h;obtain⟨sl,hl,h⟩:=aG h;obtain⟨sh,hh,h⟩:=aG h;obtain⟨r,hK,hr⟩:=TA (V:=V) (w:=w) h;refine⟨r,hK,fun hc=> ?_⟩;have:=kg (hr hc);rw[<- dw hS hp hc hx,<- M7 hS hp hc hl,<- M7 hS hp hc hh] at this;simp only[execOp,ho];exact this
 ·rename_i t x ak p' q;cases q;obtain⟨sx,hx,h⟩:=aG h;obtain⟨r,hK,hr⟩:=J4 hS h;refine⟨r,hK,fun hc=> ?_⟩;have:=kg (hr hc);rw[<- dw hS hp hc hx] at this;simp only[execOp,ho];exact this
 ·rename_i x i ak p' q;cases q;obtain⟨sx,hx,h⟩:=aG h;obtain⟨r,hK,hr⟩:=Su (V:=V) (P:=P) (w:=w) h;refine⟨r,hK,fun hc=> ?_⟩;have:=kg hr;rw[<- dw hS hp hc hx] at this;simp only[execOp,ho];exact this
 ·rename_i t parts ak p' q;cases q;obtain⟨hb,h⟩:=h;obtain⟨z,hz,h⟩:=aG h;obtain⟨cs,fp,hK⟩:=aG h;refine⟨_,hK,fun hc=> ?_⟩;simp only[execOp,ho];exact kg (R0 hS hp hc hb hz fp)
 ·rename_i x t ak p' q;cases q;obtain⟨sx,hx,h⟩:=aG h;obtain⟨r,hK,hr⟩:=Sq (ty:=o.type) hS h;refine⟨r,hK,fun hc=> ?_⟩;rw[<- dw hS hp hc hx] at hr;simp only[execOp,ho,resolve,Sem.run_bind,Sem.run_pure,Result.andThen_ok,invoke,builtin];simp only[List.map_toArray,br,List.map_nil,hr,Result.andThen_ok]
 ·rename_i x y ts ak p' q;cases q;obtain⟨sx,hx,h⟩:=aG h;obtain⟨sy,hy,h⟩:=aG h;obtain⟨r,hK,hr⟩:=Sn (V:=V) (P:=P) (w:=w) (ts:=ts) (ty:=o.type) h;refine⟨r,hK,fun hc=> ?_⟩;rw[<- dw hS hp hc hx,<- dw hS hp hc hy] at hr;simp only[execOp,ho,resolve,Sem.run_bind,Sem.run_pure,Result.andThen_ok,invoke,builtin];simp only[List.map_toArray,br,List.map_nil,hr,Result.andThen_ok]
 ·rename_i t x i cm ak p' q;cases q;obtain⟨sx,hx,h⟩:=aG h;obtain⟨si,hi,h⟩:=aG h;obtain⟨r,hK,hr⟩:=Sp hS h;refine⟨r,hK,fun hc=> ?_⟩;have:=kg hr;rw[<- dw hS hp hc hx,<- dw hS hp hc hi] at this;simp only[execOp,ho];exact this
 ·rename_i x y ts ak p' q;cases q;obtain⟨sx,hx,h⟩:=aG h;obtain⟨sy,hy,h⟩:=aG h;obtain⟨r,hK,hr⟩:=So (V:=V) (P:=P) (w:=w) (ts:=ts) (ty:=o.type) h;refine⟨r,hK,fun hc=> ?_⟩;rw[<- dw hS hp hc hx,<- dw hS hp hc hy] at hr;simp only[execOp,ho,resolve,Sem.run_bind,Sem.run_pure,Result.andThen_ok,invoke,builtin];simp only[List.map_toArray,br,List.map_nil,hr,Result.andThen_ok]
 ·rename_i x y z u ts ak p' q;cases q;obtain⟨sx,hx,h⟩:=aG h;obtain⟨sy,hy,h⟩:=aG h;obtain⟨sz,hz,h⟩:=aG h;obtain⟨su,hu,h⟩:=aG h;obtain⟨r,hK,hr⟩:=RL (V:=V) (P:=P) (w:=w) (ts:=ts) (ty:=o.type) h;refine⟨r,hK,fun hc=> ?_⟩;rw[<- dw hS hp hc hx,<- dw hS hp hc hy,<- dw hS hp hc hz,<- dw hS hp hc hu] at hr;simp only[execOp,ho,resolve,Sem.run_bind,Sem.run_pure,Result.andThen_ok,invoke,builtin];simp only[List.map_toArray,br,List.map_nil,hr,Result.andThen_ok]
 ·cases h
end
theorem JM {d d' :Nat} {o o' P8:Option Obj} (hd:d<=d') (h:r8 d o o') (h' :r8 d' o' P8):r8 d o P8:=by
 unfold r8 at h;split at h
 ·rename_i c t f;obtain⟨c',t',f',rfl,h1⟩:=h;obtain⟨c'',t'',f'',rfl,h2⟩:=h';exact⟨c'',t'',f'',rfl,fun j hj=>(h2 j (by omega)).trans (h1 j hj)⟩
 ·rename_i cP;subst h;unfold r8 at h' ⊢;split
  ·exact absurd rfl (cP _ _ _)
  ·split at h'
   ·exact absurd rfl (cP _ _ _)
   ·exact h'
theorem tc {d:Nat} {o o' :Option Obj} (h:o' =o):r8 d o o' :=by
 subst h;unfold r8;split
 ·exact⟨_,_,_,rfl,fun _ _=>rfl⟩
 ·rfl
theorem Mem.le_refl (m:Mem) (h:Wf m.w m.D):m.le m:=fun b=>⟨aq _,fun h0=>⟨by
 rcases Nat.lt_or_ge b m.w.heap.size with h1 |h1
 ·exact h1
 ·rw[h b h1] at h0;omega,tc rfl⟩⟩
theorem Mem.le_trans {m m' jo:Mem} (h:m.le m') (h' :m'.le jo):m.le jo:=fun b=>
 ⟨cR (h b).1 (h' b).1,fun h0=>⟨((h b).2 h0).1,JM (h b).1 ((h b).2 h0).2 ((h' b).2 (ej h0 (h b).1)).2⟩⟩
theorem Mem.le_same {w w' :World} {D D' :Nat->Nat} (hw:Wf w D) (h:∀b,b<w.heap.size->D b<=D' b/\(0<D b->w'.heap[b]? =w.heap[b]?)):Mem.le ⟨w,D⟩ ⟨w',D'⟩:=fun b=>by
 rcases Nat.lt_or_ge b w.heap.size with h1 |h1
 ·exact⟨(h b h1).1,fun h0=>⟨h1,tc ((h b h1).2 h0)⟩⟩
 ·have:=hw b h1;exact⟨by dsimp only;omega,fun h0=>by dsimp only at h0;omega⟩
theorem Frm.refl (F:Nat->Prop) (w:World) (D:Nat->Nat):Frm F w D w D:=⟨rfl,rfl,rfl,aq _,fun _ _ _=>⟨rfl,rfl⟩⟩
theorem Frm.trans {F S:Nat->Prop} {w w' qm:World} {D D' QZ:Nat->Nat} (h:Frm F w D w' D') (h' :Frm S w' D' qm QZ) (hs:∀b,S b->F b\/w.heap.size<=b):Frm F w D qm QZ:=
 ⟨h'.os.trans h.os,h'.tape.trans h.tape,h'.output.trans h.output,cR h.size h'.size,fun b hb hF=>by
  have h1:=h.same b hb hF;have h2:=h'.same b (ej hb h.size) (fun hS=>(hs b hS).elim hF (fun h3=>by omega))
  exact⟨h2.1.trans h1.1,h2.2.trans h1.2⟩⟩
/-! Values that name no block that is yet to come. -/
def Agree (nid:Nat) (vc:List Vc) (V V' :Vl):Prop:=∀k,k<nid->V'.β k=V.β k/\∀u,bS vc k u->V'.γ k u=V.γ k u
structure Step (nid:Nat) (vc:List Vc) (iH:Nat) (eJ:List Vc) (V V' :Vl):Prop where
 agr:Agree nid vc V V'
 up:nid<=iH
 ver:∀k u,k<nid->bS vc k u->bS eJ k u
theorem Agree.refl (nid:Nat) (vc:List Vc) (V:Vl):Agree nid vc V V:=fun _ _=>⟨rfl,fun _ _=>rfl⟩
section
variable {nid:Nat} {vc:List Vc} {V V' :Vl}
theorem yq (h:Agree nid vc V V') {s:SV} (hs:ll nid vc s):bj V' s=bj V s:=by
 cases s with
 |v x=>rfl
 |box k o=>show Value.pointer _=_;rw[(h k hs).1];rfl
 |vec k u=>show(V'.γ k u).val=_;rw[(h k hs.1).2 u hs.2];rfl
 |vp k u o=>show Value.pointer ((V'.γ k u).a.map _)=_;rw[(h k hs.1).2 u hs.2];rfl
 |mp k=>show Value.map _=_;rw[(h k hs).1];rfl
 |mv f k o=>show Value.func _ _ _=_;rw[(h k hs).1];rfl
 |agg cs=>rfl
 |tup l=>rfl
theorem yp (h:Agree nid vc V V'):∀{l:List SV},fy nid vc l->l.map (bj V')=l.map (bj V)
 |[],_=>rfl
 |s::r,hs=>by simp only[br];rw[yq h hs.1,yp h hs.2]
theorem wu (h:Agree nid vc V V') {s:SV} (hs:okB nid vc s):mE V' s=mE V s:=by
 cases s with
 |agg cs=>simp only[mE];rw[yp h hs]
 |v x=>rfl
 |box k o=>exact yq (s:= .box k o) h hs
 |vec k u=>exact yq (s:= .vec k u) h hs
 |vp k u o=>exact yq (s:= .vp k u o) h hs
 |mp k=>exact yq (s:= .mp k) h hs
 |mv f k o=>exact yq (s:= .mv f k o) h hs
 |tup l=>rfl
theorem KH (h:Agree nid vc V V'):∀{l:List SV},xC nid vc l->l.map (mE V')=l.map (mE V)
 |[],_=>rfl
 |s::r,hs=>by simp only[br];rw[wu h hs.1,KH h hs.2]
theorem C7 (h:Agree nid vc V V') {s:SV} (hs:jg nid vc s):den V' s=den V s:=by
 cases s with
 |tup l=>simp only[den];rw[KH h hs]
 |v x=>rfl
 |box k o=>exact wu (s:= .box k o) h hs
 |vec k u=>exact wu (s:= .vec k u) h hs
 |vp k u o=>exact wu (s:= .vp k u o) h hs
 |mp k=>exact wu (s:= .mp k) h hs
 |mv f k o=>exact wu (s:= .mv f k o) h hs
 |agg cs=>exact wu (s:= .agg cs) h hs
theorem Np:∀{env:List Ev} {t:Nat} {p:bt} {s:SV},fS env t p=some s->∃e∈env,e.s=s
 |⟨t',p',s'⟩::r,t,p,s,h=>by
  simp only[fS] at h;split at h
  ·split at h
   ·cases h;exact⟨_,dz ..,rfl⟩
   ·cases h
  ·obtain⟨e,he,hs⟩:=Np h;exact⟨e,cS _ he,hs⟩
theorem SatF.agree {n:Nat} {env:List Ev} {rho:List Gd} {a:Act} (hf:SatF n env rho a V) (rn:∀e∈env,jg nid vc e.s) (h:Agree nid vc V V'):SatF n env rho a V' :=
 ⟨hf.defers,hf.size,hf.pth,fun t p s hp hl hc=>by
  obtain⟨e,he,rfl⟩:=Np hl
  rw[hf.env t p _ hp hl hc,C7 h (rn e he)],hf.rho⟩
end
section
variable {V V' :Vl} {D D' :Nat->Nat} {w w' :World} {H:Hp}
theorem Hg {e:TypeId} {sz m:Nat} {xs:List Value} {h:Hd} (ho:w.ownsRow 0 e sz h.val m xs) {g:Nat} (hg:h.blk=some g):h.val.ownBlock=some g/\g<w.heap.size:=by
 have:h.val.ownBlock=some g:=by
  unfold Hd.val Value.ownBlock;unfold Hd.blk at hg;cases ha:h.a with
  |none=>rw[ha] at hg;cases hg
  |some ad=>rw[ha] at hg;exact hg
 exact⟨this,(ho.lt g this).2⟩
theorem uX (h:HSat V D w H):∀b∈a7 V H,b<w.heap.size:=by
 intro b hb;simp only[a7,List.mem_append,List.mem_map,List.mem_filterMap] at hb;rcases hb with ⟨x,hx,rfl⟩ |⟨x,hx,hb⟩
 ·obtain⟨o,ho,_⟩:=(h.bx x hx).1;exact(Array.getElem?_eq_some_iff.1 ho).1
 ·exact(Hg (h.vc x hx).1 hb).2
theorem Ma {e:TypeId} {sz m:Nat} {xs:List Value} {h:Hd} (ho:w.ownsRow 0 e sz h.val m xs) (hw:∀g,h.blk=some g->w'.heap[g]? =w.heap[g]?):w'.ownsRow 0 e sz h.val m xs:=by
 refine⟨ho.1,?_⟩;rcases ho.2 with hn |⟨g,cap,cur,hv,hb,hh,rest⟩
 ·exact .inl hn
 ·refine .inr ⟨g,cap,cur,hv,hb,?_,rest⟩
  rw[hw g (by
   simp only[Hd.val,Value.slice.injEq] at hv
   simp [Hd.blk,hv.1])]
  exact hh
theorem CE {α β:Type} {f g:α->Option β}:∀{l:List α},(∀x∈l,f x=g x)->l.filterMap f=l.filterMap g
 |[],_=>rfl
 |x::r,h=>by
  rw[List.filterMap_cons,List.filterMap_cons,h x (dz ..),CE fun y hy=>h y (cS _ hy)]
theorem AK (hb:∀b∈H.bx,V'.β b.id=V.β b.id) (hv:∀b∈H.vc,V'.γ b.id b.ver=V.γ b.id b.ver):a7 V' H=a7 V H:=by
 unfold a7;congr 1
 ·exact List.map_congr_left hb
 ·exact CE fun x hx=>by rw[hv x hx]
theorem HSat.frame (h:HSat V D w H) (hb:∀b∈H.bx,V'.β b.id=V.β b.id/\b.cs.map (bj V')=b.cs.map (bj V)) (hv:∀b∈H.vc,V'.γ b.id b.ver=V.γ b.id b.ver)
  (hw:∀g∈a7 V H,w'.heap[g]? =w.heap[g]? /\D' g=D g):HSat V' D' w' H:=by
 refine⟨fun b hm=> ?_,fun b hm=> ?_,by rw[AK (fun b hm=>(hb b hm).1) hv];exact h.apart,h.uniq⟩
 ·have fJ:V.β b.id∈a7 V H:=by
   simp only[a7,List.mem_append,List.mem_map];exact .inl ⟨b,hm,rfl⟩
  obtain⟨h1,h2⟩:=h.bx b hm;unfold CD;rw[(hb b hm).1,(hb b hm).2,(hw _ fJ).1,(hw _ fJ).2];exact⟨h1,h2⟩
 ·have fJ:∀g,(V.γ b.id b.ver).blk=some g->g∈a7 V H:=fun g hg=>by
   simp only[a7,List.mem_append,List.mem_filterMap];exact .inr ⟨b,hm,hg⟩
  obtain⟨h1,h2,h3,h4⟩:=h.vc b hm;unfold yc;rw[hv b hm];exact⟨Ma h1 fun g hg=>(hw g (fJ g hg)).1,fun g hg=>by rw[(hw g (fJ g hg)).2];exact h2 g hg,h3,h4⟩
end
theorem Hq {P:Program} {t:TypeId} (h:0<bC P t):∃i,P.info? t=some i/\i.size=bC P t/\i.bytes=nE P t:=by
 unfold bC at h ⊢;unfold nE;cases hi:P.info? t with
 |none=>rw[hi] at h;simp at h
 |some i=>exact⟨i,rfl,rfl,rfl⟩
theorem MU {P:Program} {t:TypeId} {z:List SV} {i:TypeInfo} (hi:P.info? t=some i) (h:ft P t=some z):∃zv,i.zero=some zv/\zv.cells.size=z.length:=by
 unfold ft at h;simp only[Option.map_eq_some_iff,Option.bind_eq_some_iff] at h;obtain⟨zv,⟨i',ls,hz⟩,rfl⟩:=h;rw[hi] at ls;cases ls;exact⟨zv,hz,by simp⟩
section
variable {P:Program} {w:World}
theorem Q0 (t tx ty e:TypeId) (i:TypeInfo) (ht:P.underlying t=some (.slice e)) (hi:P.info? e=some i) (g w9 Ib:Nat) (cur:Array Value) (hg:w.heap[g]? =some (.cells cur e (0,0)))
  (x:Value) (m:Nat) (news:List Value) (hs:Src P i.size tx x m news w) (ph:w9+m<=Ib) (ue:w9 * i.size+news.length<=cur.size):
  (Builtin.append_ #[t,tx] ty #[.slice (some ⟨g,0,none⟩) w9 Ib,x]).run P w=
   .ok (.slice (some ⟨g,0,none⟩) (w9+m) Ib) (w.setRow g (cur.toList.take (w9 * i.size)++news++cur.toList.drop (w9 * i.size+news.length)).toArray):=by
 have gv:=run_storeCells_at P g (w9 * i.size) e news 0 cur w hg (by simpa using ue) hs.one;simp only[Nat.add_zero] at gv;rcases hs.kind with ⟨e',hk⟩ |hk<;>simp [Builtin.append_,run_underlying ht,run_underlying hk,sizeOf,typeInfo,hi,hs.len,ph,hs.cells,Addr.add_lit,gv]
theorem JV {xg eB wq:Nat} (h:eB<xg) (hb:xg * wq<=140737488355328):Builtin.nextslicecap xg eB * wq<=281474976710656:=by
 have h1:=nextslicecap_le h;have h2:Builtin.nextslicecap xg eB * wq<=2 * xg * wq:=Nat.mul_le_mul_right _ h1;have h3:2 * xg * wq=2 * (xg * wq):=Nat.mul_assoc ..;omega
theorem Kp {t tx ty e:TypeId} {i:TypeInfo} {zv:Value} {h:Hd} {n m:Nat} {xs news:List Value} {x:Value}
  (ht:P.underlying t=some (.slice e)) (hi:P.info? e=some i) (hz:i.zero=some zv) (xE:zv.cells.size=i.size)
  (dU:w.ownsRow 0 e i.size h.val n xs) (hs:Src P i.size tx x m news w) (hr:room (n+m) i.bytes):
  ∃(h' :Hd) (w' :World),(Builtin.append_ #[t,tx] ty #[h.val,x]).run P w= .ok h'.val w' /\w'.ownsRow 0 e i.size h'.val (n+m) (xs++news)/\
   (w' =w/\h' =h\/(∃g cur nr,h'.blk=some g/\h.blk=some g/\w.heap[g]? =some (.cells cur e (0,0))/\w' =w.setRow g nr/\(∀j,j<n * i.size->nr[j]? =cur[j]?))\/
    (∃c,h'.blk=some w.heap.size/\w' =w.drew.alloc (.cells c e))):=by
 obtain⟨hb,h63⟩:=hr;have hlen:(xs++news).length=(n+m) * i.size:=by rw[bM,dU.1,hs.newsLen,Nat.add_mul]
 have jr:((n+m:Nat):Int)<=9223372036854775807:=by simp only[maxLen] at h63;omega
 have grow:∀(eB:Nat),eB<n+m->(w.drew.alloc (.cells ((xs++news).toArray++Builtin.zeroCells zv.cells (grownCap w (n+m) eB e - (n+m))) e)).ownsRow 0 e i.size
    (Hd.val ⟨some ⟨w.heap.size,0,none⟩,n+m,grownCap w (n+m) eB e⟩) (n+m) (xs++news):=by
  intro eB ho;have cQ:=grownCap_ge w (n+m) eB e;have Jh:grownCap w (n+m) eB e<=maxLen:=grownCap_le_maxLen w (n+m) eB e h63;refine⟨hlen,.inr ⟨w.heap.size,_,_,rfl,au _,heap_alloc_new w.drew _,cQ,Jh,?_,?_⟩⟩
  ·simp only[Array.size_append,List.size_toArray,size_zeroCells,xE,hlen,<- Nat.add_mul];congr 1
   omega
  ·simp only[Array.toList_append];rw[<- hlen];exact List.take_left
 obtain⟨ha,hn,hc⟩:∃(a:Option Addr) (n' c:Nat),h=⟨a,n',c⟩:=⟨h.a,h.n,h.c,rfl⟩;obtain⟨c,rfl⟩:=hc;rcases dU.2 with ⟨hv,Cf⟩ |⟨g,cap,cur,hv,_,hg,I3,Jh,fp,htake⟩
 ·simp only[Hd.val,Value.slice.injEq] at hv;obtain⟨rfl,rfl,rfl⟩:=hv;subst Cf;have hx:xs=[]:=List.eq_nil_of_length_eq_zero (by simpa using dU.1);subst hx;by_cases hm:m=0
  ·subst hm;have hn:news=[]:=List.eq_nil_of_length_eq_zero (by simpa using hs.newsLen);subst hn;refine⟨⟨none,0,0⟩,w,?_,by simpa using dU,.inl ⟨rfl,rfl⟩⟩;rcases hs.kind with ⟨e',hk⟩ |hk<;>simp [Hd.val,Builtin.append_,run_underlying ht,run_underlying hk,sizeOf,typeInfo,hi,hs.len,hs.cells]
  ·have hr:=run_append_grow_src w t tx ty e i zv ht hi hz none 0 0 [] (by simp [Builtin.firstCells]) x m news hs (by omega) jr (JV (by omega) hb);exact⟨⟨some ⟨w.heap.size,0,none⟩,0+m,grownCap w (0+m) 0 e⟩,_,hr,by have:=grow 0 (by omega);simpa using this,.inr (.inr ⟨_,rfl,rfl⟩)⟩
 ·simp only[Hd.val,Value.slice.injEq] at hv;obtain⟨rfl,rfl,rfl⟩:=hv;by_cases ph:hn+m<=c
  ·have ue:hn * i.size+news.length<=cur.size:=by rw[hs.newsLen,fp,<- Nat.add_mul];exact Nat.mul_le_mul_right _ ph
   have hr:=Q0 t tx ty e i ht hi g hn c cur hg x m news hs ph ue;refine⟨⟨some ⟨g,0,none⟩,hn+m,c⟩,_,hr,⟨hlen,.inr ⟨g,c,_,rfl,au _,setRow_heap w g cur _ e _ hg,ph,Jh,?_,?_⟩⟩,.inr (.inl ⟨g,cur,_,rfl,rfl,hg,rfl,fun j hj=> ?_⟩)⟩
   ·simp only[List.size_toArray,bM,List.length_take,cH,Array.length_toList];omega
   ·rw[htake,<- hlen];exact List.take_left
   ·have IS:=dU.1;simp only[List.getElem?_toArray];rw[List.append_assoc,List.getElem?_append_left (by rw[htake];omega),List.getElem?_take,aj hj,Array.getElem?_toList]
  ·have holds:∀j u,xs[j]? =some u->w.cell? ((⟨g,0,none⟩:Addr).add j)=some u:=dU.cells (g:=g) rfl;have hf:(Builtin.firstCells i.size hn (.slice (some ⟨g,0,none⟩) hn c)).run P w.drew= .ok xs.toArray w.drew:=run_firstCells_some w.drew i.size hn ⟨g,0,none⟩ hn c xs dU.1 (by simpa using holds);have hr:=run_append_grow_src w t tx ty e i zv ht hi hz (some ⟨g,0,none⟩) hn c xs hf x m news hs (by omega) jr (JV (by omega) hb);exact⟨⟨some ⟨w.heap.size,0,none⟩,hn+m,grownCap w (hn+m) c e⟩,_,hr,grow c (by omega),.inr (.inr ⟨_,rfl,rfl⟩)⟩
end
section
variable {V V' :Vl} {D D' :Nat->Nat} {w w' :World} {bx:List Bx} {vc:List Vc} {nid:Nat}
theorem HSat.consBx {b:Bx} (h:HSat V D w ⟨bx,vc⟩) (hb:CD V D w b) (hn:V.β b.id ∉ a7 V ⟨bx,vc⟩):HSat V D w ⟨b::bx,vc⟩:=
 ⟨fun x hx=>(List.mem_cons.1 hx).elim (fun e=>e▸hb) (h.bx x),h.vc,List.nodup_cons.2 ⟨hn,h.apart⟩,h.uniq⟩
theorem GD {b:Vc}:(a7 V ⟨bx,b::vc⟩).Perm ((V.γ b.id b.ver).blk.toList++a7 V ⟨bx,vc⟩):=by
 unfold a7;simp only[List.filterMap_cons];cases (V.γ b.id b.ver).blk with
 |none=>exact List.Perm.refl _
 |some g=>exact List.perm_middle
theorem HSat.consVc {b:Vc} (h:HSat V D w ⟨bx,vc⟩) (hb:yc V D w b) (hu:b.id ∉ vc.map (·.id)) (hn:∀g,(V.γ b.id b.ver).blk=some g->g ∉ a7 V ⟨bx,vc⟩):HSat V D w ⟨bx,b::vc⟩:=
 ⟨h.bx,fun x hx=>(List.mem_cons.1 hx).elim (fun e=>e▸hb) (h.vc x),by
  rw[GD.nodup_iff];cases hg:(V.γ b.id b.ver).blk with
  |none=>exact h.apart
  |some g=>exact List.nodup_cons.2 ⟨hn g hg,h.apart⟩,List.nodup_cons.2 ⟨hu,h.uniq⟩⟩
theorem Fu {b:Vc} {x:Nat}:x∈a7 V ⟨bx,b::vc⟩↔(V.γ b.id b.ver).blk=some x\/x∈a7 V ⟨bx,vc⟩:=by
 rw[GD.mem_iff,List.mem_append];cases (V.γ b.id b.ver).blk<;>simp [eq_comm]
/-! What was all right stays all right. -/
theorem yD {iH:Nat} {eJ:List Vc} (hn:nid<=iH) (hv:∀k u,k<nid->bS vc k u->bS eJ k u) {s:SV} (h:ll nid vc s):ll iH eJ s:=by
 cases s with
 |v x=>trivial
 |box k o=>exact ej h hn
 |vec k u=>exact⟨ej h.1 hn,hv k u h.1 h.2⟩
 |vp k u o=>exact⟨ej h.1 hn,hv k u h.1 h.2⟩
 |mp k=>exact ej h hn
 |mv f k o=>exact ej h hn
 |agg cs=>trivial
 |tup l=>trivial
theorem wz {iH:Nat} {eJ:List Vc} (hn:nid<=iH) (hv:∀k u,k<nid->bS vc k u->bS eJ k u):∀{l:List SV},fy nid vc l->fy iH eJ l
 |[],_=>trivial
 |_::_,h=>⟨yD hn hv h.1,wz hn hv h.2⟩
theorem wA {iH:Nat} {eJ:List Vc} (hn:nid<=iH) (hv:∀k u,k<nid->bS vc k u->bS eJ k u) {s:SV} (h:okB nid vc s):okB iH eJ s:=by
 cases s with
 |agg cs=>exact wz hn hv h
 |v x=>trivial
 |box k o=>exact yD (s:= .box k o) hn hv h
 |vec k u=>exact yD (s:= .vec k u) hn hv h
 |vp k u o=>exact yD (s:= .vp k u o) hn hv h
 |mp k=>exact yD (s:= .mp k) hn hv h
 |mv f k o=>exact yD (s:= .mv f k o) hn hv h
 |tup l=>trivial
theorem Me {iH:Nat} {eJ:List Vc} (hn:nid<=iH) (hv:∀k u,k<nid->bS vc k u->bS eJ k u):∀{l:List SV},xC nid vc l->xC iH eJ l
 |[],_=>trivial
 |_::_,h=>⟨wA hn hv h.1,Me hn hv h.2⟩
theorem Mg {iH:Nat} {eJ:List Vc} (hn:nid<=iH) (hv:∀k u,k<nid->bS vc k u->bS eJ k u) {s:SV} (h:jg nid vc s):jg iH eJ s:=by
 cases s with
 |tup l=>exact Me hn hv h
 |v x=>trivial
 |box k o=>exact wA (s:= .box k o) hn hv h
 |vec k u=>exact wA (s:= .vec k u) hn hv h
 |vp k u o=>exact wA (s:= .vp k u o) hn hv h
 |mp k=>exact wA (s:= .mp k) hn hv h
 |mv f k o=>exact wA (s:= .mv f k o) hn hv h
 |agg cs=>exact wA (s:= .agg cs) hn hv h
theorem tf {b:Vc} (hb:b.id=nid):∀k u,k<nid->bS vc k u->bS (b::vc) k u:=by
 intro k u hk h;obtain⟨k',u',e',z',n',x'⟩:=b;dsimp only at hb;subst hb;simp only[bS];rw[ae (by omega)];exact h
theorem Kg {k u:Nat} {b x:Vc} (hb:cN vc k u=some b) (hx:x.id=k) (hu:u<=x.ver):∀k' u',bS vc k' u' ->bS (po vc k x) k' u' :=by
 intro k' u' h;induction vc with
 |nil=>cases hb
 |cons y r ih=>
  obtain⟨i',v',e',z',n',x'⟩:=y;obtain⟨kx,ux,ex,zx,nx,xx⟩:=x;dsimp only at hx hu;subst hx;simp only[cN] at hb;simp only[po];simp only[bS] at h;by_cases he:i' =kx
  ·rw[aj he] at hb ⊢;split at hb
   ·rename_i hv;subst he;simp only[bS];split
    ·rename_i e;rw[aj e] at h;omega
    ·rename_i e;rw[ae e] at h;exact h
   ·cases hb
  ·rw[ae he] at hb ⊢;simp only[bS];split
   ·rename_i e;rw[aj e] at h;exact h
   ·rename_i e;rw[ae e] at h;exact ih hb h
theorem uN {vc:List Vc}:∀{b:Vc},(vc.map (·.id)).Nodup->b∈vc->bS vc b.id b.ver:=by
 induction vc with
 |nil=>intro b _ h;cases h
 |cons y r ih=>
  intro b hu h;obtain⟨i',v',e',z',n',x'⟩:=y;simp only[br,List.nodup_cons] at hu;simp only[bS];rcases List.mem_cons.1 h with rfl |h
  ·rw[aj rfl];exact aq _
  ·have:¬i' =b.id:=fun e=>hu.1 (by rw[e];exact List.mem_map.2 ⟨b,h,rfl⟩)
   rw[ae this];exact ih hu.2 h
theorem Dd {vc:List Vc} {k v u:Nat} (h:bS vc k v) (hu:u<=v):bS vc k u:=by
 induction vc with
 |nil=>trivial
 |cons y r ih=>
  obtain⟨i',v',e',z',n',x'⟩:=y;simp only[bS] at h ⊢;split
  ·rename_i e;rw[aj e] at h;omega
  ·rename_i e;rw[ae e] at h;exact ih h
theorem Kn (V:Vl) (g:Nat):Agree nid vc V {V with β:=fun k=>if k=nid then g else V.β k}:=fun k hk=>⟨ae (by omega),fun _ _=>rfl⟩
theorem Km (V:Vl) (h:Hd):Agree nid vc V {V with γ:=fun k u=>if k=nid then h else V.γ k u}:=fun k hk=>⟨rfl,fun _ _=>ae (by omega)⟩
end
section
variable {C:Ctx} {bx:List Bx} {vc:List Vc} {nid:Nat} {m:Mem} {V:Vl} {D:Nat->Nat} {w:World}
theorem ye (w:World) (o:Obj) (k:Nat) (h:k<w.heap.size):(w.alloc o).heap[k]? =w.heap[k]? :=Go.RowKit.Below.heap_alloc w o k h
theorem SatW.keepH (h:SatW C bx vc nid m V D w) {V' :Vl} {w' :World} (ha:Agree nid vc V V') (hw:∀b,b<w.heap.size->w'.heap[b]? =w.heap[b]?):HSat V' D w' ⟨bx,vc⟩:=
 h.heap.frame (fun b hb=>⟨(ha b.id (h.ids.1 b hb).1).1,yp ha (h.ids.1 b hb).2⟩)
  (fun b hb=>(ha b.id (h.ids.2 b hb)).2 b.ver (uN h.heap.uniq hb))
  fun g hg=>⟨hw g (uX h.heap g hg),rfl⟩
theorem Frm.quiet {w' :World} {D' :Nat->Nat} (h1:w'.os=w.os) (h2:w'.tape=w.tape) (h3:w'.output=w.output) (h4:w.heap.size<=w'.heap.size) (hw:∀b,b<w.heap.size->w'.heap[b]? =w.heap[b]? /\D' b=D b) (F:Nat->Prop):Frm F w D w' D' :=
 ⟨h1,h2,h3,h4,fun b hb _=>hw b hb⟩
theorem FM {t:TypeId} {vs:List Value} (h:t<om):mu t vs (.cells ⟨vs⟩ t (0,0)):=by
 unfold mu;rw[aj h]
theorem MP {t:TypeId} {vs:List Value} {o:Obj} (h:t<om) (ho:mu t vs o):o= .cells ⟨vs⟩ t (0,0):=by
 unfold mu at ho;rwa [aj h] at ho
theorem SatW.addBx (h:SatW C bx vc nid m V D w) {t:TypeId} {cs:List SV} {o:Obj} (ho:mu t (cs.map (bj V)) o) (ax:fy nid vc cs):
  ∃V',Agree nid vc V V' /\V'.β nid=w.heap.size/\SatW C (⟨nid,t,cs⟩::bx) vc (nid+1) m V' D (w.alloc o):=by
 refine⟨{V with β:=fun k=>if k=nid then w.heap.size else V.β k},Kn V _,aj rfl,?_⟩;have ha:=Kn (nid:=nid) (vc:=vc) V w.heap.size;have hw:∀b,b<w.heap.size->(w.alloc o).heap[b]? =w.heap[b]? :=fun b hb=>ye w _ b hb
 have hold:=h.keepH ha hw;have ao:=uX hold;have gw:a7 {V with β:=fun k=>if k=nid then w.heap.size else V.β k} ⟨bx,vc⟩=a7 V ⟨bx,vc⟩:=
  AK (fun b hb=>(ha b.id (h.ids.1 b hb).1).1) (fun b hb=>(ha b.id (h.ids.2 b hb)).2 b.ver (uN h.heap.uniq hb))
 have Il:=uX h.heap;have hD:D w.heap.size=0:=h.wf _ (aq _);have pG:Frm (fun _=>False) w D (w.alloc o) D:=Frm.quiet (w:=w) (w' :=w.alloc o) rfl rfl rfl (by simp) (fun b hb=>⟨hw b hb,rfl⟩) _;have hle:Mem.le ⟨w,D⟩ ⟨w.alloc o,D⟩:=Mem.le_same h.wf (fun b hb=>⟨aq _,fun _=>hw b hb⟩);refine⟨hold.consBx ⟨?_,?_⟩ ?_,fun b hb=>h.wf b (by simp at hb;omega),h.frm.trans pG (fun _ h=>h.elim),?_,fun b hb=> ?_,fun b hb=> ?_,⟨fun b hb=> ?_,fun b hb=>Nat.lt_succ_of_lt (h.ids.2 b hb)⟩,Mem.le_trans h.le0 hle,h.m0,Mem.le_trans h.mle hle⟩
 ·refine⟨o,?_,?_⟩
  ·show(w.alloc _).heap[(if nid=nid then w.heap.size else V.β nid)]? =_;rw[aj rfl];exact heap_alloc_new w _
  ·show mu t (cs.map (bj _)) o;rw[yp ha ax];exact ho
 ·show D (if nid=nid then w.heap.size else V.β nid)=0;rw[aj rfl];exact hD
 ·show(if nid=nid then w.heap.size else V.β nid) ∉ _;rw[aj rfl,gw];exact fun fJ=>Nat.lt_irrefl _ (Il _ fJ)
 ·intro b hb;rcases List.mem_cons.1 hb with rfl |hb
  ·show C.F (if nid=nid then w.heap.size else V.β nid)\/C.w0.heap.size<=(if nid=nid then w.heap.size else V.β nid);rw[aj rfl];exact .inr h.frm.size
  ·refine h.own b ?_;rw[<- gw];exact hb
 ·obtain⟨h1,h2⟩:=h.baseB b hb;exact⟨((ha b.id h2).1).trans h1,Nat.lt_succ_of_lt h2⟩
 ·obtain⟨h1,h2,h3⟩:=h.baseV b hb;exact⟨fun u hu=>h1 u hu,Nat.lt_succ_of_lt h2,h3⟩
 ·rcases List.mem_cons.1 hb with rfl |hb
  ·exact⟨Nat.lt_succ_self _,wz (Nat.le_succ _) (fun _ _ _ h=>h) ax⟩
  ·exact⟨Nat.lt_succ_of_lt (h.ids.1 b hb).1,wz (Nat.le_succ _) (fun _ _ _ h=>h) (h.ids.1 b hb).2⟩
theorem SatW.addVc (h:SatW C bx vc nid m V D w) {w' :World} {hd:Hd} {e:TypeId} {sz n:Nat} {xs:List Value}
  (h1:w'.os=w.os) (h2:w'.tape=w.tape) (h3:w'.output=w.output) (h4:w.heap.size<=w'.heap.size) (hw:∀b,b<w.heap.size->w'.heap[b]? =w.heap[b]?)
  (dU:w'.ownsRow 0 e sz hd.val n xs) (sK:∀g,hd.blk=some g->w.heap.size<=g) (j9:0<sz) (qh:∀u∈xs,u.oneCell' =true):
  ∃V',Agree nid vc V V' /\V'.γ nid 0=hd/\SatW C bx (⟨nid,0,e,sz,n,xs⟩::vc) (nid+1) m V' D w' :=by
 refine⟨{V with γ:=fun k u=>if k=nid then hd else V.γ k u},Km V _,aj rfl,?_⟩;have ha:=Km (nid:=nid) (vc:=vc) V hd;have hold:=h.keepH (w' :=w') ha hw;have gw:a7 {V with γ:=fun k u=>if k=nid then hd else V.γ k u} ⟨bx,vc⟩=a7 V ⟨bx,vc⟩:=
  AK (fun b hb=>(ha b.id (h.ids.1 b hb).1).1) (fun b hb=>(ha b.id (h.ids.2 b hb)).2 b.ver (uN h.heap.uniq hb))
 have ao:=uX h.heap;have pG:Frm (fun _=>False) w D w' D:=Frm.quiet h1 h2 h3 h4 (fun b hb=>⟨hw b hb,rfl⟩) _;have hle:Mem.le ⟨w,D⟩ ⟨w',D⟩:=Mem.le_same h.wf (fun b hb=>⟨aq _,fun _=>hw b hb⟩);have tO:∀k u,k<nid->bS vc k u->bS (⟨nid,0,e,sz,n,xs⟩::vc) k u:=tf rfl;refine⟨hold.consVc ⟨?_,?_,j9,qh⟩ ?_ ?_,fun b hb=>h.wf b (cR h4 hb),h.frm.trans pG (fun _ h=>h.elim),?_,fun b hb=> ?_,fun b hb=> ?_,⟨fun b hb=> ?_,fun b hb=> ?_⟩,Mem.le_trans h.le0 hle,h.m0,Mem.le_trans h.mle hle⟩
 ·show w'.ownsRow 0 e sz (if nid=nid then hd else V.γ nid 0).val n xs;rw[aj rfl];exact dU
 ·intro g hg;have iv:hd.blk=some g:=by
   have:(if nid=nid then hd else V.γ nid 0).blk=some g:=hg;rwa [aj rfl] at this
  rw[h.wf g (sK g iv)];exact au _
 ·intro fJ;obtain⟨b,hb,wb⟩:=List.mem_map.1 fJ;have:=h.ids.2 b hb;dsimp only at wb;omega
 ·intro g hg fJ;have iv:hd.blk=some g:=by
   have:(if nid=nid then hd else V.γ nid 0).blk=some g:=hg;rwa [aj rfl] at this
  rw[gw] at fJ;have:=ao g fJ;have:=sK g iv;omega
 ·intro b hb;rcases Fu.1 hb with hb |hb
  ·have oJ:hd.blk=some b:=by
    have:(if nid=nid then hd else V.γ nid 0).blk=some b:=hb;rwa [aj rfl] at this
   exact .inr (cR h.frm.size (sK b oJ))
  ·rw[gw] at hb;exact h.own b hb
 ·exact⟨(h.baseB b hb).1,Nat.lt_succ_of_lt (h.baseB b hb).2⟩
 ·obtain⟨e1,e2,e3⟩:=h.baseV b hb;exact⟨fun u hu=>((ha b.id e2).2 u (Dd e3 hu)).trans (e1 u hu),Nat.lt_succ_of_lt e2,tO _ _ e2 e3⟩
 ·exact⟨Nat.lt_succ_of_lt (h.ids.1 b hb).1,wz (Nat.le_succ _) tO (h.ids.1 b hb).2⟩
 ·rcases List.mem_cons.1 hb with rfl |hb
  ·exact Nat.lt_succ_self _
  ·exact Nat.lt_succ_of_lt (h.ids.2 b hb)
end
theorem Kl {k:Nat} {b:Bx} {cs:List SV}:∀{bx:List Bx},ie bx k=some b->∃l1 l2,bx=l1++b::l2/\km bx k cs=l1++⟨b.id,b.ty,cs⟩::l2
 |[],h=>by cases h
 |⟨k',t',c'⟩::r,h=>by
  simp only[ie] at h;simp only[km];split at h
  ·rename_i e;cases h;rw[aj e];exact⟨[],r,rfl,rfl⟩
  ·rename_i e;rw[ae e];obtain⟨l1,l2,h1,h2⟩:=Kl (cs:=cs) h;exact⟨⟨k',t',c'⟩::l1,l2,by rw[h1];rfl,by rw[h2];rfl⟩
theorem Kk {k u:Nat} {b x:Vc}:∀{vc:List Vc},cN vc k u=some b->∃l1 l2,vc=l1++b::l2/\po vc k x=l1++x::l2
 |[],h=>by cases h
 |⟨k',u',e',z',n',x'⟩::r,h=>by
  simp only[cN] at h;simp only[po];split at h
  ·rename_i e;split at h
   ·cases h;rw[aj e];exact⟨[],r,rfl,rfl⟩
   ·cases h
  ·rename_i e;rw[ae e];obtain⟨l1,l2,h1,h2⟩:=Kk (x:=x) h;exact⟨⟨k',u',e',z',n',x'⟩::l1,l2,by rw[h1];rfl,by rw[h2];rfl⟩
theorem GG {k u v:Nat} {b:Vc}:∀{vc:List Vc},cN vc k u=some b->bS vc k v->v<=u
 |[],h,_=>by cases h
 |⟨k',u',e',z',n',x'⟩::r,h,hv=>by
  simp only[cN] at h;simp only[bS] at hv;split at h
  ·rename_i e;split at h
   ·rename_i e';rw[aj e] at hv;omega
   ·cases h
  ·rename_i e;rw[ae e] at hv;exact GG h hv
section
variable {V V' :Vl} {D D' :Nat->Nat} {w w' :World} {bx:List Bx} {vc:List Vc} {nid:Nat} {m:Mem} {C:Ctx}
theorem MQ {l1 l2:List Bx} {b:Bx}:(a7 V ⟨l1++b::l2,vc⟩).Perm (V.β b.id::a7 V ⟨l1++l2,vc⟩):=by
 unfold a7;simp only[List.map_append,br,List.append_assoc,jD];exact List.perm_middle
theorem SatW.setOb (h:SatW C bx vc nid m V D w) {k:Nat} {b:Bx} {cs:List SV} (hb:ie bx k=some b) (ax:fy nid vc cs) {w' :World} {o:Obj} (ho:mu b.ty (cs.map (bj V)) o)
  (e1:w'.os=w.os) (e2:w'.tape=w.tape) (e3:w'.output=w.output) (e4:w'.heap.size=w.heap.size) (e5:w'.heap[V.β k]? =some o) (e6:∀g,g≠V.β k->w'.heap[g]? =w.heap[g]?):
  SatW C (km bx k cs) vc nid m V D w' :=by
 obtain⟨rfl,hm⟩:=tE hb;obtain⟨l1,l2,hl,hu⟩:=Kl (cs:=cs) hb;have qx:=h.heap.apart;rw[hl] at qx;have iq:=(MQ.nodup_iff).1 qx;obtain⟨zt,_⟩:=List.nodup_cons.1 iq;have Ow:∀g,g∈a7 V ⟨l1++l2,vc⟩->w'.heap[g]? =w.heap[g]? :=fun g hg=>
  e6 g (fun e=>zt (e▸hg))
 have hD:D (V.β b.id)=0:=(h.heap.bx b hm).2;have dU:=h.own (V.β b.id) (by rw[hl];exact MQ.mem_iff.2 (dz ..));have pG:Frm (fun x=>x=V.β b.id) w D w' D:=
  ⟨e1,e2,e3,by rw[e4];exact aq _,fun x _ hx=>⟨e6 x hx,rfl⟩⟩
 have hle:Mem.le ⟨w,D⟩ ⟨w',D⟩:=Mem.le_same h.wf (fun x _=>⟨aq _,fun h0=>e6 x (fun e=>by subst e;omega)⟩);have gw:a7 V ⟨km bx b.id cs,vc⟩=a7 V ⟨bx,vc⟩:=by
  unfold a7;rw[hu,hl];simp
 rw[hu];rw[hu] at gw;refine⟨⟨fun x hx=> ?_,fun x hx=> ?_,by rw[gw];exact h.heap.apart,h.heap.uniq⟩,fun x hx=>h.wf x (by rw[e4] at hx;exact hx),h.frm.trans pG (fun x hx=>by subst hx;exact dU),?_,h.baseB,h.baseV,⟨fun x hx=> ?_,h.ids.2⟩,Mem.le_trans h.le0 hle,h.m0,Mem.le_trans h.mle hle⟩
 ·have cB:x∈l1++l2\/x=⟨b.id,b.ty,cs⟩:=by
   simp only[List.mem_append,List.mem_cons] at hx ⊢;rcases hx with hx |hx |hx
   ·exact .inl (.inl hx)
   ·exact .inr hx
   ·exact .inl (.inr hx)
  rcases cB with cB |rfl
  ·have fJ:x∈bx:=by
    rw[hl];simp only[List.mem_append,List.mem_cons] at cB ⊢;rcases cB with h1 |h1
    ·exact .inl h1
    ·exact .inr (.inr h1)
   have hg:V.β x.id∈a7 V ⟨l1++l2,vc⟩:=by
    simp only[a7,List.mem_append,List.mem_map] at cB ⊢;exact .inl ⟨x,cB,rfl⟩
   obtain⟨h1,h2⟩:=h.heap.bx x fJ;exact⟨by rw[Ow _ hg];exact h1,h2⟩
  ·exact⟨⟨o,e5,ho⟩,hD⟩
 ·obtain⟨h1,h2,h3,h4⟩:=h.heap.vc x hx
  exact⟨Ma h1 (fun g hg=>Ow g (by
   simp only[a7,List.mem_append,List.mem_filterMap]
   exact .inr ⟨x,hx,hg⟩)),h2,h3,h4⟩
 ·intro x hx;rw[gw] at hx;exact h.own x hx
 ·have cB:x∈bx\/x=⟨b.id,b.ty,cs⟩:=by
   rw[hl];simp only[List.mem_append,List.mem_cons] at hx ⊢;rcases hx with hx |hx |hx
   ·exact .inl (.inl hx)
   ·exact .inr hx
   ·exact .inl (.inr (.inr hx))
  rcases cB with cB |rfl
  ·exact h.ids.1 x cB
  ·exact⟨(h.ids.1 b hm).1,ax⟩
theorem SatW.setBx (h:SatW C bx vc nid m V D w) {k:Nat} {b:Bx} {cs:List SV} (hb:ie bx k=some b) (cZ:b.ty<om) (ax:fy nid vc cs):
  SatW C (km bx k cs) vc nid m V D (w.setRow (V.β k) ⟨cs.map (bj V)⟩):=by
 obtain⟨hk,hm⟩:=tE hb;obtain⟨o,vB,ho⟩:=(h.heap.bx b hm).1;have ho' :=MP cZ ho;subst ho';rw[hk] at vB;exact h.setOb hb ax (FM cZ) rfl rfl rfl (size_setRow _ _ _) (setRow_heap w _ _ _ _ _ vB) (fun g hg=>setRow_other w _ g _ hg)
theorem HSat.permVc {eJ:List Vc} (h:HSat V D w ⟨bx,vc⟩) (hp:vc.Perm eJ):HSat V D w ⟨bx,eJ⟩:=
 ⟨h.bx,fun b hb=>h.vc b (hp.mem_iff.2 hb),by
  have:(a7 V ⟨bx,vc⟩).Perm (a7 V ⟨bx,eJ⟩):=List.Perm.append_left _ (hp.filterMap _)
  exact(this.nodup_iff).1 h.apart,((hp.map _).nodup_iff).1 h.uniq⟩
theorem HSat.tailVc {b:Vc} (h:HSat V D w ⟨bx,b::vc⟩):HSat V D w ⟨bx,vc⟩/\b.id ∉ vc.map (·.id)/\∀g,(V.γ b.id b.ver).blk=some g->g ∉ a7 V ⟨bx,vc⟩:=by
 have iq:=(GD.nodup_iff).1 h.apart;have hu:=List.nodup_cons.1 h.uniq;refine⟨⟨h.bx,fun x hx=>h.vc x (cS _ hx),(List.nodup_append.1 iq).2.1,hu.2⟩,hu.1,fun g hg fJ=> ?_⟩;rw[hg] at iq;exact(List.nodup_cons.1 iq).1 fJ
theorem SatW.updVc (h:SatW C bx vc nid m V D w) {k u n:Nat} {b:Vc} {hd:Hd} {xs:List Value} (hb:cN vc k u=some b) (Jj:b.n * b.sz<=n * b.sz)
  (h1:w'.os=w.os) (h2:w'.tape=w.tape) (h3:w'.output=w.output) (h4:w.heap.size<=w'.heap.size)
  (hw:∀g,g<w.heap.size->(V.γ k u).blk≠some g->w'.heap[g]? =w.heap[g]?) (hkp:∀g,(V.γ k u).blk=some g->r8 (b.n * b.sz) w.heap[g]? w'.heap[g]?)
  (dU:w'.ownsRow 0 b.el b.sz hd.val n xs) (Iq:∀g,hd.blk=some g->(V.γ k u).blk=some g\/w.heap.size<=g) (qh:∀y∈xs,y.oneCell' =true):
  ∃V',Agree nid vc V V' /\V'.γ k (u+1)=hd/\SatW C bx (po vc k (nc b n xs)) nid m V' D w' :=by
 obtain⟨wb,hbv,hm⟩:=AH hb;subst wb;subst hbv;refine⟨{V with γ:=fun i v=>if i=b.id/\v=b.ver+1 then hd else V.γ i v},?_,aj ⟨rfl,rfl⟩,?_⟩
 ·intro i hi;refine⟨rfl,fun v hv=>ae ?_⟩;rintro⟨rfl,rfl⟩;have:=GG hb hv;omega
 have ha:Agree nid vc V {V with γ:=fun i v=>if i=b.id/\v=b.ver+1 then hd else V.γ i v}:=by
  intro i hi;refine⟨rfl,fun v hv=>ae ?_⟩;rintro⟨rfl,rfl⟩;have:=GG hb hv;omega
 obtain⟨l1,l2,hl,hu⟩:=Kk (x:=nc b n xs) hb;have hp:vc.Perm (b::(l1++l2)):=by rw[hl];exact List.perm_middle
 have I1:(po vc b.id (nc b n xs)).Perm (nc b n xs::(l1++l2)):=by rw[hu];exact List.perm_middle
 have tO:∀i v,bS vc i v->bS (po vc b.id (nc b n xs)) i v:=Kg hb (by cases b;rfl) (by cases b;exact Nat.le_succ _);obtain⟨ht,hid,hblkb⟩:=(h.heap.permVc hp).tailVc;have xR:=h.heap.vc b hm;have ao:=uX h.heap;have PA:=uX ht;have za:∀g,g∈a7 V ⟨bx,l1++l2⟩->w'.heap[g]? =w.heap[g]? :=fun g hg=>hw g (PA g hg) (fun e=>hblkb g e hg)
 have Bv:∀x∈l1++l2,x∈vc:=fun x hx=>hp.mem_iff.2 (cS _ hx)
 have IW:HSat {V with γ:=fun i v=>if i=b.id/\v=b.ver+1 then hd else V.γ i v} D w' ⟨bx,l1++l2⟩:=
  ht.frame (fun x hx=>⟨rfl,yp ha (h.ids.1 x hx).2⟩) (fun x hx=>(ha x.id (h.ids.2 x (Bv x hx))).2 x.ver (uN h.heap.uniq (Bv x hx))) (fun g hg=>⟨za g hg,rfl⟩)
 have gw:a7 {V with γ:=fun i v=>if i=b.id/\v=b.ver+1 then hd else V.γ i v} ⟨bx,l1++l2⟩=a7 V ⟨bx,l1++l2⟩:=
  AK (fun x hx=>rfl) (fun x hx=>(ha x.id (h.ids.2 x (Bv x hx))).2 x.ver (uN h.heap.uniq (Bv x hx)))
 have sK:(({V with γ:=fun i v=>if i=b.id/\v=b.ver+1 then hd else V.γ i v}:Vl).γ (nc b n xs).id (nc b n xs).ver)=hd:=by
  cases b;exact aj ⟨rfl,rfl⟩
 have hD:∀g,hd.blk=some g->D g<=n * b.sz:=fun g hg=>by
  rcases Iq g hg with e |e
  ·exact cR (xR.2.1 g e) Jj
  ·rw[h.wf g e];exact au _
 have NA:∀g,(V.γ b.id b.ver).blk=some g->C.F g\/C.w0.heap.size<=g:=fun g hg=>h.own g (by
  simp only[a7,List.mem_append,List.mem_filterMap]
  exact .inr ⟨b,hm,hg⟩)
 have pG:Frm (fun x=>(V.γ b.id b.ver).blk=some x) w D w' D:=⟨h1,h2,h3,h4,fun x hx hn=>⟨hw x hx hn,rfl⟩⟩
 have hle:Mem.le ⟨w,D⟩ ⟨w',D⟩:=fun x=>⟨aq _,fun h0=>by
  have IS:x<w.heap.size:=by
   rcases Nat.lt_or_ge x w.heap.size with h5 |h5
   ·exact h5
   ·have:=h.wf x h5;dsimp only at h0;omega
  refine⟨IS,?_⟩;by_cases hx:(V.γ b.id b.ver).blk=some x
  ·exact JM (xR.2.1 x hx) (tc (d:=D x) rfl) (hkp x hx)
  ·exact tc (hw x IS hx)⟩
 have aal:HSat {V with γ:=fun i v=>if i=b.id/\v=b.ver+1 then hd else V.γ i v} D w' ⟨bx,nc b n xs::(l1++l2)⟩:=by
  refine IW.consVc ?_ (by cases b;exact hid) ?_
  ·unfold yc;rw[sK];cases b;exact⟨dU,hD,xR.2.2.1,qh⟩
  ·rw[sK];intro g hg fJ;rw[gw] at fJ;rcases Iq g hg with e |e
   ·exact hblkb g e fJ
   ·have:=PA g fJ;omega
 refine⟨aal.permVc I1.symm,fun x hx=>h.wf x (cR h4 hx),h.frm.trans pG NA,fun x hx=> ?_,fun x hx=>h.baseB x hx,fun x hx=> ?_,⟨fun x hx=>⟨(h.ids.1 x hx).1,wz (aq _) (fun i v _=>tO i v) (h.ids.1 x hx).2⟩,fun x hx=> ?_⟩,Mem.le_trans h.le0 hle,h.m0,Mem.le_trans h.mle hle⟩
 ·have cB:x∈a7 {V with γ:=fun i v=>if i=b.id/\v=b.ver+1 then hd else V.γ i v} ⟨bx,nc b n xs::(l1++l2)⟩:=by
   have:(a7 {V with γ:=fun i v=>if i=b.id/\v=b.ver+1 then hd else V.γ i v} ⟨bx,po vc b.id (nc b n xs)⟩).Perm _:=List.Perm.append_left _ (I1.filterMap _);exact this.mem_iff.1 hx
  rcases Fu.1 cB with e |e
  ·rw[sK] at e;rcases Iq x e with e' |e'
   ·exact NA x e'
   ·exact .inr (cR h.frm.size e')
  ·rw[gw] at e;refine h.own x ?_;have:(a7 V ⟨bx,vc⟩).Perm _:=List.Perm.append_left _ (hp.filterMap _);exact this.mem_iff.2 (Fu.2 (.inr e))
 ·obtain⟨e1,e2,e3⟩:=h.baseV x hx;exact⟨fun v hv=>((ha x.id e2).2 v (Dd e3 hv)).trans (e1 v hv),e2,tO _ _ e3⟩
 ·have:=I1.mem_iff.1 hx;rcases List.mem_cons.1 this with rfl |hx
  ·have:=h.ids.2 b hm;cases b;exact this
  ·exact h.ids.2 x (Bv x hx)
end
theorem Ah (L:List Nat):∀bx:List Bx,gd L bx=bx.filter fun b=>L.contains b.id
 |[]=>rfl
 |⟨k,t,cs⟩::r=>by
  simp only[gd,List.filter_cons,Ah L r]
theorem C0 (L:List Nat):∀vc:List Vc,fL L vc=vc.filter fun b=>L.contains b.id
 |[]=>rfl
 |⟨k,u,e,z,n,xs⟩::r=>by
  simp only[fL,List.filter_cons,C0 L r]
theorem C6 (L:List Nat):∀bx:List Bx,mT L bx=bx.filter fun b=> !L.contains b.id
 |[]=>rfl
 |⟨k,t,cs⟩::r=>by
  simp only[mT,List.filter_cons,C6 L r];cases L.contains k<;>simp
theorem Am (L:List Nat):∀vc:List Vc,mh L vc=vc.filter fun b=> !L.contains b.id
 |[]=>rfl
 |⟨k,u,e,z,n,xs⟩::r=>by
  simp only[mh,List.filter_cons,Am L r];cases L.contains k<;>simp
theorem yi {α:Type} (p:α->Bool):∀l:List α,(l.filter p++l.filter fun x=> !p x).Perm l
 |[]=>List.Perm.refl _
 |x::r=>by
  simp only[List.filter_cons];cases h:p x with
  |true=>simpa using(yi p r).cons x
  |false=>simpa using List.perm_middle.trans ((yi p r).cons x)
theorem ZN {α:Type} (a b c d:List α):((a++b)++(c++d)).Perm ((a++c)++(b++d)):=by
 simp only[List.append_assoc];refine List.Perm.append_left _ ?_;rw[<- List.append_assoc,<- List.append_assoc];exact List.Perm.append_right _ List.perm_append_comm
section
variable {V:Vl} {D:Nat->Nat} {w:World}
theorem HSat.permBx {bx qB:List Bx} {vc:List Vc} (h:HSat V D w ⟨bx,vc⟩) (hp:bx.Perm qB):HSat V D w ⟨qB,vc⟩:=
 ⟨fun b hb=>h.bx b (hp.mem_iff.2 hb),h.vc,by
  have:(a7 V ⟨bx,vc⟩).Perm (a7 V ⟨qB,vc⟩):=List.Perm.append_right _ (hp.map _)
  exact(this.nodup_iff).1 h.apart,h.uniq⟩
theorem Du (a b:List Bx) (c d:List Vc):(a7 V ⟨a++b,c++d⟩).Perm (a7 V ⟨a,c⟩++a7 V ⟨b,d⟩):=by
 unfold a7;simp only[List.map_append,List.filterMap_append];exact ZN _ _ _ _
theorem HSat.app {a b:List Bx} {c d:List Vc} (h:HSat V D w ⟨a++b,c++d⟩):HSat V D w ⟨a,c⟩/\HSat V D w ⟨b,d⟩/\∀g,g∈a7 V ⟨a,c⟩->g ∉ a7 V ⟨b,d⟩:=by
 have hn:=((Du a b c d).nodup_iff).1 h.apart;obtain⟨h1,h2,h3⟩:=List.nodup_append.1 hn;have hu:=h.uniq;simp only[List.map_append] at hu;obtain⟨u1,u2,_⟩:=List.nodup_append.1 hu
 exact⟨⟨fun x hx=>h.bx x (List.mem_append_left _ hx),fun x hx=>h.vc x (List.mem_append_left _ hx),h1,u1⟩,
  ⟨fun x hx=>h.bx x (List.mem_append_right _ hx),fun x hx=>h.vc x (List.mem_append_right _ hx),h2,u2⟩,fun g hg iv=>h3 g hg g iv rfl⟩
theorem HSat.join {a b:List Bx} {c d:List Vc} (h:HSat V D w ⟨a,c⟩) (h' :HSat V D w ⟨b,d⟩) (hd:∀g,g∈a7 V ⟨a,c⟩->g ∉ a7 V ⟨b,d⟩) (hu:∀x∈c,∀y∈d,x.id≠y.id):HSat V D w ⟨a++b,c++d⟩:=
 ⟨fun x hx=>(List.mem_append.1 hx).elim (h.bx x) (h'.bx x),fun x hx=>(List.mem_append.1 hx).elim (h.vc x) (h'.vc x),((Du a b c d).nodup_iff).2 (List.nodup_append.2 ⟨h.apart,h'.apart,fun g hg g' iv e=>hd g hg (e▸iv)⟩),by
  simp only[List.map_append];refine List.nodup_append.2 ⟨h.uniq,h'.uniq,fun i hi j hj e=> ?_⟩;obtain⟨x,hx,rfl⟩:=List.mem_map.1 hi;obtain⟨y,hy,rfl⟩:=List.mem_map.1 hj
  exact hu x hx y hy e⟩
theorem CO (L:List Nat) {bx:List Bx} {vc:List Vc} (h:HSat V D w ⟨bx,vc⟩):HSat V D w ⟨gd L bx++mT L bx,fL L vc++mh L vc⟩:=by
 rw[Ah,C6,C0,Am];exact(h.permBx (yi _ bx).symm).permVc (yi _ vc).symm
theorem F5 (L:List Nat) (bx:List Bx) (vc:List Vc):(a7 V ⟨bx,vc⟩).Perm (a7 V ⟨gd L bx,fL L vc⟩++a7 V ⟨mT L bx,mh L vc⟩):=by
 refine List.Perm.trans ?_ (Du _ _ _ _);rw[Ah,C6,C0,Am];unfold a7;exact List.Perm.append ((yi _ bx).symm.map _) ((yi _ vc).symm.filterMap _)
/-! Numbers in a call. -/
theorem KA:∀{L:List Nat} {i j:Nat},idxOf L i=some j->L[j]? =some i
 |x::r,i,j,h=>by
  simp only[idxOf] at h;split at h
  ·rename_i e;cases h;simp [e]
  ·simp only[Option.map_eq_some_iff] at h;obtain⟨j',hj,rfl⟩:=h;simpa using KA hj
theorem Lk:∀{L:List Nat} {i:Nat},i∈L->∃j,idxOf L i=some j
 |x::r,i,h=>by
  simp only[idxOf];split
  ·exact⟨0,rfl⟩
  ·rename_i e;rcases List.mem_cons.1 h with h |h
   ·exact absurd h.symm e
   ·obtain⟨j,hj⟩:=Lk h;exact⟨j+1,by rw[hj];rfl⟩
theorem yH {L:List Nat} {i:Nat} (h:L.contains i=true):L[jf L 0 i]? =some i/\jf L 0 i<L.length:=by
 obtain⟨j,hj⟩:=Lk (by simpa using h);have:jf L 0 i=j:=by unfold jf;rw[hj];rfl
 rw[this];have:=KA hj;exact⟨this,(List.getElem?_eq_some_iff.1 this).1⟩
def kO (L:List Nat) (V:Vl):Vl:=⟨fun j=>V.β (L.getD j 0),fun j u=>V.γ (L.getD j 0) u⟩
theorem y9 {L:List Nat} {i:Nat} (h:L.contains i=true):(kO L V).β (jf L 0 i)=V.β i:=by
 show V.β (L.getD (jf L 0 i) 0)=_;rw[List.getD_eq_getElem?_getD,(yH h).1];rfl
theorem A9 {L:List Nat} {i:Nat} (h:L.contains i=true) (u:Nat):(kO L V).γ (jf L 0 i) u=V.γ i u:=by
 show V.γ (L.getD (jf L 0 i) 0) u=_;rw[List.getD_eq_getElem?_getD,(yH h).1];rfl
theorem yF {L:List Nat} {s:SV} (h:rN L s):bj (kO L V) (mA (jf L 0) s)=bj V s:=by
 cases s with
 |v x=>rfl
 |box k o=>show Value.pointer _=Value.pointer _;rw[y9 h]
 |vec k u=>show Hd.val _=Hd.val _;rw[A9 h]
 |vp k u o=>show Value.pointer _=Value.pointer _;rw[A9 h]
 |mp k=>show Value.map _=Value.map _;rw[y9 h]
 |mv f k o=>show Value.func _ _ _=Value.func _ _ _;rw[y9 h]
 |agg cs=>rfl
 |tup l=>cases h
theorem G6 {L:List Nat}:∀{l:List SV},xD L l->(l.map (mA (jf L 0))).map (bj (kO L V))=l.map (bj V)
 |[],_=>rfl
 |s::r,h=>by simp only[br];rw[yF h.1,G6 h.2]
theorem XY {L:List Nat} {s:SV} (h:E6 L s):den (kO L V) (tS (jf L 0) s)=den V s:=by
 cases s with
 |agg cs=>show Value.agg _=Value.agg _;rw[G6 h]
 |v x=>rfl
 |box k o=>exact yF (s:= .box k o) h
 |vec k u=>exact yF (s:= .vec k u) h
 |vp k u o=>exact yF (s:= .vp k u o) h
 |mp k=>exact yF (s:= .mp k) h
 |mv f k o=>exact yF (s:= .mv f k o) h
 |tup l=>cases h
theorem MM {L:List Nat}:∀{l:List SV},Bt L l->(l.map (tS (jf L 0))).map (den (kO L V))=l.map (den V)
 |[],_=>rfl
 |s::r,h=>by simp only[br];rw[XY h.1,MM h.2]
theorem Lb {l:List Nat} {f g:Nat->Nat} (h:∀x∈l,g (f x)=x) (hl:l.Nodup):(l.map f).Nodup:=by
 have:(l.map f).map g=l:=by
  rw[List.map_map];exact(List.map_congr_left h).trans (List.map_id' l)
 rw[<- this] at hl;exact List.Pairwise.of_map g (fun a b h e=>h (by rw[e])) hl
theorem uQ {L:List Nat} {vc:List Vc} {b:Vc} (h:b∈fL L vc):b∈vc/\L.contains b.id=true:=by
 rw[C0,List.mem_filter] at h;exact h
theorem Gh {L:List Nat} {bx:List Bx} {b:Bx} (h:b∈gd L bx):b∈bx/\L.contains b.id=true:=by
 rw[Ah,List.mem_filter] at h;exact h
theorem T3 {L:List Nat} {bx:List Bx} {b:Bx} (h:b∈mT L bx):b∈bx/\L.contains b.id=false:=by
 rw[C6,List.mem_filter] at h;simpa using h
theorem ML {L:List Nat} {vc:List Vc} {b:Vc} (h:b∈mh L vc):b∈vc/\L.contains b.id=false:=by
 rw[Am,List.mem_filter] at h;simpa using h
theorem MB {L:List Nat}:∀{bx:List Bx},zn L bx->∀b∈bx,xD L b.cs
 |⟨_,_,cs⟩::r,h,b,hb=>by
  rcases List.mem_cons.1 hb with rfl |hb
  ·exact h.1
  ·exact MB h.2 b hb
theorem yA (ρ:Nat->Nat) (b:Bx):(o5 ρ b).id=ρ b.id/\(o5 ρ b).ty=b.ty/\(o5 ρ b).cs=b.cs.map (mA ρ):=by cases b;exact⟨rfl,rfl,rfl⟩
theorem mN (ρ:Nat->Nat) (b:Vc):(jL ρ b).id=ρ b.id/\(jL ρ b).ver=b.ver/\(jL ρ b).el=b.el/\(jL ρ b).sz=b.sz/\(jL ρ b).n=b.n/\(jL ρ b).xs=b.xs:=by
 cases b;exact⟨rfl,rfl,rfl,rfl,rfl,rfl⟩
theorem NO {L:List Nat} {st:LS}:a7 (kO L V) (gj st L)=a7 V ⟨gd L st.bx,fL L st.vc⟩:=by
 unfold a7 gj;congr 1
 ·rw[List.map_map];refine List.map_congr_left fun b hb=> ?_
  show(kO L V).β (o5 _ b).id=_;rw[(yA _ b).1,y9 (Gh hb).2]
 ·rw[List.filterMap_map];refine CE fun b hb=> ?_
  show((kO L V).γ (jL _ b).id (jL _ b).ver).blk=_;rw[(mN _ b).1,(mN _ b).2.1,A9 (uQ hb).2]
theorem HSat.into {L:List Nat} {st:LS} (h:HSat V D w ⟨gd L st.bx,fL L st.vc⟩) (fJ:zn L (gd L st.bx)):HSat (kO L V) D w (gj st L):=by
 refine⟨fun b hb=> ?_,fun b hb=> ?_,by rw[NO];exact h.apart,?_⟩
 ·obtain⟨x,hx,rfl⟩:=List.mem_map.1 hb;obtain⟨h1,h2⟩:=h.bx x hx;obtain⟨e1,e2,e3⟩:=yA (jf L 0) x;unfold CD;rw[e1,e2,e3,y9 (Gh hx).2,G6 (MB fJ x hx)];exact⟨h1,h2⟩
 ·obtain⟨x,hx,rfl⟩:=List.mem_map.1 hb;have h1:=h.vc x hx;obtain⟨e1,e2,e3,e4,e5,e6⟩:=mN (jf L 0) x;unfold yc;rw[e1,e2,e3,e4,e5,e6,A9 (uQ hx).2];exact h1
 ·show(((fL L st.vc).map (jL (jf L 0))).map (·.id)).Nodup;rw[List.map_map];have:((fL L st.vc).map ((·.id)∘jL (jf L 0)))=((fL L st.vc).map (·.id)).map (jf L 0):=by
   rw[List.map_map];exact List.map_congr_left fun b _=>(mN _ b).1
  rw[this];refine Lb (g:=fun j=>L.getD j 0) (fun i hi=> ?_) h.uniq;obtain⟨b,hb,rfl⟩:=List.mem_map.1 hi;rw[List.getD_eq_getElem?_getD,(yH (uQ hb).2).1];rfl
end
theorem Lg {vc:List Vc}:∀{b:Vc},(vc.map (·.id)).Nodup->b∈vc->mC vc b.id=some b:=by
 induction vc with
 |nil=>intro b _ h;cases h
 |cons y r ih=>
  intro b hu h;obtain⟨i',v',e',z',n',x'⟩:=y;simp only[br,List.nodup_cons] at hu;simp only[mC];rcases List.mem_cons.1 h with rfl |h
  ·rw[aj rfl]
  ·have:¬i' =b.id:=fun e=>hu.1 (by rw[e];exact List.mem_map.2 ⟨b,h,rfl⟩)
   rw[ae this];exact ih hu.2 h
theorem Kh {vc:List Vc} {k u:Nat} {b:Vc} (h:mC vc k=some b) (hv:bS vc k u):u<=b.ver:=by
 induction vc with
 |nil=>cases h
 |cons y r ih=>
  obtain⟨i',v',e',z',n',x'⟩:=y;simp only[mC] at h;simp only[bS] at hv;split at h
  ·rename_i e;cases h;rw[aj e] at hv;exact hv
  ·rename_i e;rw[ae e] at hv;exact ih h hv
theorem Lc:∀{L:List Nat},BW L->L.Nodup
 |[],_=>List.nodup_nil
 |k::r,h=>List.nodup_cons.2 ⟨by have:=h.1;simpa using this,Lc h.2⟩
theorem AG {n:Nat}:∀{L:List Nat},uy n L->∀k∈L,k<n
 |_::_,h,k,hk=>(List.mem_cons.1 hk).elim (fun e=>e▸h.1) (AG h.2 k)
theorem Ll:∀{L:List Nat} {i j:Nat},L.Nodup->L[j]? =some i->idxOf L i=some j
 |x::r,i,0,_,h=>by simp at h;subst h;simp [idxOf]
 |x::r,i,j+1,hn,h=>by
  simp only[List.getElem?_cons_succ] at h;obtain⟨h1,h2⟩:=List.nodup_cons.1 hn;simp only[idxOf];rw[ae (fun e=>h1 (by rw[e];exact List.mem_of_getElem? h)),Ll h2 h];rfl
theorem Lm:∀{bx:List Bx} {j:Nat},(na bx).contains j=true->∃b∈bx,b.id=j
 |⟨k,t,cs⟩::r,j,h=>by
  simp only[na,List.contains_cons,Bool.or_eq_true,beq_iff_eq] at h;rcases h with h |h
  ·exact⟨_,dz ..,h.symm⟩
  ·obtain⟨b,hb,e⟩:=Lm h;exact⟨b,cS _ hb,e⟩
theorem Gs:∀{vc:List Vc} {j:Nat},(lF vc).contains j=true->∃b∈vc,b.id=j
 |⟨k,u,e,z,n,xs⟩::r,j,h=>by
  simp only[lF,List.contains_cons,Bool.or_eq_true,beq_iff_eq] at h;rcases h with h |h
  ·exact⟨_,dz ..,h.symm⟩
  ·obtain⟨b,hb,e⟩:=Gs h;exact⟨b,cS _ hb,e⟩
theorem Dx {nB nV:List Nat} {len:Nat}:∀{bx:List Bx},zA nB nV len bx->∀b∈bx,(b.id<len->nB.contains b.id=true)/\ya nB nV len b.cs
 |⟨k,t,cs⟩::r,h,b,hb=>by
  rcases List.mem_cons.1 hb with rfl |hb
  ·exact⟨fun hl=>by have:=h.1;dsimp only at hl this;rwa [aj hl] at this,h.2.1⟩
  ·exact Dx h.2.2 b hb
theorem Dw {nV:List Nat} {len:Nat}:∀{vc:List Vc},zz nV len vc->∀b∈vc,b.id<len->nV.contains b.id=true
 |⟨k,u,e,z,n,xs⟩::r,h,b,hb=>by
  rcases List.mem_cons.1 hb with rfl |hb
  ·exact fun hl=>by have:=h.1;dsimp only at hl this;rwa [aj hl] at this
  ·exact Dw h.2 b hb
theorem Gk {nid:Nat} {vc:List Vc}:∀{bx:List Bx},yV nid vc bx->∀b∈bx,fy nid vc b.cs
 |⟨_,_,cs⟩::r,h,b,hb=>by
  rcases List.mem_cons.1 hb with rfl |hb
  ·exact h.1
  ·exact Gk h.2 b hb
theorem KM {L:List Nat} {eJ:List Vc}:∀{vc:List Vc},A0 L eJ vc->∀b∈vc,L.contains b.id=true->bS eJ b.id b.ver
 |⟨k,u,e,z,n,xs⟩::r,h,b,hb=>by
  rcases List.mem_cons.1 hb with rfl |hb
  ·exact fun hl=>by have:=h.1;dsimp only at hl;rwa [aj hl] at this
  ·exact KM h.2 b hb
theorem LJ:∀{bx:List Bx} {b:Bx},b∈bx->b.id<ng bx
 |⟨k,t,cs⟩::r,b,hb=>by
  simp only[ng];rcases List.mem_cons.1 hb with rfl |hb
  ·dsimp only;omega
  ·have:=LJ hb;omega
theorem LI:∀{vc:List Vc} {b:Vc},b∈vc->b.id<nf vc
 |⟨k,u,e,z,n,xs⟩::r,b,hb=>by
  simp only[nf];rcases List.mem_cons.1 hb with rfl |hb
  ·dsimp only;omega
  ·have:=LI hb;omega
theorem S9 {a b:List Vc} {k u:Nat} (ha:bS a k u) (hb:bS b k u):bS (a++b) k u:=by
 induction a with
 |nil=>exact hb
 |cons y r ih=>
  obtain⟨i',v',e',z',n',x'⟩:=y;simp only[jD,bS] at ha ⊢;split
  ·rename_i e;rw[aj e] at ha;exact ha
  ·rename_i e;rw[ae e] at ha;exact ih ha
theorem FP {a:List Vc} {k u:Nat} (h:∀b∈a,b.id≠k):bS a k u:=by
 induction a with
 |nil=>trivial
 |cons y r ih=>
  obtain⟨i',v',e',z',n',x'⟩:=y;simp only[bS];rw[ae (h _ (dz ..))];exact ih fun b hb=>h b (cS _ hb)
theorem Rj {p:Vc->Bool} {a:List Vc} {k u:Nat} (hu:(a.map (·.id)).Nodup) (h:bS a k u):bS (a.filter p) k u:=by
 induction a with
 |nil=>trivial
 |cons y r ih=>
  simp only[br,List.nodup_cons] at hu;obtain⟨i',v',e',z',n',x'⟩:=y;simp only[bS] at h;simp only[List.filter_cons];split
  ·simp only[bS];split
   ·rename_i e;rw[aj e] at h;exact h
   ·rename_i e;rw[ae e] at h;exact ih hu.2 h
  ·by_cases e:i' =k
   ·refine FP fun b hb=> ?_
    rw[<- e];exact fun e' =>hu.1 (by dsimp only;rw[<- e'];exact List.mem_map.2 ⟨b,(List.mem_filter.1 hb).1,rfl⟩)
   ·rw[ae e] at h;exact ih hu.2 h
section
variable {C:Ctx} {st:LS} {V V2:Vl} {D D2:Nat->Nat} {w w2:World} {L:List Nat} {r:SV} {H' :Hp} {m' :Mem}
def kn (st:LS) (L:List Nat) (V V2:Vl):Vl:=
  ⟨fun k=>if k<st.nid then V.β k else V2.β (k - st.nid),
   fun k u=>if k<st.nid then(match mC st.vc k with |some b=>if L.contains k=true/\b.ver<u then V2.γ (jf L 0 k) u else V.γ k u |none=>V.γ k u) else V2.γ (k - st.nid) u⟩
theorem SC:Agree st.nid st.vc V (kn st L V V2):=by
 intro k hk;refine⟨aj hk,fun u hu=> ?_⟩;show(if k<st.nid then _ else _)=_;rw[aj hk];split
 ·rename_i b hb;rw[ae (fun h=>by have:=Kh hb hu;omega)]
 ·rfl
theorem wK {j:Nat} (hj:j<L.length):∃k,L[j]? =some k/\k∈L/\fi L st.nid j=k:=by
 refine⟨L[j],List.getElem?_eq_getElem hj,List.getElem_mem hj,?_⟩;unfold fi;rw[List.getElem?_eq_getElem hj];rfl
theorem wL {j:Nat} (hj:¬j<L.length):fi L st.nid j=st.nid+j:=by
 unfold fi;rw[List.getElem?_eq_none (by omega)];rfl
theorem ZQ (iq:L.Nodup) (ao:uy st.nid L) (hβ:∀b∈(gj st L).bx,V2.β b.id=(kO L V).β b.id) {j:Nat} (hj:j<L.length->(na (gj st L).bx).contains j=true):
  (kn st L V V2).β (fi L st.nid j)=V2.β j:=by
 by_cases h:j<L.length
 ·obtain⟨k,hk,hm,he⟩:=wK (st:=st) h;rw[he];obtain⟨b,hb,hbj⟩:=Lm (hj h);have Qf:=hβ b hb;obtain⟨x,hx,rfl⟩:=List.mem_map.1 hb;rw[(yA _ x).1] at hbj Qf;have hc:=(Gh hx).2;have B4:x.id=k:=by
   have:=(yH hc).1;rw[hbj,hk] at this;exact(Option.some.inj this).symm
  show(if k<st.nid then _ else _)=_;rw[aj (AG ao k hm),<- B4,<- y9 (V:=V) hc,<- Qf,hbj]
 ·rw[wL h];show(if st.nid+j<st.nid then _ else _)=_;rw[ae (by omega),Nat.add_sub_cancel_left]
theorem ZP (iq:L.Nodup) (ao:uy st.nid L) (xF:(st.vc.map (·.id)).Nodup) (hγ:∀b∈(gj st L).vc,∀u,u<=b.ver->V2.γ b.id u=(kO L V).γ b.id u) {j:Nat} (hj:j<L.length->(lF (gj st L).vc).contains j=true) (u:Nat):
  (kn st L V V2).γ (fi L st.nid j) u=V2.γ j u:=by
 by_cases h:j<L.length
 ·obtain⟨k,hk,hm,he⟩:=wK (st:=st) h;rw[he];obtain⟨b,hb,hbj⟩:=Gs (hj h);have IP:=hγ b hb;obtain⟨x,hx,rfl⟩:=List.mem_map.1 hb;rw[(mN _ x).1] at hbj IP;rw[(mN _ x).2.1] at IP;obtain⟨IQ,hc⟩:=uQ hx;have B4:x.id=k:=by
   have:=(yH hc).1;rw[hbj,hk] at this;exact(Option.some.inj this).symm
  show(if k<st.nid then _ else _)=_;rw[aj (AG ao k hm),<- B4,Lg xF IQ];dsimp only;by_cases hu:x.ver<u
  ·rw[aj ⟨hc,hu⟩,hbj]
  ·rw[ae (fun h=>hu h.2),<- A9 (V:=V) hc,<- IP u (by omega),hbj]
 ·rw[wL h];show(if st.nid+j<st.nid then _ else _)=_;rw[ae (by omega),Nat.add_sub_cancel_left]
structure Bk (st:LS) (L:List Nat) (V V2:Vl):Prop where
 β:∀j,(j<L.length->(na (gj st L).bx).contains j=true)->(kn st L V V2).β (fi L st.nid j)=V2.β j
 γ:∀j u,(j<L.length->(lF (gj st L).vc).contains j=true)->(kn st L V V2).γ (fi L st.nid j) u=V2.γ j u
theorem BZ {p:Prop} [Decidable p] {q:Prop} (h:if p then q else True):p->q:=fun hp=>by rwa [aj hp] at h
theorem zy (hb:Bk st L V V2) {s:SV} (h:rZ (na (gj st L).bx) (lF (gj st L).vc) L.length s):bj (kn st L V V2) (mA (fi L st.nid) s)=bj V2 s:=by
 cases s with
 |v x=>rfl
 |box k o=>show Value.pointer _=Value.pointer _;rw[hb.β k (BZ h)]
 |vec k u=>show Hd.val _=Hd.val _;rw[hb.γ k u (BZ h)]
 |vp k u o=>show Value.pointer _=Value.pointer _;rw[hb.γ k u (BZ h)]
 |mp k=>show Value.map _=Value.map _;rw[hb.β k (BZ h)]
 |mv f k o=>show Value.func _ _ _=Value.func _ _ _;rw[hb.β k (BZ h)]
 |agg cs=>rfl
 |tup l=>rfl
theorem IA (hb:Bk st L V V2):∀{l:List SV},ya (na (gj st L).bx) (lF (gj st L).vc) L.length l->(l.map (mA (fi L st.nid))).map (bj (kn st L V V2))=l.map (bj V2)
 |[],_=>rfl
 |s::r,h=>by simp only[br];rw[zy hb h.1,IA hb h.2]
theorem xr (hb:Bk st L V V2) {s:SV} (h:CC (na (gj st L).bx) (lF (gj st L).vc) L.length s):mE (kn st L V V2) (zg (fi L st.nid) s)=mE V2 s:=by
 cases s with
 |agg cs=>show Value.agg _=Value.agg _;rw[IA hb h]
 |v x=>rfl
 |box k o=>exact zy (s:= .box k o) hb h
 |vec k u=>exact zy (s:= .vec k u) hb h
 |vp k u o=>exact zy (s:= .vp k u o) hb h
 |mp k=>exact zy (s:= .mp k) hb h
 |mv f k o=>exact zy (s:= .mv f k o) hb h
 |tup l=>rfl
theorem PQ (hb:Bk st L V V2):∀{l:List SV},CB (na (gj st L).bx) (lF (gj st L).vc) L.length l->(l.map (zg (fi L st.nid))).map (mE (kn st L V V2))=l.map (mE V2)
 |[],_=>rfl
 |s::r,h=>by simp only[br];rw[xr hb h.1,PQ hb h.2]
theorem adD (hb:Bk st L V V2) {s:SV} (h:Fp (na (gj st L).bx) (lF (gj st L).vc) L.length s):den (kn st L V V2) (tS (fi L st.nid) s)=den V2 s:=by
 cases s with
 |tup l=>show Value.tuple _=Value.tuple _;rw[PQ hb h]
 |v x=>rfl
 |box k o=>exact xr (s:= .box k o) hb h
 |vec k u=>exact xr (s:= .vec k u) hb h
 |vp k u o=>exact xr (s:= .vp k u o) hb h
 |mp k=>exact xr (s:= .mp k) hb h
 |mv f k o=>exact xr (s:= .mv f k o) hb h
 |agg cs=>exact xr (s:= .agg cs) hb h
theorem Wj (iq:L.Nodup) (ao:uy st.nid L) (j:Nat):(fun k=>if k<st.nid then jf L 0 k else k - st.nid) (fi L st.nid j)=j:=by
 by_cases h:j<L.length
 ·obtain⟨k,hk,hm,he⟩:=wK (st:=st) h;dsimp only;rw[he,aj (AG ao k hm)];unfold jf;rw[Ll iq hk];rfl
 ·dsimp only;rw[wL h,ae (by omega),Nat.add_sub_cancel_left]
theorem HSat.back (hb:Bk st L V V2) (iq:L.Nodup) (ao:uy st.nid L) (h:HSat V2 D2 w2 H') (Cn:zA (na (gj st L).bx) (lF (gj st L).vc) L.length H'.bx) (Qj:zz (lF (gj st L).vc) L.length H'.vc):
  HSat (kn st L V V2) D2 w2 ⟨H'.bx.map (o5 (fi L st.nid)),H'.vc.map (jL (fi L st.nid))⟩/\
   a7 (kn st L V V2) ⟨H'.bx.map (o5 (fi L st.nid)),H'.vc.map (jL (fi L st.nid))⟩=a7 V2 H' :=by
 have gw:a7 (kn st L V V2) ⟨H'.bx.map (o5 (fi L st.nid)),H'.vc.map (jL (fi L st.nid))⟩=a7 V2 H' :=by
  unfold a7;congr 1
  ·rw[List.map_map];refine List.map_congr_left fun b hm=> ?_
   show(kn st L V V2).β (o5 _ b).id=_;rw[(yA _ b).1,hb.β _ (Dx Cn b hm).1]
  ·rw[List.filterMap_map];refine CE fun b hm=> ?_
   show((kn st L V V2).γ (jL _ b).id (jL _ b).ver).blk=_;rw[(mN _ b).1,(mN _ b).2.1,hb.γ _ _ (Dw Qj b hm)]
 refine⟨⟨fun b hm=> ?_,fun b hm=> ?_,by rw[gw];exact h.apart,?_⟩,gw⟩
 ·obtain⟨x,hx,rfl⟩:=List.mem_map.1 hm;obtain⟨e1,e2,e3⟩:=yA (fi L st.nid) x;obtain⟨h1,h2⟩:=h.bx x hx;unfold CD;rw[e1,e2,e3,hb.β _ (Dx Cn x hx).1,IA hb (Dx Cn x hx).2];exact⟨h1,h2⟩
 ·obtain⟨x,hx,rfl⟩:=List.mem_map.1 hm;obtain⟨e1,e2,e3,e4,e5,e6⟩:=mN (fi L st.nid) x;have h1:=h.vc x hx;unfold yc;rw[e1,e2,e3,e4,e5,e6,hb.γ _ _ (Dw Qj x hx)];exact h1
 ·dsimp only;rw[List.map_map];have:(H'.vc.map ((·.id)∘jL (fi L st.nid)))=(H'.vc.map (·.id)).map (fi L st.nid):=by
   rw[List.map_map];exact List.map_congr_left fun b _=>(mN _ b).1
  rw[this];exact Lb (g:=fun k=>if k<st.nid then jf L 0 k else k - st.nid) (fun j _=>Wj iq ao j) h.uniq
theorem SatW.call (h:SatW C st.bx st.vc st.nid st.m V D w) (fJ:If st L []) (Jk:HC st L r H' m')
  (vL:Wf w2 D2) (uB:HSat V2 D2 w2 H') (hβ:∀b∈(gj st L).bx,V2.β b.id=(kO L V).β b.id) (hγ:∀b∈(gj st L).vc,∀u,u<=b.ver->V2.γ b.id u=(kO L V).γ b.id u)
  (pG:Frm (· ∈a7 (kO L V) (gj st L)) w D w2 D2) (sK:∀b∈a7 V2 H',b∈a7 (kO L V) (gj st L)\/w.heap.size<=b) (hle:Mem.le ⟨w,D⟩ ⟨w2,D2⟩) (aN:st.m.le m') (aH:m'.le ⟨w2,D2⟩):
  ∃V3,Agree st.nid st.vc V V3/\den V3 (tS (fi L st.nid) r)=den V2 r/\SatW C (va st L H' m').bx (va st L H' m').vc (va st L H' m').nid m' V3 D2 w2/\
   ∀k u,k<st.nid->bS st.vc k u->bS (va st L H' m').vc k u:=by
 obtain⟨iq,ao,_,_⟩:=fJ;have iq:=Lc iq;obtain⟨c1,c2,c3,c4,c5,c6⟩:=Jk;have xF:=h.heap.uniq;have hb:Bk st L V V2:=⟨fun j hj=>ZQ iq ao hβ hj,fun j u hj=>ZP iq ao xF hγ hj u⟩;obtain⟨hsn,gw⟩:=uB.back hb iq ao c2 c3;have pC:=CO L h.heap;obtain⟨hp,hd,hdis⟩:=pC.app;have ji:Agree st.nid st.vc V (kn st L V V2):=SC;have EH:a7 (kO L V) (gj st L)=a7 V ⟨gd L st.bx,fL L st.vc⟩:=NO;have zP:∀b∈mT L st.bx,b∈st.bx:=fun b hb=>(T3 hb).1
 have mJ:∀b∈mh L st.vc,b∈st.vc:=fun b hb=>(ML hb).1
 have PI:a7 (kn st L V V2) ⟨mT L st.bx,mh L st.vc⟩=a7 V ⟨mT L st.bx,mh L st.vc⟩:=
  AK (fun b hm=>(ji b.id (h.ids.1 b (zP b hm)).1).1) (fun b hm=>(ji b.id (h.ids.2 b (mJ b hm))).2 b.ver (uN xF (mJ b hm)))
 have Qv:=uX hd;have rT:HSat (kn st L V V2) D2 w2 ⟨mT L st.bx,mh L st.vc⟩:=
  hd.frame (fun b hm=>⟨(ji b.id (h.ids.1 b (zP b hm)).1).1,yp ji (h.ids.1 b (zP b hm)).2⟩) (fun b hm=>(ji b.id (h.ids.2 b (mJ b hm))).2 b.ver (uN xF (mJ b hm)))
   (fun g hg=>pG.same g (Qv g hg) (fun hx=>hdis g (EH▸hx) hg))
 have kp:HSat (kn st L V V2) D2 w2 ⟨H'.bx.map (o5 (fi L st.nid))++mT L st.bx,H'.vc.map (jL (fi L st.nid))++mh L st.vc⟩:=by
  refine hsn.join rT (fun g hg iv=> ?_) (fun x hx y hy=> ?_)
  ·rw[gw] at hg;rw[PI] at iv;rcases sK g hg with e |e
   ·exact hdis g (EH▸e) iv
   ·have:=Qv g iv;omega
  ·obtain⟨z,hz,rfl⟩:=List.mem_map.1 hx;rw[(mN _ z).1];obtain⟨dY,fj⟩:=ML hy;by_cases hl:z.id<L.length
   ·obtain⟨k,_,hkm,he⟩:=wK (st:=st) hl;rw[he];rintro rfl;have:L.contains y.id=true:=by simpa using hkm
    rw[this] at fj;cases fj
   ·rw[wL hl];have:=h.ids.2 y dY;omega
 have tO:∀k u,k<st.nid->bS st.vc k u->bS (va st L H' m').vc k u:=by
  intro k u hk hv;show bS (H'.vc.map (jL (fi L st.nid))++mh L st.vc) k u;refine S9 ?_ (by rw[Am];exact Rj xF hv);by_cases hkL:L.contains k=true
  ·cases kP:mC st.vc k with
   |none=>
    refine FP fun b eC e=> ?_
    obtain⟨z,hz,rfl⟩:=List.mem_map.1 eC;rw[(mN _ z).1] at e;by_cases hl:z.id<L.length
    ·obtain⟨k',iu,_,he⟩:=wK (st:=st) hl;rw[he] at e;subst e;obtain⟨y,hy,hyz⟩:=Gs (Dw c3 z hz hl);obtain⟨x,hx,rfl⟩:=List.mem_map.1 hy;rw[(mN _ x).1] at hyz;obtain⟨IQ,hc⟩:=uQ hx;have:=(yH hc).1;rw[hyz,iu] at this;have B4:x.id=k' :=(Option.some.inj this).symm;have:=Lg xF IQ;rw[B4,kP] at this;cases this
    ·rw[wL hl] at e;omega
   |some b=>
    have eC:b∈st.vc/\b.id=k:=by
     clear hv;revert kP;generalize st.vc=l
     intro kP;induction l with
     |nil=>cases kP
     |cons y r ih=>
      obtain⟨i',v',e',z',n',x'⟩:=y;simp only[mC] at kP;split at kP
      ·rename_i e;cases kP;exact⟨dz ..,e⟩
      ·exact⟨cS _ (ih kP).1,(ih kP).2⟩
    have h6:=KM c6 b eC.1 (by rw[eC.2];exact hkL);rw[eC.2] at h6;exact Dd h6 (Kh kP hv)
  ·refine FP fun b eC e=> ?_
   obtain⟨z,hz,rfl⟩:=List.mem_map.1 eC;rw[(mN _ z).1] at e;by_cases hl:z.id<L.length
   ·obtain⟨k',_,hm,he⟩:=wK (st:=st) hl;rw[he] at e;subst e;exact hkL (by simpa using hm)
   ·rw[wL hl] at e;omega
 have PG:∀j,j<max (ng H'.bx) (nf H'.vc)->fi L st.nid j<st.nid+max (ng H'.bx) (nf H'.vc):=by
  intro j hj;by_cases hl:j<L.length
  ·obtain⟨k,_,hm,he⟩:=wK (st:=st) hl;rw[he];have:=AG ao k hm;omega
  ·rw[wL hl];omega
 refine⟨kn st L V V2,ji,adD hb c1,⟨kp,vL,h.frm.trans pG (fun x hx=>h.own x ((F5 L st.bx st.vc).mem_iff.2 (List.mem_append_left _ (EH▸hx)))),fun x hx=> ?_,fun b eC=> ?_,fun b eC=> ?_,⟨fun b eC=> ?_,fun b eC=> ?_⟩,Mem.le_trans h.le0 hle,Mem.le_trans h.m0 aN,aH⟩,tO⟩
 ·have cB:=(Du _ _ _ _).mem_iff.1 hx;rcases List.mem_append.1 cB with cB |cB
  ·rw[gw] at cB;rcases sK x cB with e |e
   ·exact h.own x ((F5 L st.bx st.vc).mem_iff.2 (List.mem_append_left _ (EH▸e)))
   ·exact .inr (cR h.frm.size e)
  ·rw[PI] at cB;exact h.own x ((F5 L st.bx st.vc).mem_iff.2 (List.mem_append_right _ cB))
 ·obtain⟨e1,e2⟩:=h.baseB b eC;exact⟨((ji b.id e2).1).trans e1,ej e2 (Nat.le_add_right _ _)⟩
 ·obtain⟨e1,e2,e3⟩:=h.baseV b eC;exact⟨fun u hu=>((ji b.id e2).2 u (Dd e3 hu)).trans (e1 u hu),ej e2 (Nat.le_add_right _ _),tO _ _ e2 e3⟩
 ·rcases List.mem_append.1 eC with eC |eC
  ·refine⟨?_,Gk c5 b eC⟩;obtain⟨x,hx,rfl⟩:=List.mem_map.1 eC;rw[(yA _ x).1];exact PG _ (ej (LJ hx) (Nat.le_max_left _ _))
  ·exact⟨ej (h.ids.1 b (zP b eC)).1 (Nat.le_add_right _ _),wz (Nat.le_add_right _ _) tO (h.ids.1 b (zP b eC)).2⟩
 ·rcases List.mem_append.1 eC with eC |eC
  ·obtain⟨x,hx,rfl⟩:=List.mem_map.1 eC;rw[(mN _ x).1];exact PG _ (ej (LI hx) (Nat.le_max_right _ _))
  ·exact ej (h.ids.2 b (mJ b eC)) (Nat.le_add_right _ _)
end
theorem tD {V:Vl}:∀{cs:List SV},jP cs=true->∀v∈cs.map (bj V),v.oneCell' =true
 | .v x::r,h,v,hv=>by
  simp only[jP,cY] at h;simp only[br] at hv;rcases List.mem_cons.1 hv with rfl |hv
  ·exact h.1
  ·exact tD h.2 v hv
 | .box k o::r,h,v,hv=>by
  simp only[br] at hv;rcases List.mem_cons.1 hv with rfl |hv
  ·rfl
  ·exact tD (cs:=r) h v hv
 | .vec k o::r,h,v,hv=>by
  simp only[br] at hv;rcases List.mem_cons.1 hv with rfl |hv
  ·rfl
  ·exact tD (cs:=r) h v hv
 | .vp k u o::r,h,v,hv=>by
  simp only[br] at hv;rcases List.mem_cons.1 hv with rfl |hv
  ·rfl
  ·exact tD (cs:=r) h v hv
 | .mp k::r,h,v,hv=>by
  simp only[br] at hv;rcases List.mem_cons.1 hv with rfl |hv
  ·rfl
  ·exact tD (cs:=r) h v hv
 | .mv f k o::r,h,v,hv=>by
  simp only[br] at hv;rcases List.mem_cons.1 hv with rfl |hv
  ·rfl
  ·exact tD (cs:=r) h v hv
 | .agg cs::r,h,v,hv=>by simp [jP] at h
 | .tup cs::r,h,v,hv=>by simp [jP] at h
theorem TK {V:Vl} {s:SV} {x:Value} (h:plain s=some x):bj V s=x:=by
 cases s<;>simp only[plain,dy] at h<;>first |exact h |cases h
theorem CR {V:Vl}:∀{cs:List SV} {l:List Value},mf cs=some l->cs.map (bj V)=l
 |[],l,h=>by simp only[mf,dy] at h;subst h;rfl
 |s::r,l,h=>by
  simp only[mf,Option.bind_eq_some_iff,Option.map_eq_some_iff] at h;obtain⟨x,hx,l',hl,rfl⟩:=h;simp only[br];rw[TK hx,CR hl]
theorem He:∀(l cs:List SV) (off:Nat),off+l.length<=cs.length->kK cs off l=cs.take off++l++cs.drop (off+l.length)
 |[],cs,off,_=>by simp [kK]
 |c::r,cs,off,h=>by
  simp only[cv] at h;simp only[kK];rw[He r (cs.set off c) (off+1) (by simp;omega)];have h1:(cs.set off c).take (off+1)=cs.take off++[c]:=by
   rw[List.take_set,List.take_succ_eq_append_getElem (by omega)];rw[List.set_append_right _ _ (by simp [Nat.min_le_left])];simp [List.length_take,Nat.min_eq_left (by omega:off<=cs.length)]
  have h2:(cs.set off c).drop (off+1+r.length)=cs.drop (off+1+r.length):=List.drop_set_of_lt (by omega);rw[h1,h2];simp [Nat.add_assoc,Nat.add_comm 1]
theorem Dv {V:Vl} {g:Nat}:∀{l:List Vc} {x b:Vc},x∈l->b∈l->(V.γ x.id x.ver).blk=some g->(V.γ b.id b.ver).blk=some g->(l.filterMap fun b=>(V.γ b.id b.ver).blk).Nodup->x=b
 |y::r,x,b,hx,hb,hxg,hbg,hf=>by
  simp only[List.filterMap_cons] at hf;rcases List.mem_cons.1 hx with e1 |cB<;>rcases List.mem_cons.1 hb with e2 |oJ
  ·exact e1.trans e2.symm
  ·subst e1;rw[hxg] at hf;exact absurd (List.mem_filterMap.2 ⟨b,oJ,hbg⟩) (List.nodup_cons.1 hf).1
  ·subst e2;rw[hbg] at hf;exact absurd (List.mem_filterMap.2 ⟨x,cB,hxg⟩) (List.nodup_cons.1 hf).1
  ·refine Dv cB oJ hxg hbg ?_;split at hf
   ·exact hf
   ·exact(List.nodup_cons.1 hf).2
section
variable {C:Ctx} {n:Nat} {st:LS} {a:Act} {V:Vl} {D:Nat->Nat} {w:World} {P:Program} {p:bt}
theorem Sat.to (hS:Sat C n st a V D w) {qB:List Bx} {eJ:List Vc} {iH:Nat} {m' :Mem} {V' :Vl} {D' :Nat->Nat} {w' :World} (ha:Agree st.nid st.vc V V') (hn:st.nid<=iH)
  (hv:∀k u,k<st.nid->bS st.vc k u->bS eJ k u) (hW:SatW C qB eJ iH m' V' D' w'):Sat C n ⟨st.env,st.rho,qB,eJ,iH,m'⟩ a V' D' w' :=
 ⟨hS.f.agree hS.ids ha,fun e he=>Mg hn hv (hS.ids e he),hW⟩
theorem SatW.pub (h:SatW C st.bx st.vc st.nid st.m V D w) {k u:Nat} {b:Vc} (hb:cN st.vc k u=some b):
  ∃(a:Option Addr) (c:Nat) (m1:Mem) (D' :Nat->Nat),st.m.le m1/\b.n<=c/\aK m1 a b.n b.sz b.xs/\(V.γ k u).val= .slice a b.n c/\SatW C st.bx st.vc st.nid m1 V D' w:=by
 obtain⟨rfl,rfl,hm⟩:=AH hb;obtain⟨dU,hD,j9,qh⟩:=h.heap.vc b hm;obtain⟨hn,hl,_⟩:=wO dU;let D' :Nat->Nat:=fun x=>if(V.γ b.id b.ver).blk=some x then b.n * b.sz else D x
 have hDD:∀x,D x<=D' x:=fun x=>by
  show D x<=if _ then _ else _
  split
  ·rename_i e;exact hD x e
  ·exact aq _
 have j8:Wf w D' :=fun x hx=>by
  show(if _ then _ else _)=0;split
  ·rename_i e;have:=(Hg dU e).2;omega
  ·exact h.wf x hx
 have hle:Mem.le ⟨w,D⟩ ⟨w,D'⟩:=Mem.le_same h.wf (fun x _=>⟨hDD x,fun _=>rfl⟩);have Z8:Mem.le ⟨w,D'⟩ ⟨w,D'⟩:=Mem.le_refl ⟨w,D'⟩ j8;have acU:∀g,g∈a7 V ⟨st.bx,st.vc⟩->(V.γ b.id b.ver).blk≠some g->D' g=D g:=fun g _ cP=>ae cP
 refine⟨(V.γ b.id b.ver).a,(V.γ b.id b.ver).c,⟨w,D'⟩,D',Mem.le_trans h.mle hle,?_,⟨hl,fun h0=> ?_⟩,by unfold Hd.val;rw[hn],?_⟩
 ·rcases dU.2 with ⟨_,hz⟩ |⟨g,cap,cur,hv,_,_,hc,_⟩
  ·omega
  ·simp only[Hd.val,Value.slice.injEq] at hv;omega
 ·rcases dU.2 with ⟨_,hz⟩ |⟨g,cap,cur,hv,_,hh,hc,_,fp,pB⟩
  ·omega
  ·simp only[Hd.val,Value.slice.injEq] at hv;refine⟨⟨g,0,none⟩,hv.1,rfl,fun j hj=> ?_⟩;have Jk:(V.γ b.id b.ver).blk=some g:=by unfold Hd.blk;rw[hv.1];rfl
   refine⟨?_,?_⟩
   ·rw[CI];simp only[World.cell?,hh,Option.isSome_none,Bool.false_eq_true,if_false];rw[<- pB,List.getElem?_take,aj hj,Array.getElem?_toList]
   ·show 0+j<D' g;have:D' g=b.n * b.sz:=aj Jk;omega
 ·refine⟨⟨fun x hx=> ?_,fun x hx=> ?_,h.heap.apart,h.heap.uniq⟩,j8,h.frm.trans (S:=fun x=>(V.γ b.id b.ver).blk=some x) ⟨rfl,rfl,rfl,aq _,fun x _ hx=>⟨rfl,ae hx⟩⟩ (fun x hx=>h.own x (by
   simp only[a7,List.mem_append,List.mem_filterMap]
   exact .inr ⟨b,hm,hx⟩)),h.own,h.baseB,h.baseV,h.ids,Mem.le_trans h.le0 hle,Mem.le_trans h.m0 (Mem.le_trans h.mle hle),Z8⟩
  ·obtain⟨h1,h2⟩:=h.heap.bx x hx;refine⟨h1,?_⟩;rw[acU _ (by simp only[a7,List.mem_append,List.mem_map];exact .inl ⟨x,hx,rfl⟩)]
   ·exact h2
   ·intro e;have qx:=h.heap.apart;unfold a7 at qx;exact(List.nodup_append.1 qx).2.2 _ (List.mem_map.2 ⟨x,hx,rfl⟩) _ (List.mem_filterMap.2 ⟨b,hm,e⟩) rfl
  ·obtain⟨h1,h2,h3,h4⟩:=h.heap.vc x hx;refine⟨h1,fun g hg=> ?_,h3,h4⟩;show(if _ then _ else _)<=_;split
   ·rename_i e;have hxb:x=b:=by
     have qx:=h.heap.apart;unfold a7 at qx;have hf:=(List.nodup_append.1 qx).2.1;exact Dv hx hm hg e hf
    rw[hxb];exact aq _
   ·exact h2 g hg
theorem qC:∀(l:List SV) (K:List SV->LS->Prop) (m:Mem) (D:Nat->Nat),oh l K ⟨st.env,st.rho,st.bx,st.vc,st.nid,m⟩->SatW C st.bx st.vc st.nid m V D w->
  ∃l' m1 D1,K l' ⟨st.env,st.rho,st.bx,st.vc,st.nid,m1⟩/\SatW C st.bx st.vc st.nid m1 V D1 w/\l'.map (bj V)=l.map (bj V)/\(∀x∈l',∀cs,x= .agg cs-> .agg cs∈l)
 |[],K,m,D,h,hW=>⟨[],m,D,h,hW,rfl,fun _ h=>by cases h⟩
 |s::r,K,m,D,h,hW=>by
  cases s with
  |vec k u=>
   simp only[oh] at h;obtain⟨b,hb,h⟩:=aG h;obtain⟨ad,c,m1,D',h1,h2,h3,h4,h5⟩:=SatW.pub (st:=⟨st.env,st.rho,st.bx,st.vc,st.nid,m⟩) hW hb;obtain⟨l',m2,D2,e1,e2,e3,e4⟩:=qC r _ m1 D' (h ad c m1 h1 h2 h3) h5;refine⟨_,m2,D2,e1,e2,?_,fun x hx cs e=> ?_⟩
   ·simp only[br];rw[e3];congr 1
    exact h4.symm
   ·rcases List.mem_cons.1 hx with rfl |hx
    ·cases e
    ·exact cS _ (e4 x hx cs e)
  |v x=>
   obtain⟨l',m2,D2,e1,e2,e3,e4⟩:=qC r _ m D h hW
   exact⟨_,m2,D2,e1,e2,by simp only[br,e3],fun y hy cs e=>by
    rcases List.mem_cons.1 hy with rfl |hy
    ·cases e
    ·exact cS _ (e4 y hy cs e)⟩
  |box k o=>
   obtain⟨l',m2,D2,e1,e2,e3,e4⟩:=qC r _ m D h hW
   exact⟨_,m2,D2,e1,e2,by simp only[br,e3],fun y hy cs e=>by
    rcases List.mem_cons.1 hy with rfl |hy
    ·cases e
    ·exact cS _ (e4 y hy cs e)⟩
  |vp k u o=>
   obtain⟨l',m2,D2,e1,e2,e3,e4⟩:=qC r _ m D h hW
   exact⟨_,m2,D2,e1,e2,by simp only[br,e3],fun y hy cs e=>by
    rcases List.mem_cons.1 hy with rfl |hy
    ·cases e
    ·exact cS _ (e4 y hy cs e)⟩
  |mp k=>
   obtain⟨l',m2,D2,e1,e2,e3,e4⟩:=qC r _ m D h hW
   exact⟨_,m2,D2,e1,e2,by simp only[br,e3],fun y hy cs e=>by
    rcases List.mem_cons.1 hy with rfl |hy
    ·cases e
    ·exact cS _ (e4 y hy cs e)⟩
  |mv f k o=>
   obtain⟨l',m2,D2,e1,e2,e3,e4⟩:=qC r _ m D h hW
   exact⟨_,m2,D2,e1,e2,by simp only[br,e3],fun y hy cs e=>by
    rcases List.mem_cons.1 hy with rfl |hy
    ·cases e
    ·exact cS _ (e4 y hy cs e)⟩
  |agg cs=>
   obtain⟨l',m2,D2,e1,e2,e3,e4⟩:=qC r _ m D h hW
   exact⟨_,m2,D2,e1,e2,by simp only[br,e3],fun y hy du e=>by
    rcases List.mem_cons.1 hy with rfl |hy
    ·rw[e];exact dz ..
    ·exact cS _ (e4 y hy du e)⟩
  |tup l0=>
   obtain⟨l',m2,D2,e1,e2,e3,e4⟩:=qC r _ m D h hW
   exact⟨_,m2,D2,e1,e2,by simp only[br,e3],fun y hy cs e=>by
    rcases List.mem_cons.1 hy with rfl |hy
    ·cases e
    ·exact cS _ (e4 y hy cs e)⟩
end
end Go.Proofs.YtimddhkipjedcaaGreatDoor.E

/- Several texts in one. -/
import Derived.WalkKit
import Derived.Below
import Derived.Deep.Draws
import Derived.Maps.AppendAt
import Derived.Laws.Strings
import Derived.Laws.StructEq
import Derived.Laws.Shifts
import Derived.Laws.Cover1
import Derived.Laws.Cells
import Derived.Laws.Slices
import Derived.Laws.DeepStrings4
import Derived.Laws.IdiomStrings
import Derived.Lib.Strings
import Derived.MapKept
import Derived.Deep.AppendSrc
set_option linter.unusedSimpArgs false
set_option linter.unusedVariables false
set_option maxHeartbeats 4000000
set_option maxRecDepth 20000
namespace Go.Proofs.YtmdokbohofchgaaGreatDoor.E
open Go
theorem aU {a b:Nat} (h:Nat.ble a b=true):a<=b:=Nat.le_of_ble_eq_true h
theorem aA (n:Nat):n<=n:=Nat.le_refl n
theorem aZ {α:Type _} {as bs:List α}:(as++bs).length=as.length+bs.length:=List.length_append
theorem cQ {α:Type _} {a:α} {as:List α}:(a::as).length=as.length+1:=rfl
theorem mb {α:Type _}:([]:List α).length=0:=rfl
theorem aa {c:Prop} {h:Decidable c} (pz:¬c) {α:Sort _} {t e:α}:(ite c t e)=e:=if_neg pz
theorem ai {c:Prop} {h:Decidable c} (hc:c) {α:Sort _} {t e:α}:(ite c t e)=t:=if_pos hc
theorem cS {p:Prop} [Decidable p]:(decide p=true)=p:=decide_eq_true_eq
theorem bt {α:Type _} (y:α) {a:α} {l:List α}:a∈l->a∈y::l:=List.mem_cons_of_mem y
theorem bL {α:Type _} {a:α} {l:List α}:a∈a::l:=List.mem_cons_self ..
theorem aF (n:Nat):0<=n:=Nat.zero_le n
theorem aV (h:Decidable True): @decide True h=true:=decide_true h
theorem aT (h:Decidable False): @decide False h=false:=decide_false h
theorem dk {n m k:Nat} (h:n<=m) (h2:m<=k):n<=k:=Nat.le_trans h h2
theorem jI {α:Type _} {i:Nat} {l:List α} (h:l.length<=i):l.take i=l:=List.take_of_length_le h
theorem dm {n m k:Nat} (h:n<m) (h2:m<=k):n<k:=Nat.lt_of_lt_of_le h h2
theorem aG {α β:Type _} {f:α->β} {a:α} {l:List α}:(a::l).map f=f a::l.map f:=List.map_cons
theorem cn {α:Type _} {a b:α}:(some a=some b)=(a=b):=Option.some.injEq a b
theorem fh {α:Type _} {a:α} {as bs:List α}:(a::as)++bs=a::(as++bs):=List.cons_append
theorem gh {α:Type _} {i:Nat} {l:List α}:(l.drop i).length=l.length - i:=List.length_drop
theorem ab {p:Prop} [Decidable p] (h:¬p):decide p=false:=decide_eq_false h
theorem aP {p:Prop} [Decidable p] (h:p):decide p=true:=decide_eq_true h
theorem nz {α:Type _} {a:α}:[a].length=1:=List.length_singleton
theorem bw (a b:Bool):((a&&b)=true)=(a=true/\b=true):=Bool.and_eq_true a b
inductive A {γ:Type} (k:γ) (α:Type) where
 |mk (a:α)
inductive SV where
 |v (x:Value)
 |box (k off:Nat)
 |vec (k ver:Nat)
 |vp (k ver off:Nat)
 |vo (k ver off sz:Nat)
 |mp (k:Nat)
 |mv (f:FuncId) (k off:Nat)
 |sl (k n c:Nat)
 |cl (f:FuncId) (ks:List Nat)
 |agg (cs:List SV)
 |tup (vs:List SV)
abbrev ba:=List (Nat×Bool)
structure Bx where
 id:Nat
 ty:TypeId
 cs:List SV
def gn:Nat:=1000000
structure Vc where
 id:Nat
 ver:Nat
 el:TypeId
 sz:Nat
 n:Nat
 xs:List Value
structure Mem where
 w:World
 D:Nat->Nat
structure Hp where
 bx:List Bx
 vc:List Vc
inductive GB where
 |lit (b:Bool)
 |sym (b:Bool)
structure Gd where
 i:Nat
 slot:Nat
 p:ba
 b:GB
structure Ev where
 t:Nat
 p:ba
 s:SV
structure LS where
 env:List Ev
 rho:List Gd
 bx:List Bx
 vc:List Vc
 nid:Nat
 m:Mem
def bs (l:List UInt8):ByteArray:=⟨l.toArray⟩
def tl (s:ByteArray):List UInt8:=s.data.toList
theorem Ep (l:List UInt8):tl (bs l)=l:=by simp [tl,bs]
theorem eW (s:ByteArray):bs (tl s)=s:=by simp [tl,bs]
theorem QR (l:List UInt8):ByteArray.mk l.toArray=bs l:=rfl
theorem oM {a b:List UInt8} (h:bs a=bs b):a=b:=by have:=congrArg tl h;simpa [Ep] using this
def GB.val:GB->Bool | .lit b=>b | .sym b=>b
def mF:ba->ba->Bool
 |[],[]=>true
 |(j,w)::p,(k,u)::q=>if j=k then(if w=u then mF p q else false) else false
 |_,_=>false
def ku:ba->ba->Bool
 |p,[]=>mF p []
 |p,x::q=>if mF p (x::q)=true then true else ku p q
def dP:List Ev->Nat->ba->Option SV
 |[],_,_=>none
 |⟨t',p',s⟩::r,t,p=>if t' =t then(if ku p' p=true then some s else none) else dP r t p
def ek:List Gd->Nat->Option Gd
 |[],_=>none
 |⟨i',t',p',b'⟩::r,i=>if i' =i then some ⟨i',t',p',b'⟩ else ek r i
def vV:List Gd->Nat->Option Gd
 |[],_=>none
 |⟨i',t',p',b'⟩::r,i=>if t' =i then some ⟨i',t',p',b'⟩ else vV r i
def dt:List Bx->Nat->Option Bx
 |[],_=>none
 |⟨k',t',bh⟩::r,i=>if k' =i then some ⟨k',t',bh⟩ else dt r i
def cq:List Vc->Nat->Nat->Option Vc
 |[],_,_=>none
 |⟨k',u',e',z',n',x'⟩::r,i,u=>if k' =i then(if u' =u then some ⟨k',u',e',z',n',x'⟩ else none) else cq r i u
def kN (rho:List Gd) (j:Nat) (w:Bool):Bool:=match ek rho j with |some g=>(if w=true then g.b.val else !g.b.val) |none=>false
def bC (rho:List Gd):ba->Bool
 |[]=>true
 |(j,w)::p=>kN rho j w&&bC rho p
def tB:Option Gd->Bool->Bool
 |some ⟨_,_,_,.lit true⟩,false=>true
 |some ⟨_,_,_,.lit false⟩,true=>true
 |_,_=>false
def rP (rho:List Gd):ba->Bool
 |[]=>false
 |(j,w)::p=>if tB (ek rho j) w=true then true else rP rho p
def lO (st:LS) (p:ba) (B:Prop):Prop:=bC st.rho p=true->B
def bM (st:LS) (p:ba):Operand->Option SV
 | .tmp t=>dP st.env t p
 | .const x=>some (.v x)
 | .func f=>some (.v (.func (.func f) #[] #[]))
 | .global g=>some (.v (.pointer (some ⟨g,0,none⟩)))
def az {α:Type} {K:α->Prop} (x:A K (Option α)):Prop:=match x with | .mk (some s)=>K s | .mk none=>False
/-! Types, as the program's tables have them. -/
def cC (P:Program) (t:TypeId):Option (Option Nat):=
 match P.underlying t with
 |some (.struct _) |some (.array _ _)=>(P.info? t).map fun i=>some i.size
 |some _=>some none
 |none=>none
def aK (P:Program) (t:TypeId):Nat:=((P.info? t).map (·.size)).getD 0
def iH (P:Program) (t:TypeId):Nat:=((P.info? t).map (·.bytes)).getD 0
def cU (P:Program) (t:TypeId):Option (List SV):=((P.info? t).bind (·.zero)).map fun z=>z.cells.toList.map .v
def a8 (P:Program) (s:TypeId) (f:Nat):Option (Nat×Option Nat×Nat):=
 match P.underlying s with
 |some (.struct fs)=>(fs[f]?).bind fun x=>if 0<aK P x.type then(cC P x.type).map fun g=>(x.offset,g,aK P x.type) else none
 |_=>none
def eb (P:Program) (t:TypeId):Option TypeId:=
 match P.underlying t with
 |some (.slice e)=>some e
 |_=>none
inductive CvK where |int (k:IntKind) |same |b2s |no
def oD (P:Program) (src dst:TypeId):CvK:=
 match P.underlying src,P.underlying dst with
 |some (.int _),some (.int k)=> .int k
 |some .string,some .string=> .same
 |some (.slice e),some .string=>(match P.underlying e with |some (.int .u8)=> .b2s |_=> .no)
 |_,_=> .no
/-! Values. -/
def aB (n:Int):Prop:= -9223372036854775808<=n/\n<=9223372036854775807
def arith {k:IntKind} {u:Prop->Prop} {K:SV->Prop} (x:A (k,u,K) Int):Prop:=
 match k,x with
 | .i64,.mk n=>u (aB n)/\K (.v (.int .i64 n))
 |k,.mk n=>K (.v (.int k (k.wrap n)))
def fI {op:BinOp} {k:IntKind} {u:Prop->Prop} {K:SV->Prop} (x:A (op,k,u,K) (Int×Int)):Prop:=
 match op,x with
 | .add,.mk (a,b)=>arith (.mk (k:=(k,u,K)) (a+b))
 | .sub,.mk (a,b)=>arith (.mk (k:=(k,u,K)) (a - b))
 | .mul,.mk (a,b)=>arith (.mk (k:=(k,u,K)) (a * b))
 | .quo,.mk (a,b)=>u (b≠0)/\arith (.mk (k:=(k,u,K)) (a.tdiv b))
 | .rem,.mk (a,b)=>u (b≠0)/\K (.v (.int k (a.tmod b)))
 | .and,.mk (a,b)=>K (.v (.int k (bits .and k a b)))
 | .or,.mk (a,b)=>K (.v (.int k (bits .or k a b)))
 | .xor,.mk (a,b)=>K (.v (.int k (bits .xor k a b)))
 | .andNot,.mk (a,b)=>K (.v (.int k (bits .andNot k a b)))
 | .eql,.mk (a,b)=>K (.v (.bool (decide (a=b))))
 | .neq,.mk (a,b)=>K (.v (.bool (!decide (a=b))))
 | .lss,.mk (a,b)=>K (.v (.bool (decide (a<b))))
 | .leq,.mk (a,b)=>K (.v (.bool (decide (a<=b))))
 | .gtr,.mk (a,b)=>K (.v (.bool (decide (b<a))))
 | .geq,.mk (a,b)=>K (.v (.bool (decide (b<=a))))
 | .shl,.mk (a,b)=>u (0<=b/\b<=k.bits)/\K (.v (.int k (k.wrap (a * 2 ^ b.toNat))))
 | .shr,.mk (a,b)=>u (0<=b/\b<=k.bits)/\K (.v (.int k (a / 2 ^ b.toNat)))
def oe {op:BinOp} {u:Prop->Prop} {K:SV->Prop} (x:A (op,u,K) (List UInt8×List UInt8)):Prop:=
 match op,x with
 | .add,.mk (a,b)=>u (a.length+b.length<=9223372036854775807)/\K (.v (.string (bs (a++b))))
 | .eql,.mk (a,b)=>K (.v (.bool (decide (a=b))))
 | .neq,.mk (a,b)=>K (.v (.bool (!decide (a=b))))
 | .lss,.mk (a,b)=>K (.v (.bool (Op.bytesLess a b)))
 | .geq,.mk (a,b)=>K (.v (.bool (!Op.bytesLess a b)))
 |_,_=>False
def kj:SV->SV->Option Bool
 | .v (.int k a),.v (.int k' b)=>if k=k' then some (decide (a=b)) else none
 | .v (.string a),.v (.string b)=>some (decide (tl a=tl b))
 | .v (.bool a),.v (.bool b)=>some (a==b)
 |_,_=>none
def gj:List SV->List SV->Option Bool
 |[],[]=>some true
 |a::x,b::y=>(kj a b).bind fun e=>(gj x y).map fun r=>e&&r
 |_,_=>none
def iL:SV->Option (List SV)
 | .agg cs=>some cs
 | .v (.agg ⟨l⟩)=>some (l.map .v)
 | .tup _=>none
 | .v (.tuple _)=>none
 |s=>some [s]
def lh:SV->Option (List SV)
 | .agg cs=>some cs
 | .v (.agg ⟨l⟩)=>some (l.map .v)
 |_=>none
def kr:SV->SV->Bool
 | .v (.int k _),.v (.int k' _)=>decide (k=k')
 | .v (.string _),.v (.string _)=>true
 | .v (.bool _),.v (.bool _)=>true
 |_,_=>false
def jd:List SV->List SV->Bool
 |[],[]=>true
 |z::zs,x::xs=>kr z x&&jd zs xs
 |_,_=>false
def sd (z:Option (List SV)) (xs:List SV):Bool:=
 match z with
 |some zs=>jd zs xs
 |none=>false
def wj (P:Program) (t:TypeId):Prop:=
 ∀(xs ys:List Value) (b:Bool) (w:World) (o o' :Operand) (op:BinOp),gj (xs.map .v) (ys.map .v)=some b->sd (cU P t) (xs.map .v)=true->
  (eqGuard op t o o' (.agg xs.toArray) (.agg ys.toArray)).run P w= .ok () w/\(Op.equal t (.agg xs.toArray) (.agg ys.toArray)).run P w= .ok b w
def mP {op:BinOp} {K:SV->Prop} (x:A (op,K) Bool):Prop:=
 match op,x with
 | .eql,.mk b=>K (.v (.bool b))
 | .neq,.mk b=>K (.v (.bool (!b)))
 |_,_=>False
def lM {P:Program} {op:BinOp} {t:TypeId} {u:Prop->Prop} {K:SV->Prop} (x:A (P,op,t,u,K) (SV×SV)):Prop:=
 match x with
 | .mk (.v (.int k a),.v (.int k' b))=>(op= .shl\/op= .shr\/k=k')/\fI (.mk (k:=(op,k,u,K)) (a,b))
 | .mk (.v (.string a),.v (.string b))=>oe (.mk (k:=(op,u,K)) (tl a,tl b))
 | .mk (.v (.bool a),.v (.bool b))=>P.underlying t=some .bool/\mP (.mk (k:=(op,K)) (a==b))
 | .mk (.agg xs,y)=>wj P t/\sd (cU P t) xs=true/\az (.mk (k:=fun b=>mP (.mk (k:=(op,K)) b)) ((lh y).bind fun ys=>gj xs ys))
 | .mk (.v (.agg xs),y)=>wj P t/\sd (cU P t) (xs.toList.map .v)=true/\az (.mk (k:=fun b=>mP (.mk (k:=(op,K)) b)) ((lh y).bind fun ys=>gj (xs.toList.map .v) ys))
 | .mk (.v (.slice a _ _),.v (.slice none 0 0))=>op= .eql/\(eb P t).isSome=true/\K (.v (.bool a.isNone))
 |_=>False
def bc (a:Option Addr) (o:Nat):Value:= .pointer (a.map (·.add o))
def vr (x:Value) (o:Nat):Value:=match x with | .pointer a=>bc a o |x=>x
def mI (x:Value):Prop:=∃a,x= .pointer (some a)
def o6:Value->Bool
 | .pointer none | .nilIface | .nilFunc=>false
 | .func (.func _) _ _=>true
 | .func _ _ _=>false
 |_=>true
def Rd (m:Mem) (x:Value) (cs:List Value):Prop:=
 ∃a,x= .pointer (some a)/\a.spot=none/\∀j,j<cs.length->m.w.cell? (a.add j)=cs[j]? /\a.off+j<m.D a.block
def bO (a:Option Addr) (n:Nat) (i:Int):Prop:=0<=i/\i<n/\a≠none
def ax (m:Mem) (a:Option Addr) (n sz:Nat) (xs:List Value):Prop:=
 xs.length=n * sz/\(0<n->∃ad,a=some ad/\ad.spot=none/\∀j,j<n * sz->m.w.cell? (ad.add j)=xs[j]? /\ad.off+j<m.D ad.block)
def gA (a:Option Addr) (c l h sz:Nat):Value:= .slice (if c=l then a else a.map (·.add (l * sz))) (h - l) (c - l)
def qE (l:List UInt8):List Value:=l.map fun b=> .int .u8 b.toNat
def lF:SV->Option SV
 | .v x=>some (.v x)
 | .box k o=>some (.box k o)
 | .vec k u=>some (.vec k u)
 | .vp k u o=>some (.vp k u o)
 | .vo k u o z=>some (.vo k u o z)
 | .mp k=>some (.mp k)
 | .mv f k o=>some (.mv f k o)
 | .sl k n c=>some (.sl k n c)
 | .cl f ks=>some (.cl f ks)
 | .agg _=>none
 | .tup _=>none
def rG (cs:List SV) (off:Nat):Option Nat->Option SV
 |none=>(cs[off]?).bind lF
 |some n=>if off+n<=cs.length then some (.agg ((cs.drop off).take n)) else none
def iA (cs:List SV) (off:Nat):List SV->List SV
 |[]=>cs
 |c::r=>iA (cs.set off c) (off+1) r
inductive PM where |and |or |gen
def yh:Operand->Operand->PM
 |_,.const (.bool false)=> .and
 | .const (.bool true),_=> .or
 |_,_=> .gen
def pY {md:PM} {K:SV->Prop} (x:A (md,K) (Bool×SV×SV)):Prop:=
 match md,x with
 | .and,.mk (c,.v (.bool a),.v (.bool false))=>K (.v (.bool (c&&a)))
 | .or,.mk (c,.v (.bool true),.v (.bool b))=>K (.v (.bool (c||b)))
 | .gen,.mk (c,.v (.bool a),.v (.bool b))=>K (.v (.bool (bif c then a else b)))
 |_,_=>False
def mi (o:Option SV) (d:Int):Option Int:=
 match o with
 |none=>some d
 |some (.v (.int _ n))=>some n
 |_=>none
def tI (st:LS) (p:ba) (o:Option Operand):Option (Option SV):=
 match o with
 |none=>some none
 |some x=>(bM st p x).map some
def rC (P:Program) (t:TypeId) (st:LS) (p:ba):List (Nat×Operand)->List SV->Option (List SV)
 |[],cs=>some cs
 |(i,x)::r,cs=>(a8 P t i).bind fun fo=>((bM st p x).bind iL).bind fun l=>
   if l.length=fo.2.2 then(if fo.1+l.length<=cs.length then rC P t st p r (iA cs fo.1 l) else none) else none
def fP (P:Program) (t:TypeId):Bool:=
 match P.underlying t with
 |some (.struct fs)=>fs.toList.all fun x=>(P.info? x.type).isSome
 |_=>false
def qp {u:Prop->Prop} {K:SV->Prop} (x:A (u,K) SV):Prop:=
 match x with
 | .mk (.v x)=>u (o6 x=true)/\K (.v x)
 | .mk (.box k o)=>K (.box k o)
 |_=>False
def qF {op:UnOp} {u:Prop->Prop} {K:SV->Prop} (x:A (op,u,K) SV):Prop:=
 match op,x with
 | .not,.mk (.v (.bool b))=>K (.v (.bool (!b)))
 | .neg,.mk (.v (.int k n))=>arith (.mk (k:=(k,u,K)) (0 - n))
 |_,_=>False
def LZ (v:Value):Prop:=v= .nilIface\/∃t x,v= .iface t x
def vu:Value->Bool
 | .nilIface=>true
 |_=>false
def Eu (P:Program) (t:TypeId):Bool:=
 match P.underlying t with
 |some (.interface _)=>true
 |_=>false
def rJ {P:Program} {op:BinOp} {t:TypeId} {u:Prop->Prop} {K:SV->Prop} (x:A (P,op,t,u,K) SV):Prop:=
 match x with
 | .mk (.v v)=>Eu P t=true/\u (LZ v)/\mP (.mk (k:=(op,K)) (vu v))
 |_=>False
def nQ {u:Prop->Prop} {K:SV->Prop} (x:A (u,K) (LS×CvK×SV)):Prop:=
 match x with
 | .mk (_,.int k,.v (.int _ n))=>K (.v (.int k (k.wrap n)))
 | .mk (_,.same,.v (.string s))=>K (.v (.string s))
 | .mk (st,.b2s,.vec k v)=>az (.mk (k:=fun b:Vc=>∃l,u (b.sz=1/\b.xs=qE l)/\K (.v (.string (bs l)))) (cq st.vc k v))
 | .mk (st,.b2s,.v (.slice a n _))=>∃l,u (ax st.m a n 1 (qE l))/\K (.v (.string (bs l)))
 |_=>False
def oX {u:Prop->Prop} {K:SV->Prop} (x:A (u,K) (LS×SV×Nat)):Prop:=
 match x with
 | .mk (_,.box k o,f)=>K (.box k (o+f))
 | .mk (st,.vp k v o,f)=>az (.mk (k:=fun b:Vc=>u (o<b.xs.length)/\K (.vp k v (o+f))) (cq st.vc k v))
 | .mk (_,.v x,f)=>u (mI x)/\K (.v (vr x f))
 |_=>False
def oW {P:Program} {u:Prop->Prop} {K:SV->Prop} (x:A (P,u,K) (LS×TypeId×SV×SV)):Prop:=
 match x with
 | .mk (_,e,.v (.slice a n _),.v (.int _ i))=>0<aK P e/\u (bO a n i)/\K (.v (bc a (i.toNat * aK P e)))
 | .mk (_,e,.sl k n _,.v (.int _ i))=>0<aK P e/\u (0<=i/\i<n)/\K (.box k (i.toNat * aK P e))
 | .mk (st,e,.vec k v,.v (.int _ i))=>az (.mk (k:=fun b:Vc=>0<aK P e/\u (0<=i/\i<b.n/\b.sz=aK P e)/\K (.vp k v (i.toNat * aK P e))) (cq st.vc k v))
 |_=>False
def sw {P:Program} {t:TypeId} {u:Prop->Prop} {K:SV->Prop} (x:A (P,t,u,K) (SV×SV)):Prop:=
 match x with
 | .mk (.v (.string s),.v (.int _ i))=>P.underlying t=some .string/\u (0<=i/\i<(tl s).length)/\K (.v (.int .u8 ((tl s).getD i.toNat 0).toNat))
 |_=>False
def EI {s:List UInt8} {u:Prop->Prop} {K:SV->Prop} (x:A (s,u,K) (Int×Int)):Prop:=
 match x with
 | .mk (l,h)=>u (0<=l/\l<=h/\h<=s.length)/\K (.v (.string (bs ((s.take h.toNat).drop l.toNat))))
def ph {P:Program} {t:TypeId} {u:Prop->Prop} {K:SV->Prop} (x:A (P,t,u,K) (LS×SV×Option SV×Option SV)):Prop:=
 match x with
 | .mk (_,.v (.string s),lo,hi)=>P.underlying t=some .string/\
   az (.mk (k:=fun l:Int=>az (.mk (k:=fun h:Int=>EI (.mk (k:=(tl s,u,K)) (l,h))) (mi hi (tl s).length))) (mi lo 0))
 | .mk (_,.v (.slice a n c),lo,hi)=>az (.mk (k:=fun l:Int=>az (.mk (k:=fun h:Int=>az (.mk (k:=fun e:TypeId=>
   0<aK P e/\u (0<=l/\l<=h/\h<=c)/\K (.v (gA a c l.toNat h.toNat (aK P e)))) (eb P t))) (mi hi n))) (mi lo 0))
 | .mk (st,.vec k v,lo,none)=>az (.mk (k:=fun l:Int=>az (.mk (k:=fun b:Vc=>az (.mk (k:=fun e:TypeId=>
   0<aK P e/\u (0<=l/\l<=b.n)/\K (.vo k v l.toNat (aK P e))) (eb P t))) (cq st.vc k v))) (mi lo 0))
 |_=>False
def ub {m:Mem} {x:Value} {u:Prop->Prop} {K:SV->Prop} (ag:A (m,x,u,K) (Option Nat)):Prop:=
 match ag with
 | .mk none=>∃c,u (Rd m x [c])/\K (.v c)
 | .mk (some n)=>∃cs,u (Rd m x cs/\cs.length=n)/\K (.v (.agg ⟨cs⟩))
def tG {b:Vc} {o:Nat} {u:Prop->Prop} {K:SV->Prop} (ag:A (b,o,u,K) (Option Nat)):Prop:=
 match ag with
 | .mk none=>u (o<b.xs.length)/\K (.v (b.xs.getD o undef))
 | .mk (some n)=>0<n/\u (o+n<=b.xs.length)/\K (.v (.agg ⟨(b.xs.drop o).take n⟩))
def lB {P:Program} {t:TypeId} {u:Prop->Prop} {K:SV->Prop} (x:A (P,t,u,K) (LS×SV)):Prop:=
 match x with
 | .mk (st,.box k o)=>az (.mk (k:=fun b:Bx=>(b.ty<gn)/\az (.mk (k:=fun ag:Option Nat=>az (.mk (k:=K) (rG b.cs o ag))) (cC P t))) (dt st.bx k))
 | .mk (st,.vp k v o)=>az (.mk (k:=fun b:Vc=>az (.mk (k:=fun ag:Option Nat=>tG (.mk (k:=(b,o,u,K)) ag)) (cC P t))) (cq st.vc k v))
 | .mk (st,.v x)=>az (.mk (k:=fun ag:Option Nat=>ub (.mk (k:=(st.m,x,u,K)) ag)) (cC P t))
 |_=>False
def iS:SV->Option SV
 | .v x=>some (.v x)
 | .box k o=>some (.box k o)
 | .vec k u=>some (.vec k u)
 | .vp k u o=>some (.vp k u o)
 | .vo k u o z=>some (.vo k u o z)
 | .mp k=>some (.mp k)
 | .mv f k o=>some (.mv f k o)
 | .sl k n c=>some (.sl k n c)
 | .cl f ks=>some (.cl f ks)
 | .agg cs=>some (.agg cs)
 | .tup _=>none
def qq {K:SV->Prop} (x:A K (SV×Nat)):Prop:=
 match x with
 | .mk (.tup l,i)=>az (.mk (k:=K) (l[i]?.bind iS))
 | .mk (.v (.tuple ⟨l⟩),i)=>az (.mk (k:=K) (l[i]?.map .v))
 |_=>False
def n9 {P:Program} {t:TypeId} {K:SV->Prop} (x:A (P,t,K) (LS×SV)):Prop:=
 match x with
 | .mk (_,.v (.string s))=>P.underlying t=some .string/\K (.v (.int .i64 (tl s).length))
 | .mk (_,.v (.slice _ n _))=>az (.mk (k:=fun _:TypeId=>K (.v (.int .i64 n))) (eb P t))
 | .mk (st,.vec k v)=>az (.mk (k:=fun _:TypeId=>az (.mk (k:=fun b:Vc=>K (.v (.int .i64 b.n))) (cq st.vc k v))) (eb P t))
 | .mk (_,.sl _ n _)=>az (.mk (k:=fun _:TypeId=>K (.v (.int .i64 n))) (eb P t))
 |_=>False
def rT {K:SV->Prop} (x:A K (SV×SV)):Prop:=
 match x with
 | .mk (.v (.int k a),.v (.int _ b))=>K (.v (.int k (if b<a then b else a)))
 |_=>False
def rU {K:SV->Prop} (x:A K (SV×SV)):Prop:=
 match x with
 | .mk (.v (.int k a),.v (.int _ b))=>K (.v (.int k (if a<b then b else a)))
 |_=>False
def mx (a b:Int):Int:=if a<b then b else a
def rK {K:SV->Prop} (x:A K (SV×SV×SV×SV)):Prop:=
 match x with
 | .mk (.v (.int k a),.v (.int _ b),.v (.int _ c),.v (.int _ d))=>K (.v (.int k (mx (mx (mx a b) c) d)))
 |_=>False
def pX {p:ba} {a b:Operand} {st:LS} {g:Gd} {K:SV->Prop} (x:A (p,a,b,st,g,K) PM):Prop:=
 match g,x with
 |⟨i,_,q,.lit true⟩,_=>ku q p=true/\az (.mk (k:=K) (bM st ((i,true)::q) a))
 |⟨i,_,q,.lit false⟩,_=>ku q p=true/\az (.mk (k:=K) (bM st ((i,false)::q) b))
 |⟨i,_,q,.sym c⟩,.mk md=>ku q p=true/\
   az (.mk (k:=fun x:SV=>az (.mk (k:=fun y:SV=>pY (.mk (k:=(md,K)) (c,x,y))) (bM st ((i,false)::q) b))) (bM st ((i,true)::q) a))
open Classical in
noncomputable def gK:List Value->Value->Option Value
 |k::v::r,s=>if k=s then some v else gK r s
 |_,_=>none
open Classical in
noncomputable def oY:List Value->Value->Value->List Value
 |k::v::r,s,x=>if k=s then k::x::r else k::v::oY r s x
 |_,s,x=>[s,x]
def zi:Option Value->Bool
 |some (.bool b)=>b
 |_=>false
def dM (P:Program) (t:TypeId):Nat×Option Value:=
 match P.underlying t with
 |some (.map k e)=>(match P.underlying k,P.underlying e with
  |some .string,some .bool=>(1000000,none)
  |some .string,_=>(1000002,some (((P.info? e).bind (·.zero)).getD undef))
  |_,some .bool=>(1000001,none)
  |_,_=>(0,none))
 |_=>(0,none)
def dF (g:Nat) (v:Value):Prop:=if g=1000001 then ∃s n,v= .agg ⟨[.string s,.int .i64 n]⟩ else ∃s,v= .string s
def gp (g:Nat) (v:Value):Prop:=if g=1000002 then True else ∃b,v= .bool b
open Classical in
noncomputable def sE:List MapEntry->Value->Nat->Option (Nat×Value)
 |[],_,_=>none
 |e::es,s,i=>if e.key=s then some (i,e.val) else sE es s (i+1)
def oT (P:Program) (t:TypeId):Prop:=
 gn<=(dM P t).1/\∃k e,P.underlying t=some (.map k e)/\
  (∀w key em n,dF (dM P t).1 key->(Instr.checkKey em (n+2) k key).run P w= .ok () w)/\
  (∀w key es,dF (dM P t).1 key->(∀x∈es,dF (dM P t).1 x.key)->(Instr.findKey k key es).run P w= .ok (sE es key 0) w)/\
  (∀w,(zeroValue e).run P w= .ok ((dM P t).2.getD (.bool false)) w)
def plain:SV->Option Value
 | .v x=>some x
 |_=>none
def jJ:List SV->Option (List Value)
 |[]=>some []
 |s::r=>(plain s).bind fun x=>(jJ r).map (x:: ·)
def ls:SV->Option Value
 | .v x=>some x
 | .agg cs=>(jJ cs).map fun l=> .agg ⟨l⟩
 |_=>none
def iB (l:List (Value×Value)):List Value:=l.flatMap fun x=>[x.1,x.2]
def ny (m:Mem) (g:Nat) (y:Value) (l:List Value):Prop:=
 ∃b es fy ps,y= .map (some b)/\m.w.heap[b]? =some (.map es fy)/\0<m.D b/\l=iB ps/\es.toList.map (fun e=>(e.key,e.val))=ps/\∀x∈ps,dF g x.1/\gp g x.2
def n8 {l:List Value} {key:Value} {K:SV->Prop} (x:A (l,key,K) (Bool×Option Value)):Prop:=
 match x with
 | .mk (false,none)=>K (.v (.bool (zi (gK l key))))
 | .mk (false,some z)=>(∀v,gK l key=some v->K (.v v))/\(gK l key=none->K (.v z))
 | .mk (true,some z)=>(∀v,gK l key=some v->K (.tup [.v v,.v (.bool true)]))/\(gK l key=none->K (.tup [.v z,.v (.bool false)]))
 |_=>False
def oV {P:Program} {t:TypeId} {c:Bool} {K:SV->Prop} (x:A (P,t,c,K) (LS×SV×Option Value)):Prop:=
 match x with
 | .mk (st,.mp k,some key)=>az (.mk (k:=fun b:Bx=>(b.ty==(dM P t).1)=true/\oT P t/\dF b.ty key/\az (.mk (k:=fun l:List Value=>n8 (.mk (k:=(l,key,K)) (c,(dM P t).2))) (jJ b.cs))) (dt st.bx k))
 | .mk (st,.v y,some key)=>oT P t/\dF (dM P t).1 key/\∃l,ny st.m (dM P t).1 y l/\n8 (.mk (k:=(l,key,K)) (c,(dM P t).2))
 |_=>False
def qOp {P:Program} {op:Op} {K:SV->Prop} (x:A (P,op,K) (LS×ba)):Prop:=
 match op,x with
 | .move x,.mk (st,p) | .assign x,.mk (st,p)=>az (.mk (k:=K) (bM st p x))
 | .pick (.tmp t) a b,.mk (st,p)=>az (.mk (k:=fun g:Gd=>pX (.mk (k:=(p,a,b,st,g,K)) (yh a b))) (vV st.rho t))
 | .nilCheck x,.mk (st,p)=>az (.mk (k:=fun s:SV=>qp (.mk (k:=(lO st p,K)) s)) (bM st p x))
 | .binOp op t x (.const .nilIface) _,.mk (st,p)=>az (.mk (k:=fun a:SV=>rJ (.mk (k:=(P,op,t,lO st p,K)) a)) (bM st p x))
 | .binOp op t x y _,.mk (st,p)=>az (.mk (k:=fun a:SV=>az (.mk (k:=fun b:SV=>lM (.mk (k:=(P,op,t,lO st p,K)) (a,b))) (bM st p y))) (bM st p x))
 | .unOp op _ x,.mk (st,p)=>az (.mk (k:=fun s:SV=>qF (.mk (k:=(op,lO st p,K)) s)) (bM st p x))
 | .convert src dst x,.mk (st,p)=>az (.mk (k:=fun s:SV=>nQ (.mk (k:=(lO st p,K)) (st,oD P src dst,s))) (bM st p x))
 | .fieldAddr s x f,.mk (st,p)=>az (.mk (k:=fun a:SV=>az (.mk (k:=fun fo:Nat×Option Nat×Nat=>oX (.mk (k:=(lO st p,K)) (st,a,fo.1))) (a8 P s f))) (bM st p x))
 | .field s x f,.mk (st,p)=>az (.mk (k:=fun cs:List SV=>az (.mk (k:=fun fo:Nat×Option Nat×Nat=>az (.mk (k:=K) (rG cs fo.1 fo.2.1))) (a8 P s f))) ((bM st p x).bind lh))
 | .indexAddr t x i,.mk (st,p)=>az (.mk (k:=fun a:SV=>az (.mk (k:=fun i:SV=>az (.mk (k:=fun e:TypeId=>oW (.mk (k:=(P,lO st p,K)) (st,e,a,i))) (eb P t))) (bM st p i))) (bM st p x))
 | .index t x i,.mk (st,p)=>az (.mk (k:=fun a:SV=>az (.mk (k:=fun i:SV=>sw (.mk (k:=(P,t,lO st p,K)) (a,i))) (bM st p i))) (bM st p x))
 | .slice t x lo hi none,.mk (st,p)=>az (.mk (k:=fun a:SV=>az (.mk (k:=fun lo:Option SV=>az (.mk (k:=fun hi:Option SV=>ph (.mk (k:=(P,t,lO st p,K)) (st,a,lo,hi))) (tI st p hi))) (tI st p lo))) (bM st p x))
 | .load t a,.mk (st,p)=>az (.mk (k:=fun a:SV=>lB (.mk (k:=(P,t,lO st p,K)) (st,a))) (bM st p a))
 | .extract x i,.mk (st,p)=>az (.mk (k:=fun a:SV=>qq (.mk (k:=K) (a,i))) (bM st p x))
 | .build t parts,.mk (st,p)=>fP P t=true/\az (.mk (k:=fun z:List SV=>az (.mk (k:=fun cs:List SV=>K (.agg cs)) (rC P t st p parts.toList z))) (cU P t))
 | .call {callee:= .builtin .len,args:=⟨[x]⟩,argTypes:=⟨[t]⟩},.mk (st,p)=>az (.mk (k:=fun a:SV=>n9 (.mk (k:=(P,t,K)) (st,a))) (bM st p x))
 | .call {callee:= .builtin .min,args:=⟨[x,y]⟩,..},.mk (st,p)=>az (.mk (k:=fun a:SV=>az (.mk (k:=fun b:SV=>rT (.mk (k:=K) (a,b))) (bM st p y))) (bM st p x))
 | .lookup t x i c,.mk (st,p)=>az (.mk (k:=fun a:SV=>az (.mk (k:=fun i:SV=>oV (.mk (k:=(P,t,c,K)) (st,a,ls i))) (bM st p i))) (bM st p x))
 | .call {callee:= .builtin .max,args:=⟨[x,y]⟩,..},.mk (st,p)=>az (.mk (k:=fun a:SV=>az (.mk (k:=fun b:SV=>rU (.mk (k:=K) (a,b))) (bM st p y))) (bM st p x))
 | .call {callee:= .builtin .max,args:=⟨[x,y,z,u]⟩,..},.mk (st,p)=>az (.mk (k:=fun a:SV=>az (.mk (k:=fun b:SV=>az (.mk (k:=fun c:SV=>az (.mk (k:=fun d:SV=>rK (.mk (k:=K) (a,b,c,d))) (bM st p u))) (bM st p z))) (bM st p y))) (bM st p x))
 |_,_=>False
structure Hd where
 a:Option Addr
 n:Nat
 c:Nat
def Hd.val (h:Hd):Value:= .slice h.a h.n h.c
structure Vl where
 β:Nat->Nat
 γ:Nat->Nat->Hd
def aH (V:Vl):SV->Value
 | .v x=>x
 | .box k o=> .pointer (some ⟨V.β k,o,none⟩)
 | .vec k u=>(V.γ k u).val
 | .vp k u o=> .pointer ((V.γ k u).a.map (·.add o))
 | .vo k u o z=>gA (V.γ k u).a (V.γ k u).c o (V.γ k u).n z
 | .mp k=> .map (some (V.β k))
 | .mv f k o=> .func (.func f) ⟨[.pointer (some ⟨V.β k,o,none⟩)]⟩ ⟨[]⟩
 | .sl k n c=> .slice (some ⟨V.β k,0,none⟩) n c
 | .cl f ks=> .func (.func f) ⟨[]⟩ ⟨ks.map fun k=> .pointer (some ⟨V.β k,0,none⟩)⟩
 |_=>undef
def fH (V:Vl):SV->Value
 | .agg cs=> .agg ⟨cs.map (aH V)⟩
 |s=>aH V s
def den (V:Vl):SV->Value
 | .tup l=> .tuple ⟨l.map (fH V)⟩
 |s=>fH V s
def mw (d:Nat) (o o' :Option Obj):Prop:=
 match o with
 |some (.cells c _ _)=>∃c' t' f',o' =some (.cells c' t' f')/\∀j,j<d->c'[j]? =c[j]?
 |o=>o' =o
def Mem.le (m m' :Mem):Prop:=∀b,m.D b<=m'.D b/\(0<m.D b->b<m.w.heap.size/\mw (m.D b) m.w.heap[b]? m'.w.heap[b]?)
def Hd.blk (h:Hd):Option Nat:=h.a.map (·.block)
def gL (ty:TypeId) (vs:List Value) (o:Obj):Prop:=
 if ty<gn then o= .cells ⟨vs⟩ ty (0,0)
 else ∃es fy l,o= .map es fy/\vs=iB l/\es.toList.map (fun e=>(e.key,e.val))=l/\∀x∈l,dF ty x.1/\gp ty x.2
theorem Vx (s:ByteArray):dF 1000000 (.string s)=True:=eq_true (by unfold dF;rw[aa (by decide)];exact⟨s,rfl⟩)
theorem Kz (s:ByteArray) (n:Int):dF 1000001 (.agg ⟨[.string s,.int .i64 n]⟩)=True:=eq_true (by unfold dF;rw[ai rfl];exact⟨s,n,rfl⟩)
theorem Ky (s:ByteArray):dF 1000002 (.string s)=True:=eq_true (by unfold dF;rw[aa (by decide)];exact⟨s,rfl⟩)
theorem UY (b:Bool):gp 1000000 (.bool b)=True:=eq_true (by unfold gp;rw[aa (by decide)];exact⟨b,rfl⟩)
theorem UX (b:Bool):gp 1000001 (.bool b)=True:=eq_true (by unfold gp;rw[aa (by decide)];exact⟨b,rfl⟩)
theorem Kl (v:Value):gp 1000002 v=True:=eq_true (by unfold gp;rw[ai rfl];trivial)
def zN (V:Vl) (D:Nat->Nat) (w:World) (b:Bx):Prop:=
 (∃o,w.heap[V.β b.id]? =some o/\gL b.ty (b.cs.map (aH V)) o)/\D (V.β b.id)=0
def uP (V:Vl) (D:Nat->Nat) (w:World) (b:Vc):Prop:=
 w.ownsRow 0 b.el b.sz (V.γ b.id b.ver).val b.n b.xs/\(∀g,(V.γ b.id b.ver).blk=some g->D g<=b.n * b.sz)/\0<b.sz/\∀u∈b.xs,u.oneCell' =true
def aE (V:Vl) (H:Hp):List Nat:=H.bx.map (fun b=>V.β b.id)++H.vc.filterMap fun b=>(V.γ b.id b.ver).blk
structure HSat (V:Vl) (D:Nat->Nat) (w:World) (H:Hp):Prop where
 bx:∀b∈H.bx,zN V D w b
 vc:∀b∈H.vc,uP V D w b
 apart:(aE V H).Nodup
 uniq:(H.vc.map (·.id)).Nodup
structure Frm (F:Nat->Prop) (w:World) (D:Nat->Nat) (w' :World) (D' :Nat->Nat):Prop where
 os:w'.os=w.os
 tape:w'.tape=w.tape
 output:w'.output=w.output
 size:w.heap.size<=w'.heap.size
 same:∀b,b<w.heap.size->¬F b->w'.heap[b]? =w.heap[b]? /\D' b=D b
def Wf (w:World) (D:Nat->Nat):Prop:=∀b,w.heap.size<=b->D b=0
def FnH (P:Program) (f:FuncId) (args:List SV) (H:Hp) (m:Mem) (R:SV->Hp->Mem->Prop):Prop:=
 ∀(V:Vl) (w:World) (D:Nat->Nat),Wf w D->m.le ⟨w,D⟩->HSat V D w H->
  Calls P f ⟨args.map (den V)⟩ w fun e w' =>∃(r:SV) (V' :Vl) (D' :Nat->Nat) (H' :Hp) (m' :Mem),
   e= .returned (den V' r)/\Wf w' D' /\HSat V' D' w' H' /\(∀b∈H.bx,V'.β b.id=V.β b.id)/\(∀b∈H.vc,∀u,u<=b.ver->V'.γ b.id u=V.γ b.id u)/\
   Frm (· ∈aE V H) w D w' D' /\(∀b∈aE V' H',b∈aE V H\/w.heap.size<=b)/\
   Mem.le ⟨w,D⟩ ⟨w',D'⟩/\m.le m' /\m'.le ⟨w',D'⟩/\R r H' m'
structure Ctx where
 w0:World
 D0:Nat->Nat
 F:Nat->Prop
 H0:Hp
 V0:Vl
 m0:Mem
def dV (rho:List Gd) (p:ba):Prop:=∀x∈p,∃g,ek rho x.1=some g
def aY:List Vc->Nat->Nat->Prop
 |[],_,_=>True
 |⟨k',u',_,_,_,_⟩::r,k,u=>if k' =k then u<=u' else aY r k u
def sC (nid:Nat):List Nat->Prop
 |[]=>True
 |k::r=>k<nid/\sC nid r
def gQ (nid:Nat) (vc:List Vc):SV->Prop
 | .v _=>True
 | .box k _=>k<nid
 | .vec k u=>k<nid/\aY vc k u
 | .vp k u _=>k<nid/\aY vc k u
 | .vo k u _ _=>k<nid/\aY vc k u
 | .mp k=>k<nid
 | .mv _ k _=>k<nid
 | .sl k _ _=>k<nid
 | .cl _ ks=>sC nid ks
 | .agg _=>True
 | .tup _=>True
def cL (nid:Nat) (vc:List Vc):List SV->Prop
 |[]=>True
 |s::r=>gQ nid vc s/\cL nid vc r
def okB (nid:Nat) (vc:List Vc):SV->Prop
 | .agg cs=>cL nid vc cs
 |s=>gQ nid vc s
def ue (nid:Nat) (vc:List Vc):List SV->Prop
 |[]=>True
 |s::r=>okB nid vc s/\ue nid vc r
def fb (nid:Nat) (vc:List Vc):SV->Prop
 | .tup l=>ue nid vc l
 |s=>okB nid vc s
structure SatF (n:Nat) (env:List Ev) (rho:List Gd) (a:Act) (V:Vl):Prop where
 defers:a.defers=[]
 size:a.tmps.size=n
 pth:∀e∈env,dV rho e.p
 env:∀t p s,dV rho p->dP env t p=some s->bC rho p=true->a.tmps[t]? =some (den V s)
 rho:∀g∈rho,ek rho g.i=some g/\dV rho g.p/\a.tmps[g.slot]? =some (if bC rho g.p=true then .bool g.b.val else undef)
structure SatW (C:Ctx) (bx:List Bx) (vc:List Vc) (nid:Nat) (m:Mem) (V:Vl) (D:Nat->Nat) (w:World):Prop where
 heap:HSat V D w ⟨bx,vc⟩
 wf:Wf w D
 frm:Frm C.F C.w0 C.D0 w D
 own:∀b∈aE V ⟨bx,vc⟩,C.F b\/C.w0.heap.size<=b
 baseB:∀b∈C.H0.bx,V.β b.id=C.V0.β b.id/\b.id<nid
 baseV:∀b∈C.H0.vc,(∀u,u<=b.ver->V.γ b.id u=C.V0.γ b.id u)/\b.id<nid/\aY vc b.id b.ver
 ids:(∀b∈bx,b.id<nid/\cL nid vc b.cs)/\∀b∈vc,b.id<nid
 le0:Mem.le ⟨C.w0,C.D0⟩ ⟨w,D⟩
 m0:C.m0.le m
 mle:m.le ⟨w,D⟩
structure Sat (C:Ctx) (n:Nat) (st:LS) (a:Act) (V:Vl) (D:Nat->Nat) (w:World):Prop where
 f:SatF n st.env st.rho a V
 ids:∀e∈st.env,fb st.nid st.vc e.s
 w:SatW C st.bx st.vc st.nid st.m V D w
theorem Sat.env {C:Ctx} {n:Nat} {st:LS} {a:Act} {V:Vl} {D:Nat->Nat} {w:World} (h:Sat C n st a V D w):∀t p s,dV st.rho p->dP st.env t p=some s->bC st.rho p=true->a.tmps[t]? =some (den V s):=h.f.env
theorem Sat.rho {C:Ctx} {n:Nat} {st:LS} {a:Act} {V:Vl} {D:Nat->Nat} {w:World} (h:Sat C n st a V D w):∀g∈st.rho,ek st.rho g.i=some g/\dV st.rho g.p/\a.tmps[g.slot]? =some (if bC st.rho g.p=true then .bool g.b.val else undef):=h.f.rho
theorem Sat.heap {C:Ctx} {n:Nat} {st:LS} {a:Act} {V:Vl} {D:Nat->Nat} {w:World} (h:Sat C n st a V D w):HSat V D w ⟨st.bx,st.vc⟩:=h.w.heap
theorem Sat.mle {C:Ctx} {n:Nat} {st:LS} {a:Act} {V:Vl} {D:Nat->Nat} {w:World} (h:Sat C n st a V D w):st.m.le ⟨w,D⟩:=h.w.mle
def jg (C:Ctx) (n:Nat) (st:LS) (a:Act) (w:World):Prop:=st.rho=[]/\∃V D,Sat C n st a V D w
def WP (P:Program) (n:Nat) (c:Code) (Q:Exit->LS->Prop) (st:LS):Prop:=
 ∀(C:Ctx) (a:Act) (w:World),jg C n st a w->c.wp P (fun e a' w' =>∃af,jg C n af a' w' /\Q e af) a w
def jH {P:Program} {n:Nat} {c:Code} {Q:Exit->LS->Prop} (x:A (P,n,c,Q) LS):Prop:=match x with | .mk st=>WP P n c Q st
def Cq {P:Program} {f:FuncId} {R:SV->Hp->Mem->Prop} (x:A (P,f,R) (List SV×Hp×Mem)):Prop:=match x with | .mk (args,H,m)=>FnH P f args H m R
/-! Operations that act. -/
def s7:List SV->Option (List Value)
 |[]=>some []
 |s::r=>(ls s).bind fun x=>(s7 r).map (x:: ·)
def eP:List SV->Bool
 |[]=>true
 | .v x::r=>x.oneCell' &&eP r
 | .box _ _::r=>eP r
 | .vec _ _::r=>eP r
 | .vp _ _ _::r=>eP r
 | .vo _ _ _ _::r=>eP r
 | .mp _::r=>eP r
 | .mv _ _ _::r=>eP r
 | .sl _ _ _::r=>eP r
 | .cl _ _::r=>eP r
 | .agg _::_=>false
 | .tup _::_=>false
def fS:List Bx->Nat->List SV->List Bx
 |[],_,_=>[]
 |⟨k',t',bh⟩::r,k,cs=>if k' =k then⟨k',t',cs⟩::r else⟨k',t',bh⟩::fS r k cs
def gN:List Bx->Nat->List Bx
 |[],_=>[]
 |⟨k',t',bh⟩::r,k=>if k' =k then r else⟨k',t',bh⟩::gN r k
def gM:List Vc->Nat->List Vc
 |[],_=>[]
 |⟨k',u',e',z',n',x'⟩::r,k=>if k' =k then r else⟨k',u',e',z',n',x'⟩::gM r k
def gq:List Vc->Nat->Vc->List Vc
 |[],_,_=>[]
 |⟨k',u',e',z',n',x'⟩::r,k,x=>if k' =k then x::r else⟨k',u',e',z',n',x'⟩::gq r k x
def EE (xs:List Value) (off:Nat):List Value->List Value
 |[]=>xs
 |c::r=>EE (xs.set off c) (off+1) r
def Bn {st:LS} {K:Value->LS->Prop} (x:A (st,K) Vc):Prop:=
 match x with
 | .mk b=>∀(a:Option Addr) (c:Nat) (m1:Mem),st.m.le m1->b.n<=c->ax m1 a b.n b.sz b.xs->K (.slice a b.n c) ⟨st.env,st.rho,st.bx,st.vc,st.nid,m1⟩
def jr:List SV->(List SV->LS->Prop)->LS->Prop
 |[],K,st=>K [] st
 | .vec k u::r,K,st=>az (.mk (k:=fun b:Vc=>Bn (.mk (k:=(st,fun v af=>jr r (fun r' iV=>K (.v v::r') iV) af)) b)) (cq st.vc k u))
 | .v x::r,K,st=>jr r (fun r' af=>K (.v x::r') af) st
 | .box k o::r,K,st=>jr r (fun r' af=>K (.box k o::r') af) st
 | .vp k u o::r,K,st=>jr r (fun r' af=>K (.vp k u o::r') af) st
 | .vo k u o z::r,K,st=>jr r (fun r' af=>K (.vo k u o z::r') af) st
 | .mp k::r,K,st=>jr r (fun r' af=>K (.mp k::r') af) st
 | .mv f k o::r,K,st=>jr r (fun r' af=>K (.mv f k o::r') af) st
 | .sl k n c::r,K,st=>jr r (fun r' af=>K (.sl k n c::r') af) st
 | .cl f ks::r,K,st=>jr r (fun r' af=>K (.cl f ks::r') af) st
 | .agg cs::r,K,st=>jr r (fun r' af=>K (.agg cs::r') af) st
 | .tup cs::r,K,st=>jr r (fun r' af=>K (.tup cs::r') af) st
def fE {K:List SV->LS->Prop} (x:A K (LS×List SV)):Prop:=match x with | .mk (st,l)=>jr l K st
def yf:List SV->(List SV->LS->Prop)->LS->Prop
 |[],K,st=>K [] st
 | .agg cs::r,K,st=>jr cs (fun bh af=>yf r (fun r' iV=>K (.agg bh::r') iV) af) st
 |s::r,K,st=>jr [s] (fun s' af=>yf r (fun r' iV=>K (s' ++r') iV) af) st
def iX {K:List SV->LS->Prop} (x:A K (LS×List SV)):Prop:=match x with | .mk (st,l)=>yf l K st
def qk (acc:List Nat) (k:Nat):List Nat:=if acc.contains k=true then acc else acc++[k]
def A8:List Nat->List Nat->List Nat
 |acc,[]=>acc
 |acc,k::r=>A8 (qk acc k) r
def eD (acc:List Nat):List SV->List Nat
 |[]=>acc
 | .box k _::r=>eD (qk acc k) r
 | .vec k _::r=>eD (qk acc k) r
 | .vp k _ _::r=>eD (qk acc k) r
 | .vo k _ _ _::r=>eD (qk acc k) r
 | .mp k::r=>eD (qk acc k) r
 | .mv _ k _::r=>eD (qk acc k) r
 | .sl k _ _::r=>eD (qk acc k) r
 | .cl _ ks::r=>eD (A8 acc ks) r
 | .v _::r=>eD acc r
 | .agg _::r=>eD acc r
 | .tup _::r=>eD acc r
def cellsOf:Option Bx->List SV
 |some b=>b.cs
 |none=>[]
def kM (acc:List Nat):List SV->List Nat
 |[]=>acc
 | .agg cs::r=>kM (eD acc cs) r
 |s::r=>kM (eD acc [s]) r
def vX (bx:List Bx):List Nat->List Nat->List Nat
 |acc,[]=>acc
 |acc,k::r=>vX bx (eD acc (cellsOf (dt bx k))) r
def pM (bx:List Bx) (l:List Nat):List Nat:=vX bx (vX bx l l) (vX bx l l)
def idxOf:List Nat->Nat->Option Nat
 |[],_=>none
 |j::r,i=>if j=i then some 0 else(idxOf r i).map (· +1)
def eZ (L:List Nat) (base:Nat) (i:Nat):Nat:=((idxOf L i).map fun j=>j).getD (base+i)
def dq (L:List Nat) (base:Nat) (j:Nat):Nat:=(L[j]?).getD (base+j)
def ie (ρ:Nat->Nat):SV->SV
 | .box k o=> .box (ρ k) o
 | .vec k u=> .vec (ρ k) u
 | .vp k u o=> .vp (ρ k) u o
 | .vo k u o z=> .vo (ρ k) u o z
 | .mp k=> .mp (ρ k)
 | .mv f k o=> .mv f (ρ k) o
 | .sl k n c=> .sl (ρ k) n c
 | .cl f ks=> .cl f (ks.map ρ)
 | .v x=> .v x
 | .agg cs=> .agg cs
 | .tup cs=> .tup cs
def vP (ρ:Nat->Nat):SV->SV
 | .agg cs=> .agg (cs.map (ie ρ))
 |s=>ie ρ s
def qo (ρ:Nat->Nat):SV->SV
 | .tup l=> .tup (l.map (vP ρ))
 |s=>vP ρ s
def lA (ρ:Nat->Nat):Bx->Bx |⟨k,t,cs⟩=>⟨ρ k,t,cs.map (ie ρ)⟩
def gm (ρ:Nat->Nat):Vc->Vc |⟨k,u,e,z,n,xs⟩=>⟨ρ k,u,e,z,n,xs⟩
def jV:List Vc->Nat->Option Vc
 |[],_=>none
 |⟨k',u',e',z',n',x'⟩::r,i=>if k' =i then some ⟨k',u',e',z',n',x'⟩ else jV r i
def ef (L:List Nat):List Bx->List Bx
 |[]=>[]
 |⟨k',t',bh⟩::r=>if L.contains k' =true then⟨k',t',bh⟩::ef L r else ef L r
def dL (L:List Nat):List Vc->List Vc
 |[]=>[]
 |⟨k',u',e',z',n',x'⟩::r=>if L.contains k' =true then⟨k',u',e',z',n',x'⟩::dL L r else dL L r
def kh (L:List Nat):List Bx->List Bx
 |[]=>[]
 |⟨k',t',bh⟩::r=>if L.contains k' =true then kh L r else⟨k',t',bh⟩::kh L r
def jN (L:List Nat):List Vc->List Vc
 |[]=>[]
 |⟨k',u',e',z',n',x'⟩::r=>if L.contains k' =true then jN L r else⟨k',u',e',z',n',x'⟩::jN L r
def jw:List Bx->Nat |[]=>0 |⟨k,_,_⟩::r=>max (k+1) (jw r)
def jv:List Vc->Nat |[]=>0 |⟨k,_,_,_,_,_⟩::r=>max (k+1) (jv r)
structure Cfg where
 own:FuncId->Bool
 pure:FuncId->Option (Mem->List Value->Option (Prop×Value))
def rE (st:LS) (L:List Nat) (H' :Hp) (m' :Mem):LS:=
 ⟨st.env,st.rho,H'.bx.map (lA (dq L st.nid))++kh L st.bx,H'.vc.map (gm (dq L st.nid))++jN L st.vc,st.nid+max (jw H'.bx) (jv H'.vc),m'⟩
def zg:List Nat->Prop
 |[]=>True
 |k::r=>r.contains k=false/\zg r
def qH (n:Nat):List Nat->Prop
 |[]=>True
 |k::r=>k<n/\qH n r
def zj (L:List Nat):List Nat->Prop
 |[]=>True
 |k::r=>L.contains k=true/\zj L r
def kR (L:List Nat):SV->Prop
 | .v _=>True
 | .box k _=>L.contains k=true
 | .vec k _=>L.contains k=true
 | .vp k _ _=>L.contains k=true
 | .vo k _ _ _=>L.contains k=true
 | .mp k=>L.contains k=true
 | .mv _ k _=>L.contains k=true
 | .sl k _ _=>L.contains k=true
 | .cl _ ks=>zj L ks
 | .agg _=>True
 | .tup _=>False
def ng (L:List Nat):List SV->Prop
 |[]=>True
 |s::r=>kR L s/\ng L r
def BX (L:List Nat):SV->Prop
 | .agg cs=>ng L cs
 |s=>kR L s
def yJ (L:List Nat):List SV->Prop
 |[]=>True
 |s::r=>BX L s/\yJ L r
def vW (L:List Nat):List Bx->Prop
 |[]=>True
 |⟨_,_,cs⟩::r=>ng L cs/\vW L r
def EL (st:LS) (L:List Nat) (args:List SV):Prop:=zg L/\qH st.nid L/\yJ L args/\vW L (ef L st.bx)
def zL (nB:List Nat) (len:Nat):List Nat->Prop
 |[]=>True
 |j::r=>(if j<len then nB.contains j=true else True)/\zL nB len r
def lb (nB nV:List Nat) (len:Nat):SV->Prop
 | .v _=>True
 | .box j _=>if j<len then nB.contains j=true else True
 | .vec j _=>if j<len then nV.contains j=true else True
 | .vp j _ _=>if j<len then nV.contains j=true else True
 | .vo j _ _ _=>if j<len then nV.contains j=true else True
 | .mp j=>if j<len then nB.contains j=true else True
 | .mv _ j _=>if j<len then nB.contains j=true else True
 | .sl j _ _=>if j<len then nB.contains j=true else True
 | .cl _ ks=>zL nB len ks
 | .agg _=>True
 | .tup _=>True
def nw (nB nV:List Nat) (len:Nat):List SV->Prop
 |[]=>True
 |s::r=>lb nB nV len s/\nw nB nV len r
def zM (nB nV:List Nat) (len:Nat):SV->Prop
 | .agg cs=>nw nB nV len cs
 |s=>lb nB nV len s
def zK (nB nV:List Nat) (len:Nat):List SV->Prop
 |[]=>True
 |s::r=>zM nB nV len s/\zK nB nV len r
def Co (nB nV:List Nat) (len:Nat):SV->Prop
 | .tup l=>zK nB nV len l
 |s=>zM nB nV len s
def wg (nB nV:List Nat) (len:Nat):List Bx->Prop
 |[]=>True
 |⟨k,_,cs⟩::r=>(if k<len then nB.contains k=true else True)/\nw nB nV len cs/\wg nB nV len r
def we (nV:List Nat) (len:Nat):List Vc->Prop
 |[]=>True
 |⟨k,_,_,_,_,_⟩::r=>(if k<len then nV.contains k=true else True)/\we nV len r
def vD (nid:Nat) (vc:List Vc):List Bx->Prop
 |[]=>True
 |⟨_,_,cs⟩::r=>cL nid vc cs/\vD nid vc r
def yd (L:List Nat) (df:List Vc):List Vc->Prop
 |[]=>True
 |⟨k,u,_,_,_,_⟩::r=>(if L.contains k=true then aY df k u else True)/\yd L df r
def jR:List Bx->List Nat
 |[]=>[]
 |⟨k,_,_⟩::r=>k::jR r
def ju:List Vc->List Nat
 |[]=>[]
 |⟨k,_,_,_,_,_⟩::r=>k::ju r
def dU (st:LS) (L:List Nat):Hp:=⟨(ef L st.bx).map (lA (eZ L 0)),(dL L st.vc).map (gm (eZ L 0))⟩
def JF {L:List Nat} {r:SV} {H' :Hp} (x:A (L,r,H') (LS×LS×Hp)):Prop:=
 match x with
 | .mk (st,af,Hi)=>Co (jR Hi.bx) (ju Hi.vc) L.length r/\wg (jR Hi.bx) (ju Hi.vc) L.length H'.bx/\we (ju Hi.vc) L.length H'.vc/\
   fb af.nid af.vc (qo (dq L st.nid) r)/\vD af.nid af.vc (H'.bx.map (lA (dq L st.nid)))/\yd L (H'.vc.map (gm (dq L st.nid))) st.vc
def Eh (st:LS) (L:List Nat) (r:SV) (H' :Hp) (m' :Mem):Prop:=JF (.mk (k:=(L,r,H')) (st,rE st L H' m',dU st L))
def EC {P:Program} {f:FuncId} {st:LS} {args:List SV} {K:SV->LS->Prop} (x:A (P,f,st,args,K) (List Nat)):Prop:=
 match x with
 | .mk L=>EL st L args/\Cq (.mk (k:=(P,f,fun r H' m' =>Eh st L r H' m' /\K (qo (dq L st.nid) r) (rE st L H' m')))
   (args.map (qo (eZ L 0)),dU st L,st.m))
def yr {P:Program} {f:FuncId} {K:SV->LS->Prop} (x:A (P,f,K) (LS×List SV)):Prop:=
 match x with
 | .mk (st,args)=>EC (.mk (k:=(P,f,st,args,K)) (pM st.bx (kM [] args)))
def vM {P:Program} {f:FuncId} {st:LS} {args:List SV} {K:SV->LS->Prop} (x:A (P,f,st,args,K) Bool):Prop:=
 match x with
 | .mk true=>yr (.mk (k:=(P,f,K)) (st,args))
 | .mk false=>iX (.mk (k:=fun qj af=>yr (.mk (k:=(P,f,K)) (af,qj))) (st,args))
def oU (st:LS) (p:ba):List Operand->Option (List SV)
 |[]=>some []
 |x::r=>(bM st p x).bind fun s=>(oU st p r).map (s:: ·)
def lu (sz:Nat) (st:LS) (p:ba):List (Nat×Operand)->List SV->Option (List SV)
 |[],cs=>some cs
 |(i,x)::r,cs=>((bM st p x).bind iL).bind fun l=>if l.length=sz then(if i * sz+sz<=cs.length then lu sz st p r (iA cs (i * sz) l) else none) else none
def pQ (sz:Nat) (st:LS) (p:ba):Nat->List (Nat×Operand)->Option (List SV)
 |_,[]=>some []
 |i,(j,x)::r=>if j=i then((bM st p x).bind iL).bind fun l=>if l.length=sz then(pQ sz st p (i+1) r).map (l++ ·) else none else none
def xV (sz:Nat) (st:LS) (p:ba) (parts:List (Nat×Operand)) (len:Nat) (z:List SV):Option (List SV)->Option (List SV)
 |some cs=>if cs.length=len * sz then some cs else lu sz st p parts (List.replicate len z).flatten
 |none=>lu sz st p parts (List.replicate len z).flatten
def fD:Vc->Nat->List Value->Vc |⟨k,u,e,z,_,_⟩,n,xs=>⟨k,u+1,e,z,n,xs⟩
def room (n sR:Nat):Prop:=n * sR<=140737488355328/\n<=maxLen
def oN {P:Program} {tx:TypeId} {sz:Nat} {K:Nat->List Value->Prop} (x:A (P,tx,sz,K) (LS×SV)):Prop:=
 match x with
 | .mk (st,.vec k u)=>az (.mk (k:=fun _:TypeId=>az (.mk (k:=fun b:Vc=>b.sz=sz/\K b.n b.xs) (cq st.vc k u))) (eb P tx))
 | .mk (st,.v (.slice a n _))=>az (.mk (k:=fun _:TypeId=>∃xs,ax st.m a n sz xs/\(∀u∈xs,u.oneCell' =true)/\K n xs) (eb P tx))
 | .mk (_,.v (.string s))=>P.underlying tx=some .string/\sz=1/\K (tl s).length (qE (tl s))
 |_=>False
def rW {P:Program} {e tx:TypeId} {y:SV} {K:SV->LS->Prop} (x:A (P,e,tx,y,K) (LS×SV)):Prop:=
 match x with
 | .mk (st,.vec k u)=>az (.mk (k:=fun b:Vc=>b.sz=aK P e/\b.el=e/\0<aK P e/\az (.mk (k:=fun z:List SV=>z.length=aK P e/\oN (.mk (k:=(P,tx,aK P e,fun n xs=>room (b.n+n) (iH P e)/\
   K (.vec k (u+1)) ⟨st.env,st.rho,st.bx,gq st.vc k (fD b (b.n+n) (b.xs++xs)),st.nid,st.m⟩)) (st,y))) (cU P e))) (cq st.vc k u))
 | .mk (st,.sl k n c)=>az (.mk (k:=fun b:Bx=>b.ty=e/\e<gn/\0<aK P e/\(b.cs.length=c * aK P e/\n<=c/\c<=maxLen)/\az (.mk (k:=fun z:List SV=>z.length=aK P e/\oN (.mk (k:=(P,tx,aK P e,fun m xs=>room (n+m) (iH P e)/\
   ∀(c' :Nat) (rest:List Value),n+m<=c' ->c' <=maxLen->rest.length=(c' - (n+m)) * aK P e->
    K (.sl st.nid (n+m) c') ⟨st.env,st.rho,⟨st.nid,e,b.cs.take (n * aK P e)++(xs.map .v++rest.map .v)⟩::gN st.bx k,st.vc,st.nid+1,st.m⟩)) (st,y))) (cU P e))) (dt st.bx k))
 | .mk (st,.vo k u o z)=>az (.mk (k:=fun b:Vc=>b.sz=aK P e/\z=aK P e/\b.el=e/\0<aK P e/\o<=b.n/\az (.mk (k:=fun z0:List SV=>z0.length=aK P e/\oN (.mk (k:=(P,tx,aK P e,fun n xs=>room (b.n+n) (iH P e)/\
   ∀(a:Option Addr) (c:Nat) (m1:Mem),st.m.le m1->b.n - o+n<=c->ax m1 a (b.n - o+n) (aK P e) (b.xs.drop (o * aK P e)++xs)->K (.v (.slice a (b.n - o+n) c)) ⟨st.env,st.rho,st.bx,gM st.vc k,st.nid+1,m1⟩)) (st,y))) (cU P e))) (cq st.vc k u))
 | .mk (st,.v (.slice none 0 0))=>0<aK P e/\az (.mk (k:=fun z:List SV=>z.length=aK P e/\oN (.mk (k:=(P,tx,aK P e,fun n xs=>room n (iH P e)/\
   K (.vec st.nid 0) ⟨st.env,st.rho,st.bx,⟨st.nid,0,e,aK P e,n,xs⟩::st.vc,st.nid+1,st.m⟩)) (st,y))) (cU P e))
 |_=>False
def By {sz:Nat} {cs:List SV} {K:SV->LS->Prop} (x:A (sz,cs,K) (LS×SV)):Prop:=
 match x with
 | .mk (st,.box k o)=>az (.mk (k:=fun b:Bx=>b.ty<gn/\0<sz/\cs.length=sz/\eP cs=true/\cL st.nid st.vc cs/\o+cs.length<=b.cs.length/\K (.v undef) ⟨st.env,st.rho,fS st.bx k (iA b.cs o cs),st.vc,st.nid,st.m⟩) (dt st.bx k))
 |_=>False
def BV {P:Program} {e:TypeId} {z:List Value} {K:SV->LS->Prop} (x:A (P,e,z,K) (LS×SV×SV)):Prop:=
 match x with
 | .mk (st,.v (.int _ l),.v (.int _ cp))=>0<=l/\l<=cp/\room cp.toNat (iH P e)/\z.length=aK P e/\0<aK P e/\eP (z.map .v)=true/\
   K (.vec st.nid 0) ⟨st.env,st.rho,st.bx,⟨st.nid,0,e,aK P e,l.toNat,(List.replicate l.toNat z).flatten⟩::st.vc,st.nid+1,st.m⟩
 |_=>False
def de (P:Program) (f:FuncId):Bool:=
 match P.funcs[f]? with
 |some fn=> !(fn.name== "runtime.NumGoroutine")&&fn.body.isSome
 |none=>false
def vG {c:Cfg} {P:Program} {l:List SV} {K:SV->LS->Prop} (x:A (c,P,l,K) (LS×SV)):Prop:=
 match x with
 | .mk (st,.v (.func (.func f) ⟨[]⟩ ⟨[]⟩))=>de P f=true/\vM (.mk (k:=(P,f,st,l,K)) (c.own f))
 | .mk (st,.mv f k o)=>de P f=true/\vM (.mk (k:=(P,f,st,.box k o::l,K)) (c.own f))
 | .mk (st,.cl f ks)=>de P f=true/\vM (.mk (k:=(P,f,st,l++ks.map fun k=> .box k 0,K)) (c.own f))
 |_=>False
def tm:List SV->Option (List Nat)
 |[]=>some []
 | .box k 0::r=>(tm r).map (k:: ·)
 |_=>none
def BU {f:FuncId} {K:SV->LS->Prop} (x:A (f,K) (LS×SV)):Prop:=
 match x with
 | .mk (st,.box k o)=>K (.mv f k o) st
 |_=>False
def Bz {P:Program} {t:TypeId} {K:SV->LS->Prop} (x:A (P,t,K) (LS×SV×Option Value×Option Value)):Prop:=
 match x with
 | .mk (st,.mp k,some key,some v)=>az (.mk (k:=fun b:Bx=>(b.ty==(dM P t).1)=true/\oT P t/\dF b.ty key/\gp b.ty v/\az (.mk (k:=fun l:List Value=>K (.v undef) ⟨st.env,st.rho,fS st.bx k ((oY l key v).map .v),st.vc,st.nid,st.m⟩) (jJ b.cs))) (dt st.bx k))
 |_=>False
def kz {c:Cfg} {P:Program} {op:Op} {K:SV->LS->Prop} (x:A (c,P,op,K) (LS×ba)):Prop:=
 match op,x with
 | .alloc t,.mk (st,_)=>az (.mk (k:=fun cs:List SV=>t<gn/\cL st.nid st.vc cs/\K (.box st.nid 0) ⟨st.env,st.rho,⟨st.nid,t,cs⟩::st.bx,st.vc,st.nid+1,st.m⟩) (cU P t))
 | .box t x,.mk (st,p)=>az (.mk (k:=fun cs:List SV=>t<gn/\cL st.nid st.vc cs/\K (.box st.nid 0) ⟨st.env,st.rho,⟨st.nid,t,cs⟩::st.bx,st.vc,st.nid+1,st.m⟩) ((bM st p x).bind iL))
 | .store t a x,.mk (st,p)=>az (.mk (k:=fun a:SV=>az (.mk (k:=fun cs:List SV=>By (.mk (k:=(aK P t,cs,K)) (st,a))) ((bM st p x).bind iL))) (bM st p a))
 | .buildSlice t len parts,.mk (st,p)=>az (.mk (k:=fun e:TypeId=>az (.mk (k:=fun z:List SV=>z.length=aK P e/\0<aK P e/\len * aK P e<=16777216/\
   az (.mk (k:=fun cs:List SV=>fE (.mk (k:=fun bh af=>az (.mk (k:=fun l:List Value=>eP bh=true/\
    K (.vec af.nid 0) ⟨af.env,af.rho,af.bx,⟨af.nid,0,e,aK P e,len,l⟩::af.vc,af.nid+1,af.m⟩) (jJ bh))) (st,cs)))
    (xV (aK P e) st p parts.toList len z (pQ (aK P e) st p 0 parts.toList)))) (cU P e))) (eb P t))
 | .call {callee:= .builtin .append,args:=⟨[s,x]⟩,argTypes:=⟨[t,tx]⟩},.mk (st,p)=>
   az (.mk (k:=fun s:SV=>az (.mk (k:=fun y:SV=>az (.mk (k:=fun e:TypeId=>rW (.mk (k:=(P,e,tx,y,K)) (st,s))) (eb P t))) (bM st p x))) (bM st p s))
 | .makeSlice t l cp,.mk (st,p)=>az (.mk (k:=fun l:SV=>az (.mk (k:=fun cp:SV=>az (.mk (k:=fun e:TypeId=>az (.mk (k:=fun z:List Value=>BV (.mk (k:=(P,e,z,K)) (st,l,cp))) ((cU P e).bind jJ))) (eb P t))) (bM st p cp))) (bM st p l))
 | .makeMap t none,.mk (st,_)=>oT P t/\K (.mp st.nid) ⟨st.env,st.rho,⟨st.nid,(dM P t).1,[]⟩::st.bx,st.vc,st.nid+1,st.m⟩
 | .makeFunc (.func f) ⟨[]⟩ ⟨l⟩,.mk (st,p)=>az (.mk (k:=fun ss:List SV=>az (.mk (k:=fun ks:List Nat=>K (.cl f ks) st) (tm ss))) (oU st p l))
 | .makeFunc (.func f) ⟨[r]⟩ ⟨[]⟩,.mk (st,p)=>az (.mk (k:=fun s:SV=>BU (.mk (k:=(f,K)) (st,s))) (bM st p r))
 | .mapUpdate t m k x,.mk (st,p)=>az (.mk (k:=fun a:SV=>az (.mk (k:=fun i:SV=>az (.mk (k:=fun y:SV=>Bz (.mk (k:=(P,t,K)) (st,a,ls i,ls y))) (bM st p x))) (bM st p k))) (bM st p m))
 | .call {callee:= .value f,args,..},.mk (st,p)=>az (.mk (k:=fun l:List SV=>az (.mk (k:=fun f:SV=>vG (.mk (k:=(c,P,l,K)) (st,f))) (bM st p f))) (oU st p args.toList))
 |_,_=>False
inductive OpK where
 |qt
 |pu (F:Mem->List Value->Option (Prop×Value))
 |ac
def pk:Option (Mem->List Value->Option (Prop×Value))->OpK
 |some F=> .pu F
 |none=> .ac
def eF (c:Cfg):Op->OpK
 | .move _ | .assign _ | .pick .. | .nilCheck _ | .binOp .. | .unOp .. | .convert .. | .fieldAddr .. | .field .. | .indexAddr .. | .index .. | .slice .. | .load .. | .extract .. | .build .. | .lookup .. => .qt
 | .call {callee:= .builtin .len,..}=> .qt
 | .call {callee:= .builtin .min,..}=> .qt
 | .call {callee:= .builtin .max,..}=> .qt
 | .call {callee:= .value (.func f),..}=>pk (c.pure f)
 |_=> .ac
def vd:Op->List Operand
 | .call {args,..}=>args.toList
 |_=>[]
def Er {F:List Value->Option (Prop×Value)} {u:Prop->Prop} {K:SV->Prop} (x:A (F,u,K) (Option (List SV))):Prop:=
 match x with
 | .mk l=>az (.mk (k:=fun y:Prop×Value=>u y.1/\K (.v y.2)) ((l.bind s7).bind F))
/-! A region, in the order of the text. -/
def jb:List Gd->Nat->Bool->List Gd
 |[],_,_=>[]
 |⟨i',t',p',b'⟩::r,j,x=>if i' =j then⟨i',t',p',.lit x⟩::jb r j x else⟨i',t',p',b'⟩::jb r j x
def nT {j:Nat} {w:Bool} {dead live:LS->Prop} (x:A (j,w,dead,live) (LS×Gd)):Prop:=
 match w,x with
 |true,.mk (st,⟨_,t,q,.sym b⟩)=>
   (b=true->live ⟨⟨t,q,.v (.bool true)⟩::st.env,jb st.rho j true,st.bx,st.vc,st.nid,st.m⟩)/\
   (b=false->dead ⟨⟨t,q,.v (.bool false)⟩::st.env,jb st.rho j false,st.bx,st.vc,st.nid,st.m⟩)
 |false,.mk (st,⟨_,t,q,.sym b⟩)=>
   (b=false->live ⟨⟨t,q,.v (.bool false)⟩::st.env,jb st.rho j false,st.bx,st.vc,st.nid,st.m⟩)/\
   (b=true->dead ⟨⟨t,q,.v (.bool true)⟩::st.env,jb st.rho j true,st.bx,st.vc,st.nid,st.m⟩)
 |true,.mk (st,⟨_,_,_,.lit true⟩)=>live st
 |false,.mk (st,⟨_,_,_,.lit false⟩)=>live st
 |true,.mk (st,⟨_,_,_,.lit false⟩)=>dead st
 |false,.mk (st,⟨_,_,_,.lit true⟩)=>dead st
def A1:ba->(LS->Prop)->(LS->Prop)->LS->Prop
 |[],_,live,st=>live st
 |(j,w)::p,dead,live,st=>A1 p dead (fun af=>az (.mk (k:=fun g:Gd=>nT (.mk (k:=(j,w,dead,live)) (af,g))) (ek af.rho j))) st
def Bh {dead live:LS->Prop} (x:A (dead,live) (LS×ba)):Prop:=match x with | .mk (st,p)=>A1 p dead live st
def put (st:LS) (d:Option Nat) (p:ba) (s:SV):LS:=
 match d with
 |some d=>⟨⟨d,p,s⟩::st.env,st.rho,st.bx,st.vc,st.nid,st.m⟩
 |none=>st
def js (st:LS) (i:Nat) (d:Option Nat) (p:ba) (mv:Bool) (s:SV):LS:=
 match mv,d,s with
 |true,some d,.v (.bool b)=>⟨st.env,⟨i,d,p,.sym b⟩::st.rho,st.bx,st.vc,st.nid,st.m⟩
 |_,_,_=>st
def kH:Op->Bool
 | .move _=>true
 |_=>false
def pathOf (st:LS):Option (Nat×Bool)->Option ba
 |none=>some []
 |some (j,w)=>(ek st.rho j).map fun g=>(j,w)::g.p
def jt (st:LS) (i:Nat) (d:Option Nat) (p:ba) (mv:Bool):LS:=
 match mv,d with
 |true,some d=>⟨st.env,⟨i,d,p,.sym false⟩::st.rho,st.bx,st.vc,st.nid,st.m⟩
 |_,_=>st
def tJ {c:Cfg} {P:Program} {i:Nat} {o:Oper} {K:LS->Prop} {q:OpK} {dead:Bool} (x:A (c,P,i,o,K,q,dead) (LS×ba)):Prop:=
 match dead,q,x with
 |true,_,.mk (st,p)=>K (jt (put st o.dst p (.v undef)) i o.dst p (kH o.op))
 |false,.qt,.mk (st,p)=>qOp (.mk (k:=(P,o.op,fun s=>fb st.nid st.vc s/\K (js (put st o.dst p s) i o.dst p (kH o.op) s))) (st,p))
 |false,.pu F,.mk (st,p)=>Er (.mk (k:=(F st.m,lO st p,fun s=>K (put st o.dst p s))) (oU st p (vd o.op)))
 |false,.ac,.mk (st,p)=>Bh (.mk (k:=(fun af=>K (put af o.dst p (.v undef)),fun af=>kz (.mk (k:=(c,P,o.op,fun s iV=>fb iV.nid iV.vc s/\K (put iV o.dst p s))) (af,p)))) (st,p))
def gP:List Gd->Option Nat->Bool
 |[],_=>false
 |_::_,none=>false
 |⟨_,t',_,_⟩::r,some d=>if t' =d then true else gP r (some d)
def yE {c:Cfg} {P:Program} {i:Nat} {o:Oper} {K:LS->Prop} {st:LS} {p:ba} (x:A (c,P,i,o,K,st,p) (OpK×Bool×Bool)):Prop:=
 match x with
 | .mk (q,dead,false)=>tJ (.mk (k:=(c,P,i,o,K,q,dead)) (st,p))
 | .mk (_,_,true)=>False
def one {c:Cfg} {P:Program} {i:Nat} {o:Oper} {K:LS->Prop} (x:A (c,P,i,o,K) (LS×ba)):Prop:=
 match x with
 | .mk (st,p)=>yE (.mk (k:=(c,P,i,o,K,st,p)) (eF c o.op,rP st.rho p,gP st.rho o.dst))
def fp:List Nat->Nat->Bool
 |[],_=>false
 |y::r,x=>if y=x then true else fp r x
def ki:List Nat->List Ev->List Ev
 |_,[]=>[]
 |dead,⟨t,[],s⟩::r=>if fp dead t=true then ki dead r else⟨t,[],s⟩::ki dead r
 |dead,⟨t,_::_,_⟩::r=>ki (t::dead) r
def clean (st:LS):LS:=⟨ki [] st.env,[],st.bx,st.vc,st.nid,st.m⟩
def yw (c:Cfg) (P:Program):List Oper->Nat->(LS->Prop)->LS->Prop
 |[],_,K,st=>K (clean st)
 |o::r,i,K,st=>az (.mk (k:=fun p:ba=>one (.mk (k:=(c,P,i,o,fun af=>yw c P r (i+1) K af)) (st,p))) (pathOf st o.guard))
def wo {c:Cfg} {P:Program} {i:Nat} {l:List Oper} {K:LS->Prop} (x:A (c,P,i,l,K) LS):Prop:=match x with | .mk st=>yw c P l i K st
/-! Code. -/
def oK:SV->Option Bool
 | .v (.bool b)=>some b
 |_=>none
def jy:Code->Bool
 | .ret | .exit _ | .goto _ | .loop _=>false
 | .seq a b=>jy a&&jy b
 | .cond _ a b=>jy a||jy b
 |_=>true
def ix (K:LS->Prop) (Q:Exit->LS->Prop):Exit->LS->Prop
 | .normal,st=>K st
 |e,st=>Q e st
def KU (l:Nat) (J:LS->Prop) (Q:Exit->LS->Prop):Exit->LS->Prop
 | .goto l',st=>l' =l/\J st
 |e,st=>Q e st
def vx (id:Nat) (Q:Exit->LS->Prop):Exit->LS->Prop
 | .exit id',st=>if id' =id then Q .normal st else Q (.exit id') st
 |e,st=>Q e st
def jT (c:Cfg) (P:Program) (n:Nat):Code->(Exit->LS->Prop)->LS->Prop
 | .skip,Q,st=>Q .normal st
 | .region _ ⟨ops⟩ false,Q,st=>wo (.mk (k:=(c,P,0,ops,Q .normal)) st)
 | .seq (.cond x a b) rest,Q,st=>
  match jy a&&jy b with
  |true=>jH (.mk (k:=(P,n,.seq (.cond x a b) rest,Q)) st)
  |false=>az (.mk (k:=fun t:Bool=>(t=true->jT c P n a (ix (jT c P n rest Q) Q) st)/\(t=false->jT c P n b (ix (jT c P n rest Q) Q) st)) ((bM st [] x).bind oK))
 | .seq a b,Q,st=>jT c P n a (ix (jT c P n b Q) Q) st
 | .cond x a b,Q,st=>az (.mk (k:=fun t:Bool=>(t=true->jT c P n a Q st)/\(t=false->jT c P n b Q st)) ((bM st [] x).bind oK))
 | .block id a,Q,st=>jT c P n a (vx id Q) st
 | .exit id,Q,st=>Q (.exit id) st
 | .ret,Q,st=>Q .ret st
 | .label _,Q,st=>Q .normal st
 | .goto l,Q,st=>Q (.goto l) st
 |x,Q,st=>jH (.mk (k:=(P,n,x,Q)) st)
def cV {c:Cfg} {P:Program} {n:Nat} {x:Code} {Q:Exit->LS->Prop} (y:A (c,P,n,x,Q) LS):Prop:=match y with | .mk st=>jT c P n x Q st
def E5 {c:Cfg} {P:Program} {n:Nat} {t e:Code} {Q:Exit->LS->Prop} {st:LS} (y:A (c,P,n,t,e,Q,st) Bool):Prop:=
 match y with
 | .mk b=>(b=true->cV (.mk (k:=(c,P,n,t,Q)) st))/\(b=false->cV (.mk (k:=(c,P,n,e,Q)) st))
/-! Results, loops, joins. -/
def tF:List SV->SV
 |[x]=>x
 |l=> .tup l
def Bm (P:Program) (st:LS) (t:TypeId):Option SV->Option SV
 |some (.box k o)=>(dt st.bx k).bind fun b=>if b.ty<gn then(cC P t).bind fun ag=>rG b.cs o ag else none
 |_=>none
def lI (P:Program) (st:LS):List ResultVar->Option (List SV)
 |[]=>some []
 | .tmp t::r=>((dP st.env t []).bind iS).bind fun s=>(lI P st r).map (s:: ·)
 | .cell a t::r=>((Bm P st t (dP st.env a [])).bind iS).bind fun s=>(lI P st r).map (s:: ·)
def EX {st:LS} {l:List SV} {R:SV->Hp->Mem->Prop} (x:A (st,l,R) (List Nat)):Prop:=
 match x with
 | .mk L=>R (tF l) ⟨ef L st.bx,dL L st.vc⟩ st.m
def wb (P:Program) (res:List ResultVar) (qu:List Nat) (R:SV->Hp->Mem->Prop):Exit->LS->Prop
 | .ret,st=>az (.mk (k:=fun l:List SV=>EX (.mk (k:=(st,l,R)) (pM st.bx (kM qu l)))) (lI P st res))
 | .normal,st=>az (.mk (k:=fun l:List SV=>EX (.mk (k:=(st,l,R)) (pM st.bx (kM qu l)))) (lI P st res))
 |_,_=>False
def qz (i:Nat):List SV->List Ev
 |[]=>[]
 |s::r=>⟨i,[],s⟩::qz (i+1) r
def vY (H:Hp):List Nat:=H.bx.map (·.id)++H.vc.map (·.id)
def za (args:List SV) (H:Hp) (m:Mem):LS:=⟨qz 0 args,[],H.bx,H.vc,max (jw H.bx) (jv H.vc),m⟩
/-! What a function starts from; the head of a loop. -/
def yG (nid:Nat) (vc:List Vc):List SV->Prop
 |[]=>True
 |s::r=>fb nid vc s/\yG nid vc r
def AZ (args:List SV) (H:Hp):Prop:=yG (max (jw H.bx) (jv H.vc)) H.vc args/\vD (max (jw H.bx) (jv H.vc)) H.vc H.bx
def yH (nid:Nat) (vc:List Vc):List Ev->Prop
 |[]=>True
 |⟨_,_,s⟩::r=>fb nid vc s/\yH nid vc r
def vT (nid:Nat) (vc:List Vc):List Bx->Prop
 |[]=>True
 |⟨k,_,cs⟩::r=>k<nid/\cL nid vc cs/\vT nid vc r
def vS (nid:Nat):List Vc->Prop
 |[]=>True
 |⟨k,_,_,_,_,_⟩::r=>k<nid/\vS nid r
def oZ (st:LS):Prop:=yH st.nid st.vc st.env/\vT st.nid st.vc st.bx/\vS st.nid st.vc
def vU (st:LS):List Ev->Prop
 |[]=>True
 |⟨t,p,s⟩::r=>dP st.env t []=some s/\p=[]/\vU st r
def po (st:LS):List Bx->Prop
 |[]=>True
 |⟨k,t,cs⟩::r=>dt st.bx k=some ⟨k,t,cs⟩/\dt r k=none/\po st r
def pj (st:LS):List Vc->Prop
 |[]=>True
 |⟨k,u,e,z,n,xs⟩::r=>jV st.vc k=some ⟨k,u,e,z,n,xs⟩/\jV r k=none/\pj st r
def ah (m m' :Mem):Prop:=m=m' \/m.le m'
theorem fM (m:Mem):ah m m=True:=eq_true (.inl rfl)
def Match (st af:LS):Prop:=vU st af.env/\af.rho=[]/\po st af.bx/\pj st af.vc/\ah af.m st.m
section
variable {c:Cfg} {P:Program} {n i:Nat}
theorem Se {K:LS->Prop} {st:LS}:wo (.mk (k:=(c,P,i,[],K)) st)=K (clean st):=rfl
theorem PY {K:LS->Prop} {st:LS} {o:Oper} {r:List Oper}:wo (.mk (k:=(c,P,i,o::r,K)) st)=
  az (.mk (k:=fun p:ba=>one (.mk (k:=(c,P,i,o,fun af=>wo (.mk (k:=(c,P,i+1,r,K)) af))) (st,p))) (pathOf st o.guard)):=rfl
theorem Im {K:List SV->LS->Prop} {st:LS}:fE (.mk (k:=K) (st,[]))=K [] st:=rfl
theorem QB {K:List SV->LS->Prop} {st:LS} {k u:Nat} {r:List SV}:fE (.mk (k:=K) (st,.vec k u::r))=
  az (.mk (k:=fun b:Vc=>Bn (.mk (k:=(st,fun v af=>fE (.mk (k:=fun r' iV=>K (.v v::r') iV) (af,r)))) b)) (cq st.vc k u)):=rfl
theorem Kq {K:List SV->LS->Prop} {st:LS} {x:Value} {r:List SV}:fE (.mk (k:=K) (st,.v x::r))=fE (.mk (k:=fun r' af=>K (.v x::r') af) (st,r)):=rfl
theorem QC {K:List SV->LS->Prop} {st:LS} {k u:Nat} {r:List SV}:fE (.mk (k:=K) (st,.box k u::r))=fE (.mk (k:=fun r' af=>K (.box k u::r') af) (st,r)):=rfl
theorem Sz {K:List SV->LS->Prop} {st:LS} {k u o:Nat} {r:List SV}:fE (.mk (k:=K) (st,.vp k u o::r))=fE (.mk (k:=fun r' af=>K (.vp k u o::r') af) (st,r)):=rfl
theorem SC {K:List SV->LS->Prop} {st:LS} {k:Nat} {r:List SV}:fE (.mk (k:=K) (st,.mp k::r))=fE (.mk (k:=fun r' af=>K (.mp k::r') af) (st,r)):=rfl
theorem SB {K:List SV->LS->Prop} {st:LS} {f:FuncId} {k o:Nat} {r:List SV}:fE (.mk (k:=K) (st,.mv f k o::r))=fE (.mk (k:=fun r' af=>K (.mv f k o::r') af) (st,r)):=rfl
theorem SA {K:List SV->LS->Prop} {st:LS} {k n c:Nat} {r:List SV}:fE (.mk (k:=K) (st,.sl k n c::r))=fE (.mk (k:=fun r' af=>K (.sl k n c::r') af) (st,r)):=rfl
theorem SD {K:List SV->LS->Prop} {st:LS} {f:FuncId} {ks:List Nat} {r:List SV}:fE (.mk (k:=K) (st,.cl f ks::r))=fE (.mk (k:=fun r' af=>K (.cl f ks::r') af) (st,r)):=rfl
theorem Sx {K:List SV->LS->Prop} {st:LS} {k:Nat} {r:List SV}:iX (.mk (k:=K) (st,.mp k::r))=iX (.mk (k:=fun r' af=>K (.mp k::r') af) (st,r)):=rfl
theorem Sw {K:List SV->LS->Prop} {st:LS} {f:FuncId} {k o:Nat} {r:List SV}:iX (.mk (k:=K) (st,.mv f k o::r))=iX (.mk (k:=fun r' af=>K (.mv f k o::r') af) (st,r)):=rfl
theorem Sv {K:List SV->LS->Prop} {st:LS} {k n c:Nat} {r:List SV}:iX (.mk (k:=K) (st,.sl k n c::r))=iX (.mk (k:=fun r' af=>K (.sl k n c::r') af) (st,r)):=rfl
theorem Sy {K:List SV->LS->Prop} {st:LS} {f:FuncId} {ks:List Nat} {r:List SV}:iX (.mk (k:=K) (st,.cl f ks::r))=iX (.mk (k:=fun r' af=>K (.cl f ks::r') af) (st,r)):=rfl
theorem Qy {K:List SV->LS->Prop} {st:LS}:iX (.mk (k:=K) (st,[]))=K [] st:=rfl
theorem QA {K:List SV->LS->Prop} {st:LS} {cs r:List SV}:iX (.mk (k:=K) (st,.agg cs::r))=
  fE (.mk (k:=fun bh af=>iX (.mk (k:=fun r' iV=>K (.agg bh::r') iV) (af,r))) (st,cs)):=rfl
theorem U8 {K:List SV->LS->Prop} {st:LS} {x:Value} {r:List SV}:iX (.mk (k:=K) (st,.v x::r))=iX (.mk (k:=fun r' af=>K (.v x::r') af) (st,r)):=rfl
theorem Qz {K:List SV->LS->Prop} {st:LS} {k u:Nat} {r:List SV}:iX (.mk (k:=K) (st,.box k u::r))=iX (.mk (k:=fun r' af=>K (.box k u::r') af) (st,r)):=rfl
theorem Qx {K:List SV->LS->Prop} {st:LS} {k u:Nat} {r:List SV}:iX (.mk (k:=K) (st,.vec k u::r))=
  az (.mk (k:=fun b:Vc=>Bn (.mk (k:=(st,fun v af=>iX (.mk (k:=fun r' iV=>K (.v v::r') iV) (af,r)))) b)) (cq st.vc k u)):=rfl
theorem Pn {dead live:LS->Prop} {st:LS}:Bh (.mk (k:=(dead,live)) (st,[]))=live st:=rfl
theorem NZ {dead live:LS->Prop} {st:LS} {j:Nat} {w:Bool} {p:ba}:Bh (.mk (k:=(dead,live)) (st,(j,w)::p))=
  Bh (.mk (k:=(dead,fun af=>az (.mk (k:=fun g:Gd=>nT (.mk (k:=(j,w,dead,live)) (af,g))) (ek af.rho j)))) (st,p)):=rfl
variable {Q:Exit->LS->Prop} {st:LS}
theorem PZ:cV (.mk (k:=(c,P,n,.skip,Q)) st)=Q .normal st:=rfl
theorem Nr {id:Nat} {l:List Oper}:cV (.mk (k:=(c,P,n,.region id ⟨l⟩ false,Q)) st)=wo (.mk (k:=(c,P,0,l,Q .normal)) st):=rfl
theorem Qb {id:Nat} {l:Array Oper}:cV (.mk (k:=(c,P,n,.region id l true,Q)) st)=jH (.mk (k:=(P,n,.region id l true,Q)) st):=by cases l;rfl
theorem P8 {x:Operand} {t e rest:Code} (h:(jy t&&jy e)=true):cV (.mk (k:=(c,P,n,.seq (.cond x t e) rest,Q)) st)=jH (.mk (k:=(P,n,.seq (.cond x t e) rest,Q)) st):=by
 simp only[cV,jT,h]
theorem UW {x:Operand} {t e rest:Code} (h:(jy t&&jy e)=false):cV (.mk (k:=(c,P,n,.seq (.cond x t e) rest,Q)) st)=
  az (.mk (k:=fun b:Bool=>E5 (.mk (k:=(c,P,n,t,e,ix (fun af=>cV (.mk (k:=(c,P,n,rest,Q)) af)) Q,st)) b)) ((bM st [] x).bind oK)):=by
 simp only[cV,jT,h];rfl
theorem P1 {id:Nat} {l:Array Oper} {d:Bool} {b:Code}:cV (.mk (k:=(c,P,n,.seq (.region id l d) b,Q)) st)=cV (.mk (k:=(c,P,n,.region id l d,ix (fun af=>cV (.mk (k:=(c,P,n,b,Q)) af)) Q)) st):=rfl
theorem P5 {id:Nat} {a b:Code}:cV (.mk (k:=(c,P,n,.seq (.block id a) b,Q)) st)=cV (.mk (k:=(c,P,n,.block id a,ix (fun af=>cV (.mk (k:=(c,P,n,b,Q)) af)) Q)) st):=rfl
theorem P0 {x y b:Code}:cV (.mk (k:=(c,P,n,.seq (.seq x y) b,Q)) st)=cV (.mk (k:=(c,P,n,.seq x y,ix (fun af=>cV (.mk (k:=(c,P,n,b,Q)) af)) Q)) st):=rfl
theorem P4 {x b:Code}:cV (.mk (k:=(c,P,n,.seq (.loop x) b,Q)) st)=jH (.mk (k:=(P,n,.loop x,ix (fun af=>cV (.mk (k:=(c,P,n,b,Q)) af)) Q)) st):=rfl
theorem P2 {x b:Code}:cV (.mk (k:=(c,P,n,.seq (.scope x) b,Q)) st)=jH (.mk (k:=(P,n,.scope x,ix (fun af=>cV (.mk (k:=(c,P,n,b,Q)) af)) Q)) st):=rfl
theorem P3 {b:Code}:cV (.mk (k:=(c,P,n,.seq .skip b,Q)) st)=cV (.mk (k:=(c,P,n,b,Q)) st):=rfl
theorem Qc {x:Operand} {t e:Code}:cV (.mk (k:=(c,P,n,.cond x t e,Q)) st)=
  az (.mk (k:=fun b:Bool=>E5 (.mk (k:=(c,P,n,t,e,Q,st)) b)) ((bM st [] x).bind oK)):=rfl
theorem On {id:Nat} {a:Code}:cV (.mk (k:=(c,P,n,.block id a,Q)) st)=cV (.mk (k:=(c,P,n,a,vx id Q)) st):=rfl
theorem P7 {a:Code}:cV (.mk (k:=(c,P,n,.loop a,Q)) st)=jH (.mk (k:=(P,n,.loop a,Q)) st):=rfl
theorem Ol {a:Code}:cV (.mk (k:=(c,P,n,.scope a,Q)) st)=jH (.mk (k:=(P,n,.scope a,Q)) st):=rfl
theorem Qa {id:Nat}:cV (.mk (k:=(c,P,n,.exit id,Q)) st)=Q (.exit id) st:=rfl
theorem Om {l:Nat}:cV (.mk (k:=(c,P,n,.label l,Q)) st)=Q .normal st:=rfl
theorem P9 {l:Nat}:cV (.mk (k:=(c,P,n,.goto l,Q)) st)=Q (.goto l) st:=rfl
theorem P6 {l:Nat} {b:Code}:cV (.mk (k:=(c,P,n,.seq (.label l) b,Q)) st)=cV (.mk (k:=(c,P,n,b,Q)) st):=rfl
theorem Sf:cV (.mk (k:=(c,P,n,.ret,Q)) st)=Q .ret st:=rfl
end
attribute [go_sem] GB.val.eq_1 GB.val.eq_2 gn.eq_1 mF.eq_1 mF.eq_2 mF.eq_3 ku.eq_1 ku.eq_2 dP.eq_1 dP.eq_2 ek.eq_1 ek.eq_2 vV.eq_1 vV.eq_2 dt.eq_1 dt.eq_2 cq.eq_1 cq.eq_2 kN.eq_1 bC.eq_1 bC.eq_2 tB.eq_1 tB.eq_2 tB.eq_3 rP.eq_1 rP.eq_2 lO.eq_1 bM.eq_1 bM.eq_2 bM.eq_3 bM.eq_4 az.eq_1 az.eq_2 arith.eq_1 arith.eq_2 fI.eq_1 fI.eq_2 fI.eq_3 fI.eq_4 fI.eq_5 fI.eq_6 fI.eq_7 fI.eq_8 fI.eq_9 fI.eq_10 fI.eq_11 fI.eq_12 fI.eq_13 fI.eq_14 fI.eq_15 fI.eq_16 fI.eq_17 oe.eq_1 oe.eq_2 oe.eq_3 oe.eq_4 oe.eq_5 oe.eq_6 kj.eq_1 kj.eq_2 kj.eq_3 kj.eq_4 gj.eq_1 gj.eq_2 gj.eq_3 kr.eq_1 kr.eq_2 kr.eq_3 kr.eq_4 jd.eq_1 jd.eq_2 jd.eq_3 sd.eq_1 sd.eq_2 iL.eq_1 iL.eq_2 iL.eq_3 iL.eq_4 iL.eq_5 lh.eq_1 lh.eq_2 lh.eq_3 mP.eq_1 mP.eq_2 mP.eq_3 lM.eq_1 lM.eq_2 lM.eq_3 lM.eq_4 lM.eq_5 lM.eq_6 lM.eq_7 vr.eq_1 vr.eq_2 o6.eq_1 o6.eq_2 o6.eq_3 o6.eq_4 o6.eq_5 o6.eq_6 lF.eq_1 lF.eq_2 lF.eq_3 lF.eq_4 lF.eq_5 lF.eq_6 lF.eq_7 lF.eq_8 lF.eq_9 lF.eq_10 lF.eq_11 rG.eq_1 rG.eq_2 iA.eq_1 iA.eq_2 yh.eq_1 yh.eq_2 yh.eq_3 pY.eq_1 pY.eq_2 pY.eq_3 pY.eq_4 mi.eq_1 mi.eq_2 mi.eq_3 tI.eq_1 tI.eq_2 rC.eq_1 rC.eq_2 qp.eq_1 qp.eq_2 qp.eq_3 qF.eq_1 qF.eq_2 qF.eq_3 rJ.eq_1 rJ.eq_2 vu.eq_1 vu.eq_2 KU.eq_1 KU.eq_2 nQ.eq_1 nQ.eq_2 nQ.eq_3 nQ.eq_4 nQ.eq_5 oX.eq_1 oX.eq_2 oX.eq_3 oX.eq_4 oW.eq_1 oW.eq_2 oW.eq_3 oW.eq_4 sw.eq_1 sw.eq_2 EI.eq_1 ph.eq_1 ph.eq_2 ph.eq_3 ph.eq_4 ub.eq_1 ub.eq_2 tG.eq_1 tG.eq_2 n8.eq_1 n8.eq_2 n8.eq_3 n8.eq_4 oV.eq_1 oV.eq_2 oV.eq_3 lB.eq_1 lB.eq_2 lB.eq_3 lB.eq_4 iS.eq_1 iS.eq_2 iS.eq_3 iS.eq_4 iS.eq_5 iS.eq_6 iS.eq_7 iS.eq_8 iS.eq_9 iS.eq_10 iS.eq_11 qq.eq_1 qq.eq_2 qq.eq_3 n9.eq_1 n9.eq_2 n9.eq_3 n9.eq_4 n9.eq_5 rT.eq_1 rT.eq_2 rU.eq_1 rU.eq_2 rK.eq_1 rK.eq_2 pX.eq_1 pX.eq_2 pX.eq_3 qOp.eq_1 qOp.eq_2 qOp.eq_3 qOp.eq_4 qOp.eq_5 qOp.eq_6 qOp.eq_7 qOp.eq_8 qOp.eq_9 qOp.eq_10 qOp.eq_11 qOp.eq_12 qOp.eq_13 qOp.eq_14 qOp.eq_15 qOp.eq_16 qOp.eq_17 qOp.eq_18 qOp.eq_19 qOp.eq_20 qOp.eq_21 qOp.eq_22 plain.eq_1 plain.eq_2 jJ.eq_1 jJ.eq_2 ls.eq_1 ls.eq_2 ls.eq_3 s7.eq_1 s7.eq_2 eP.eq_1 eP.eq_2 eP.eq_3 eP.eq_4 eP.eq_5 eP.eq_6 eP.eq_7 eP.eq_8 eP.eq_9 eP.eq_10 eP.eq_11 eP.eq_12 fS.eq_1 fS.eq_2 gN.eq_1 gN.eq_2 sC.eq_1 sC.eq_2 A8.eq_1 A8.eq_2 zj.eq_1 zj.eq_2 zL.eq_1 zL.eq_2 tm.eq_1 tm.eq_2 tm.eq_3 gq.eq_1 gq.eq_2 gM.eq_1 gM.eq_2 EE.eq_1 EE.eq_2 Bn.eq_1 qk.eq_1 eD.eq_1 eD.eq_2 eD.eq_3 eD.eq_4 eD.eq_5 eD.eq_6 eD.eq_7 eD.eq_8 eD.eq_9 eD.eq_10 eD.eq_11 eD.eq_12 cellsOf.eq_1 cellsOf.eq_2 kM.eq_1 kM.eq_2 kM.eq_3 vX.eq_1 vX.eq_2 pM.eq_1 idxOf.eq_1 idxOf.eq_2 eZ.eq_1 dq.eq_1 ie.eq_1 ie.eq_2 ie.eq_3 ie.eq_4 ie.eq_5 ie.eq_6 ie.eq_7 ie.eq_8 ie.eq_9 ie.eq_10 ie.eq_11 vP.eq_1 vP.eq_2 qo.eq_1 qo.eq_2 lA.eq_1 gm.eq_1 jV.eq_1 jV.eq_2 ef.eq_1 ef.eq_2 dL.eq_1 dL.eq_2 kh.eq_1 kh.eq_2 jN.eq_1 jN.eq_2 jw.eq_1 jw.eq_2 jv.eq_1 jv.eq_2 rE.eq_1 zg.eq_1 zg.eq_2 qH.eq_1 qH.eq_2 kR.eq_1 kR.eq_2 kR.eq_3 kR.eq_4 kR.eq_5 kR.eq_6 kR.eq_7 kR.eq_8 kR.eq_9 kR.eq_10 kR.eq_11 ng.eq_1 ng.eq_2 BX.eq_1 BX.eq_2 yJ.eq_1 yJ.eq_2 vW.eq_1 vW.eq_2 EL.eq_1 lb.eq_1 lb.eq_2 lb.eq_3 lb.eq_4 lb.eq_5 lb.eq_6 lb.eq_7 lb.eq_8 lb.eq_9 lb.eq_10 lb.eq_11 nw.eq_1 nw.eq_2 zM.eq_1 zM.eq_2 zK.eq_1 zK.eq_2 Co.eq_1 Co.eq_2 wg.eq_1 wg.eq_2 we.eq_1 we.eq_2 vD.eq_1 vD.eq_2 yd.eq_1 yd.eq_2 jR.eq_1 jR.eq_2 ju.eq_1 ju.eq_2 dU.eq_1 JF.eq_1 Eh.eq_1 aY.eq_1 aY.eq_2 gQ.eq_1 gQ.eq_2 gQ.eq_3 gQ.eq_4 gQ.eq_5 gQ.eq_6 gQ.eq_7 gQ.eq_8 gQ.eq_9 gQ.eq_10 gQ.eq_11 cL.eq_1 cL.eq_2 okB.eq_1 okB.eq_2 ue.eq_1 ue.eq_2 fb.eq_1 fb.eq_2 EC.eq_1 yr.eq_1 vM.eq_1 vM.eq_2 oU.eq_1 oU.eq_2 lu.eq_1 lu.eq_2 pQ.eq_1 pQ.eq_2 xV.eq_1 xV.eq_2 fD.eq_1 oN.eq_1 oN.eq_2 oN.eq_3 oN.eq_4 rW.eq_1 rW.eq_2 rW.eq_3 rW.eq_4 rW.eq_5 By.eq_1 By.eq_2 BV.eq_1 BV.eq_2 Bz.eq_1 Bz.eq_2 BU.eq_1 BU.eq_2 vG.eq_1 vG.eq_2 vG.eq_3 vG.eq_4 kz.eq_1 kz.eq_2 kz.eq_3 kz.eq_4 kz.eq_5 kz.eq_6 kz.eq_7 kz.eq_8 kz.eq_9 kz.eq_10 kz.eq_11 kz.eq_12 pk.eq_1 pk.eq_2 eF.eq_1 eF.eq_2 eF.eq_3 eF.eq_4 eF.eq_5 eF.eq_6 eF.eq_7 eF.eq_8 eF.eq_9 eF.eq_10 eF.eq_11 eF.eq_12 eF.eq_13 eF.eq_14 eF.eq_15 eF.eq_16 eF.eq_17 eF.eq_18 eF.eq_19 eF.eq_20 eF.eq_21 vd.eq_1 vd.eq_2 Er.eq_1 jb.eq_1 jb.eq_2 nT.eq_1 nT.eq_2 nT.eq_3 nT.eq_4 nT.eq_5 nT.eq_6 put.eq_1 put.eq_2 js.eq_1 js.eq_2 jt.eq_1 jt.eq_2 kH.eq_1 kH.eq_2 gP.eq_1 gP.eq_2 gP.eq_3 pathOf.eq_1 pathOf.eq_2 tJ.eq_1 tJ.eq_2 tJ.eq_3 tJ.eq_4 yE.eq_1 yE.eq_2 one.eq_1 fp.eq_1 fp.eq_2 ki.eq_1 ki.eq_2 ki.eq_3 clean.eq_1 oK.eq_1 oK.eq_2 jy.eq_1 jy.eq_2 jy.eq_3 jy.eq_4 jy.eq_5 jy.eq_6 jy.eq_7 ix.eq_1 ix.eq_2 vx.eq_1 vx.eq_2 E5.eq_1 tF.eq_1 tF.eq_2 Bm.eq_1 Bm.eq_2 lI.eq_1 lI.eq_2 lI.eq_3 EX.eq_1 wb.eq_1 wb.eq_2 wb.eq_3 qz.eq_1 qz.eq_2 vY.eq_1 za.eq_1 yG.eq_1 yG.eq_2 AZ.eq_1 yH.eq_1 yH.eq_2 vT.eq_1 vT.eq_2 vS.eq_1 vS.eq_2 oZ.eq_1 vU.eq_1 vU.eq_2 po.eq_1 po.eq_2 pj.eq_1 pj.eq_2 Match.eq_1 Se PY Im QB Kq QC Sz SC SB SA SD Sx Sw Sv Sy Qy QA U8 Qz Qx Pn NZ PZ Nr Qb P8 UW P1 P5 P0 P4 P2 P3 Qc On P7 Ol Qa Sf fM Om P9 P6 Vx Kz Ky UY UX Kl
theorem db (V:Vl) (x:Value):den V (.v x)=x:=rfl
theorem vk (V:Vl) (k o:Nat):den V (.box k o)= .pointer (some ⟨V.β k,o,none⟩):=rfl
theorem D7 (V:Vl) (cs:List SV):den V (.agg cs)= .agg ⟨cs.map (aH V)⟩:=rfl
theorem TY (V:Vl) (cs:List SV):den V (.tup cs)= .tuple ⟨cs.map (fH V)⟩:=rfl
theorem vE (V:Vl) (l:List Value):(l.map SV.v).map (aH V)=l:=by
 induction l with
 |nil=>rfl
 |cons x l ih=>simp only[aG,ih];rfl
theorem zU {V:Vl} {s:SV} {cs:List SV} (h:iL s=some cs):(den V s).cells=⟨cs.map (aH V)⟩:=by
 cases s with
 |agg l=>simp only[iL,cn] at h;subst h;rfl
 |tup l=>simp [iL] at h
 |v x=>
  cases x with
  |agg a=>obtain⟨l⟩:=a;simp only[iL,cn] at h;subst h;simp only[vE];rfl
  |tuple a=>simp [iL] at h
  |_=>simp only[iL,cn] at h;subst h;rfl
 |_=>simp only[iL,cn] at h;subst h;rfl
/-! Paths. -/
theorem AP {rho:List Gd} {j:Nat} {w:Bool} {g:Gd} (h:ek rho j=some g):kN rho j w=(if w=true then g.b.val else !g.b.val):=by
 unfold kN;rw[h]
theorem Bc {rho:List Gd} {i:Nat} {g:Gd} (h:ek rho i=some g):g.i=i/\g∈rho:=by
 induction rho with
 |nil=>cases h
 |cons x r ih=>
  obtain⟨i',t',p',b'⟩:=x;simp only[ek] at h;split at h
  ·rename_i e;cases h;exact⟨e,bL ..⟩
  ·exact⟨(ih h).1,bt _ (ih h).2⟩
theorem Dv:∀{p q:ba},mF p q=true->p=q
 |[],[],_=>rfl
 |(j,w)::p,(k,u)::q,h=>by
  simp only[mF] at h;split at h
  ·split at h
   ·rename_i e e';subst e;subst e';rw[Dv h]
   ·cases h
  ·cases h
 |[],_::_,h=>by simp [mF] at h
 |_::_,[],h=>by simp [mF] at h
theorem Ib {p:ba}:∀{q:ba},ku p q=true->∃r,q=r++p
 |[],h=>⟨[],by simp only[ku] at h;rw[Dv h];rfl⟩
 |x::q,h=>by
  simp only[ku] at h;split at h
  ·rename_i e;exact⟨[],by rw[Dv e];rfl⟩
  ·obtain⟨r,hr⟩:=Ib h;exact⟨x::r,by rw[hr];rfl⟩
theorem HL {rho:List Gd}:∀{p q:ba},bC rho (p++q)=(bC rho p&&bC rho q)
 |[],q=>by simp [bC]
 |(j,w)::p,q=>by simp [bC,HL (p:=p),Bool.and_assoc]
theorem At {rho:List Gd} {p q:ba} (h:ku p q=true) (hq:bC rho q=true):bC rho p=true:=by
 obtain⟨r,rfl⟩:=Ib h;rw[HL,bw] at hq;exact hq.2
theorem nF {rho:List Gd}:dV rho []:=fun _ h=>by cases h
theorem As {rho:List Gd}:∀{p:ba},rP rho p=true->bC rho p=false
 |[],h=>by simp [rP] at h
 |(j,w)::p,h=>by
  simp only[rP] at h;split at h
  ·rename_i e;simp only[bC,Bool.and_eq_false_iff];refine .inl ?_;cases hg:ek rho j with
   |none=>rw[hg] at e;cases w<;>simp [tB] at e
   |some g=>
    rw[hg] at e;rw[AP hg];obtain⟨i',t',p',b'⟩:=g;cases b' with
    |lit b=>cases b<;>cases w<;>simp_all [tB,GB.val]
    |sym b=>cases w<;>simp [tB] at e
  ·simp only[bC,Bool.and_eq_false_iff];exact .inr (As h)
section
variable {C:Ctx} {n:Nat} {st:LS} {a:Act} {V:Vl} {D:Nat->Nat} {w:World} {P:Program}
theorem cr (hS:Sat C n st a V D w) {p:ba} (hp:dV st.rho p) (hc:bC st.rho p=true) {x:Operand} {s:SV} (h:bM st p x=some s):a.eval x=den V s:=by
 cases x with
 |tmp t=>
  have:=hS.env t p s hp h hc;simp [Act.eval,this]
 |const v=>simp only[bM,cn] at h;subst h;rfl
 |func f=>simp only[bM,cn] at h;subst h;rfl
 |global g=>simp only[bM,cn] at h;subst h;rfl
theorem nG {l:List Bx} {k:Nat} {b:Bx} (h:dt l k=some b):b.id=k/\b∈l:=by
 induction l with
 |nil=>cases h
 |cons x r ih=>
  obtain⟨i',t',p'⟩:=x;simp only[dt] at h;split at h
  ·rename_i e;cases h;exact⟨e,bL ..⟩
  ·exact⟨(ih h).1,bt _ (ih h).2⟩
theorem xH {l:List Vc} {k u:Nat} {b:Vc} (h:cq l k u=some b):b.id=k/\b.ver=u/\b∈l:=by
 induction l with
 |nil=>cases h
 |cons x r ih=>
  obtain⟨i',u',e',z',n',x'⟩:=x;simp only[cq] at h;split at h
  ·rename_i e;split at h
   ·rename_i e';cases h;exact⟨e,e',bL ..⟩
   ·cases h
  ·exact⟨(ih h).1,(ih h).2.1,bt _ (ih h).2.2⟩
end
def Yl (c:Bool) (P:Program) (x:Sem Value) (w:World) (v:Value):Prop:=c=true->x.run P w= .ok v w
section
variable {P:Program} {c:Bool} {w:World}
abbrev U (c:Bool):Prop->Prop:=fun B=>c=true->B
theorem wU {k:IntKind} {V:Vl} {K:SV->Prop} {n:Int} (h:arith (.mk (k:=(k,U c,K)) n)):
  ∃s,K s/\(c=true->den V s= .int k (k.wrap n)):=by
 cases k;case i64=>
  simp only[arith] at h;refine⟨_,h.2,fun hc=> ?_⟩;have hb:=h.1 hc;rw[db];have:IntKind.i64.wrap n=n:=by
   rw[IntKind.wrap_i64];unfold aB at hb;omega
  rw[this]
 all_goals exact⟨_,h,fun _=>rfl⟩
theorem Od {op:BinOp} {k k' :IntKind} {x y:Int} {t:TypeId} {o o' :Operand} {V:Vl} {K:SV->Prop} (hk:op= .shl\/op= .shr\/k=k') (h:fI (.mk (k:=(op,k,U c,K)) (x,y))):
  ∃s,K s/\Yl c P (do eqGuard op t o o' (.int k x) (.int k' y);binOp op t (.int k x) (.int k' y)) w (den V s):=by
 by_cases hs:op= .shl\/op= .shr
 ·rcases hs with rfl |rfl
  ·simp only[fI] at h;refine⟨_,h.2,fun hc=> ?_⟩;simp [go_sem,shift_shl _ _ _ _ (h.1 hc).1 (h.1 hc).2,db]
  ·simp only[fI] at h;refine⟨_,h.2,fun hc=> ?_⟩;simp [go_sem,shift_shr _ _ _ _ (h.1 hc).1 (h.1 hc).2,db]
 ·have uA:k=k' :=by
   rcases hk with h1 |h1 |h1
   ·exact absurd (.inl h1) hs
   ·exact absurd (.inr h1) hs
   ·exact h1
  subst uA;cases op<;>simp only[fI] at h;case shl=>exact absurd (.inl rfl) hs
  case shr=>exact absurd (.inr rfl) hs
  case add=>obtain⟨s,h1,h2⟩:=wU (V:=V) h;exact⟨s,h1,fun hc=>by rw[h2 hc];simp [go_sem,Op.intArith]⟩
  case sub=>obtain⟨s,h1,h2⟩:=wU (V:=V) h;exact⟨s,h1,fun hc=>by rw[h2 hc];simp [go_sem,Op.intArith]⟩
  case mul=>obtain⟨s,h1,h2⟩:=wU (V:=V) h;exact⟨s,h1,fun hc=>by rw[h2 hc];simp [go_sem,Op.intArith]⟩
  case quo=>obtain⟨s,h1,h2⟩:=wU (V:=V) h.2;exact⟨s,h1,fun hc=>by rw[h2 hc];simp [go_sem,Op.intDiv,h.1 hc]⟩
  case rem=>exact⟨_,h.2,fun hc=>by simp [go_sem,Op.intDiv,h.1 hc,db]⟩
  case eql=>exact⟨_,h,fun _=>by simp [go_sem,db];rfl⟩
  case neq=>exact⟨_,h,fun _=>by simp [go_sem,db,bne];rfl⟩
  all_goals exact⟨_,h,fun _=>by simp [go_sem,db]⟩
end
theorem PH (x y:ByteArray):x++y=bs (tl x++tl y):=by
 obtain⟨a⟩:=x;obtain⟨b⟩:=y;obtain⟨a⟩:=a;obtain⟨b⟩:=b;exact ByteArray.mk_append_mk a b
theorem uZ (x:ByteArray):x.toList=tl x:=ByteArray.toList_eq x
theorem vq (x:ByteArray):(tl x).length=x.size:=by unfold tl ByteArray.size;exact Array.length_toList
theorem Ki (x y:List UInt8):(x==y)=decide (x=y):=by
 rw[Bool.eq_iff_iff];simp only[beq_iff_eq,cS]
theorem ay {α:Type} {K:α->Prop} {x:Option α} (h:az (.mk (k:=K) x)):∃s,x=some s/\K s:=by
 cases x with
 |none=>exact h.elim
 |some s=>exact⟨s,rfl,h⟩
section
variable {P:Program} {c:Bool} {w:World}
theorem Ob {op:BinOp} {x y:ByteArray} {t:TypeId} {o o' :Operand} {V:Vl} {K:SV->Prop} (h:oe (.mk (k:=(op,U c,K)) (tl x,tl y))):
  ∃s,K s/\Yl c P (do eqGuard op t o o' (.string x) (.string y);binOp op t (.string x) (.string y)) w (den V s):=by
 cases op<;>simp only[oe] at h;case add=>
  refine⟨_,h.2,fun hc=> ?_⟩;have hl:=h.1 hc;rw[vq,vq] at hl;have:¬((x.size+y.size:Nat):Int)>IntKind.i64.max:=by rw[IntKind.max_i64];omega
  simp only[go_sem,binOp,Op.stringOp,Sem.run_bind,Sem.run_pure,Result.andThen_ok];rw[aa this];rw[PH,db];rfl
 case eql=>exact⟨_,h,fun _=>by simp [go_sem,db,uZ,Ki]⟩
 case neq=>exact⟨_,h,fun _=>by simp [go_sem,db,uZ,Ki]⟩
 case lss=>exact⟨_,h,fun _=>by simp [go_sem,db,uZ]⟩
 case geq=>exact⟨_,h,fun _=>by simp [binOp,Op.stringOp,go_sem,db,uZ]⟩
theorem N8 {V:Vl} {x y:SV} {b:Bool} (h:kj x y=some b):kj (.v (aH V x)) (.v (aH V y))=some b:=by
 unfold kj at h;split at h<;>first |exact h |cases h
theorem Rr {V:Vl} {z x:SV} (h:kr z x=true):kr z (.v (aH V x))=true:=by
 unfold kr at h;split at h<;>first |exact h |cases h
theorem IW {V:Vl}:∀{z x:List SV},jd z x=true->jd z ((x.map (aH V)).map .v)=true
 |[],[],h=>h
 |z::zs,x::xs,h=>by
  simp only[jd,bw] at h;simp only[aG,jd,Rr h.1,IW h.2,Bool.and_self]
 |[],_::_,h=>by simp [jd] at h
 |_::_,[],h=>by simp [jd] at h
theorem Rp {V:Vl} {z:Option (List SV)} {x:List SV} (h:sd z x=true):sd z ((x.map (aH V)).map .v)=true:=by
 cases z with
 |none=>cases h
 |some z=>exact IW h
theorem Gv {V:Vl}:∀{x y:List SV} {b:Bool},gj x y=some b->gj ((x.map (aH V)).map .v) ((y.map (aH V)).map .v)=some b
 |[],[],_,h=>h
 |x::xs,y::ys,b,h=>by
  simp only[gj,Option.bind_eq_some_iff,Option.map_eq_some_iff] at h;obtain⟨e,he,r,hr,rfl⟩:=h;simp only[aG,gj,N8 he,Gv hr,Option.bind_some,Option.map_some]
 |[],_::_,_,h=>by simp [gj] at h
 |_::_,[],_,h=>by simp [gj] at h
theorem C0 {op:BinOp} {b:Bool} {K:SV->Prop} {V:Vl} (h:mP (.mk (k:=(op,K)) b)):
  ∃s,K s/\((op= .eql/\den V s= .bool b)\/(op= .neq/\den V s= .bool (!b))):=by
 cases op<;>simp only[mP] at h;case eql=>exact⟨_,h,.inl ⟨rfl,rfl⟩⟩
 case neq=>exact⟨_,h,.inr ⟨rfl,rfl⟩⟩
theorem Ge {V:Vl} {y:SV} {ys:List SV} (h:lh y=some ys):den V y= .agg ⟨ys.map (aH V)⟩:=by
 cases y with
 |agg l=>simp only[lh,cn] at h;subst h;rfl
 |v x=>
  cases x with
  |agg a=>obtain⟨l⟩:=a;simp only[lh,cn] at h;subst h;rw[vE];rfl
  |_=>simp [lh] at h
 |_=>simp [lh] at h
theorem Gs {op:BinOp} {t:TypeId} {o o' :Operand} {V:Vl} {K:SV->Prop} {xs:List SV} {y:SV} {xv:Value} (hxv:xv= .agg ⟨xs.map (aH V)⟩) 
  (he:wj P t) (hl:sd (cU P t) xs=true) (h:az (.mk (k:=fun b=>mP (.mk (k:=(op,K)) b)) ((lh y).bind fun ys=>gj xs ys))):
  ∃s,K s/\Yl c P (do eqGuard op t o o' xv (den V y);binOp op t xv (den V y)) w (den V s):=by
 obtain⟨b,hb,hK⟩:=ay h;simp only[Option.bind_eq_some_iff] at hb;obtain⟨ys,hys,hb⟩:=hb;have hyv:den V y= .agg ⟨ys.map (aH V)⟩:=Ge hys;have hE:=fun op=>he (xs.map (aH V)) (ys.map (aH V)) b w o o' op (Gv hb) (Rp hl)
 obtain⟨s,hs,hh⟩:=C0 (V:=V) hK;refine⟨s,hs,fun hc=> ?_⟩;rw[hxv,hyv];rcases hh with ⟨rfl,hr⟩ |⟨rfl,hr⟩
 ·rw[hr];simp only[Sem.run_bind,(hE .eql).1,Result.andThen_ok,binOp,(hE .eql).2,Sem.run_pure]
 ·rw[hr];simp only[Sem.run_bind,(hE .neq).1,Result.andThen_ok,binOp,(hE .neq).2,Sem.run_pure]
theorem run_equal_bool {t:TypeId} (x y:Bool) (h:P.underlying t=some .bool):(Op.equal t (.bool x) (.bool y)).run P w= .ok (x==y) w:=by
 have hd:∀d:Nat,(Op.equalIn (d+1) t (.bool x) (.bool y)).run P w= .ok (x==y) w:=fun d=>by
  simp only[Op.equalIn,Sem.run_bind,run_underlying h,Result.andThen_ok,Sem.run_pure]
 exact hd 9999
theorem F4 {t:TypeId} {v:Value} (h:Eu P t=true) (hv:LZ v):(Op.equal t v .nilIface).run P w= .ok (vu v) w:=by
 unfold Eu at h;split at h
 ·rename_i ms hu;have hd:∀d:Nat,(Op.equalIn (d+1) t v .nilIface).run P w= .ok (vu v) w:=fun d=>by
   rcases hv with rfl |⟨ty,x,rfl⟩<;>simp only[Op.equalIn,Sem.run_bind,run_underlying hu,Result.andThen_ok,Sem.run_pure,vu]
  exact hd 9999
 ·cases h
theorem M7 {op:BinOp} {x:SV} {t:TypeId} {o:Operand} {V:Vl} {K:SV->Prop} (h:rJ (.mk (k:=(P,op,t,U c,K)) x)):
  ∃s,K s/\Yl c P (do eqGuard op t o (.const .nilIface) (den V x) .nilIface;binOp op t (den V x) .nilIface) w (den V s):=by
 unfold rJ at h;split at h
 ·rename_i v e;cases e;obtain⟨h1,h2,h3⟩:=h;obtain⟨s,hs,hh⟩:=C0 (V:=V) h3;refine⟨s,hs,fun hc=> ?_⟩;have hv:=h2 hc;have hg:∀op,(eqGuard op t o (.const .nilIface) v .nilIface).run P w= .ok () w:=fun op=>by
   unfold eqGuard;rcases hv with rfl |⟨ty,x,rfl⟩<;>cases op<;>simp
  have lW:binOp .eql t v .nilIface=(do let b <- Op.equal t v .nilIface;pure (.bool b)):=by
   rcases hv with rfl |⟨ty,x,rfl⟩<;>rfl
  have Mr:binOp .neq t v .nilIface=(do let b <- Op.equal t v .nilIface;pure (.bool (!b))):=by
   rcases hv with rfl |⟨ty,x,rfl⟩<;>rfl
  rcases hh with ⟨rfl,hr⟩ |⟨rfl,hr⟩
  ·rw[hr];simp only[Sem.run_bind,db,hg,Result.andThen_ok,lW,F4 h1 hv,Sem.run_pure]
  ·rw[hr];simp only[Sem.run_bind,db,hg,Result.andThen_ok,Mr,F4 h1 hv,Sem.run_pure]
 ·cases h
theorem Oc {op:BinOp} {x y:SV} {t:TypeId} {o o' :Operand} {V:Vl} {K:SV->Prop} (h:lM (.mk (k:=(P,op,t,U c,K)) (x,y))):
  ∃s,K s/\Yl c P (do eqGuard op t o o' (den V x) (den V y);binOp op t (den V x) (den V y)) w (den V s):=by
 unfold lM at h;split at h
 ·rename_i k a k' b e;cases e;exact Od h.1 h.2
 ·rename_i a b e;cases e;exact Ob h
 ·rename_i a b e;cases e;obtain⟨s,hs,hh⟩:=C0 (V:=V) h.2;refine⟨s,hs,fun hc=> ?_⟩;rcases hh with ⟨rfl,hr⟩ |⟨rfl,hr⟩
  ·rw[hr];simp only[Sem.run_bind,eqGuard_at_bool,db,Sem.run_pure,Result.andThen_ok,binOp,run_equal_bool a b h.1]
  ·rw[hr];simp only[Sem.run_bind,eqGuard_at_bool,db,Sem.run_pure,Result.andThen_ok,binOp,run_equal_bool a b h.1]
 ·rename_i xs y e;cases e;exact Gs rfl h.1 h.2.1 h.2.2
 ·rename_i xs y e;cases e;obtain⟨l⟩:=xs;refine Gs (xs:=l.map .v) (by rw[vE];rfl) h.1 h.2.1 h.2.2
 ·rename_i a n' c' e;cases e;obtain⟨rfl,h2,h3⟩:=h;refine⟨_,h3,fun hc=> ?_⟩;obtain⟨e,he⟩:∃e,P.underlying t=some (.slice e):=by
   unfold eb at h2;split at h2
   ·rename_i e he;exact⟨e,he⟩
   ·cases h2
  have hr:(binOp .eql t (.slice a n' c') (.slice none 0 0)).run P w= .ok (.bool a.isNone) w:=by
   have h1:∀d,(Op.equalIn (d+1) t (.slice a n' c') (.slice none 0 0)).run P w= .ok a.isNone w:=fun d=>by cases a<;>simp [Op.equalIn,run_underlying he]
   simp only[binOp];simp [Op.equal,Op.maxDepth,h1 9999]
  simp only[Sem.run_bind,eqGuard_at_slice,db,Sem.run_pure,Result.andThen_ok];exact hr
 ·cases h
end
section
variable {P:Program} {w:World}
theorem vg {t:TypeId} (h:0<aK P t):(sizeOf t).run P w= .ok (aK P t) w:=by
 unfold aK at h ⊢;cases hi:P.info? t with
 |none=>rw[hi] at h;simp at h
 |some i=>simp [sizeOf,typeInfo,hi]
theorem F7 {t:TypeId} (h:cC P t=some none):(isAgg t).run P w= .ok false w:=by
 unfold cC at h;split at h
 ·simp at h
 ·simp at h
 ·rename_i d h1 h2 hd;simp only[isAgg,Sem.run_bind,run_underlying hd,Result.andThen_ok];rfl
 ·cases h
theorem zQ {t:TypeId} {n:Nat} (h:cC P t=some (some n)):(isAgg t).run P w= .ok true w/\(sizeOf t).run P w= .ok n w:=by
 unfold cC at h;split at h
 ·rename_i fs hd;simp only[Option.map_eq_some_iff,cn] at h;obtain⟨i,hi,rfl⟩:=h;exact⟨by simp [isAgg,run_underlying hd],by simp [sizeOf,typeInfo,hi]⟩
 ·rename_i fs k hd;simp only[Option.map_eq_some_iff,cn] at h;obtain⟨i,hi,rfl⟩:=h;exact⟨by simp [isAgg,run_underlying hd],by simp [sizeOf,typeInfo,hi]⟩
 ·cases h
 ·cases h
theorem uQ {t:TypeId} {ad:Addr} {ag:Option Nat} {cs:List Value} {v:Value} (h:cC P t=some ag) (hc:∀j u,cs[j]? =some u->w.cell? (ad.add j)=some u)
  (hv:match ag with |none=>cs=[v] |some n=>cs.length=n/\v= .agg ⟨cs⟩):(loadVar t ad).run P w= .ok v w:=by
 cases ag with
 |none=>
  subst hv;have h0:=hc 0 v rfl;rw[Addr.add_zero'] at h0;simp only[loadVar,Sem.run_bind,F7 h,Result.andThen_ok,Bool.false_eq_true,if_false];rw[run_load];simp [h0]
 |some n=>
  obtain⟨hl,rfl⟩:=hv;simp only[loadVar,Sem.run_bind,(zQ h).1,(zQ h).2,Result.andThen_ok,if_true];subst hl;rw[run_loadCells_list w ad cs hc];rfl
theorem Hz {D:Nat} {o o' :Option Obj} {c:Array Value} {t:TypeId} {f:Nat×Nat} (h:mw D o o') (ho:o=some (.cells c t f)):∃c' t' f',o' =some (.cells c' t' f')/\∀j,j<D->c'[j]? =c[j]? :=by
 subst ho;exact h
theorem Ah {m:Mem} {D:Nat->Nat} (hle:m.le ⟨w,D⟩) {ad:Addr} {v:Value} (hs:ad.spot=none) (hd:ad.off<m.D ad.block) (h:m.w.cell? ad=some v):w.cell? ad=some v:=by
 obtain⟨_,hk⟩:=hle ad.block;obtain⟨_,hk⟩:=hk (by omega);unfold World.cell? at h ⊢;split at h
 ·rename_i c t f hc;obtain⟨c',t',f',ho,hj⟩:=Hz hk hc;dsimp only at ho;rw[ho];simp only[hs,Option.isSome_none,Bool.false_eq_true,if_false] at h ⊢;rw[hj _ hd];exact h
 ·cases h
theorem kD (ad:Addr) (j:Nat) (h:ad.spot=none):(ad.add j).block=ad.block/\(ad.add j).off=ad.off+j/\(ad.add j).spot=none:=by
 unfold Addr.add;split
 ·rename_i e;subst e;exact⟨rfl,rfl,h⟩
 ·exact⟨rfl,rfl,rfl⟩
theorem K9 {m:Mem} {D:Nat->Nat} (hle:m.le ⟨w,D⟩) {x:Value} {cs:List Value} (h:Rd m x cs):∃ad,x= .pointer (some ad)/\∀j u,cs[j]? =some u->w.cell? (ad.add j)=some u:=by
 obtain⟨ad,hx,hs,hc⟩:=h;refine⟨ad,hx,fun j u hu=> ?_⟩;have hj:j<cs.length:=(List.getElem?_eq_some_iff.1 hu).1;obtain⟨h1,h2⟩:=hc j hj;obtain⟨e1,e2,e3⟩:=kD ad j hs;exact Ah hle e3 (by rw[e1,e2];exact h2) (h1.trans hu)
theorem KJ {m:Mem} {D:Nat->Nat} (hle:m.le ⟨w,D⟩) {x:Option Addr} {n sz:Nat} {cs:List Value} (h:ax m x n sz cs) (hn:0<n):∃ad,x=some ad/\∀j u,cs[j]? =some u->w.cell? (ad.add j)=some u:=by
 obtain⟨hl,h⟩:=h;obtain⟨ad,hx,hs,hc⟩:=h hn;refine⟨ad,hx,fun j u hu=> ?_⟩;have hj:j<cs.length:=(List.getElem?_eq_some_iff.1 hu).1;obtain⟨h1,h2⟩:=hc j (by omega);obtain⟨e1,e2,e3⟩:=kD ad j hs;exact Ah hle e3 (by rw[e1,e2];exact h2) (h1.trans hu)
theorem gF {x:Sem Value} {v:Value} {w' :World} (h:x.run P w= .ok v w'):(do pure (Next.value (<- x)):Sem Next).run P w= .ok (.value v) w' :=by
 simp [h]
theorem G6 {V:Vl} {cs:List SV} {off:Nat} {ag:Option Nat} {s:SV} (h:rG cs off ag=some s):
  match ag with |none=>(cs.map (aH V))[off]? =some (den V s) |some n=>den V s= .agg ⟨((cs.map (aH V)).drop off).take n⟩/\off+n<=cs.length:=by
 cases ag with
 |none=>
  obtain⟨x,hx,hs⟩:=Option.bind_eq_some_iff.1 h;dsimp only;rw[List.getElem?_map,hx];cases x<;>simp only[lF,cn] at hs<;>first |(subst hs;rfl) |cases hs
 |some n=>
  simp only[rG] at h;split at h
  ·rename_i hl;simp only[cn] at h;subst h;exact⟨by rw[D7,List.map_take,List.map_drop],hl⟩
  ·cases h
end
theorem QX {rho:List Gd} {t:Nat} {g:Gd} (h:vV rho t=some g):g.slot=t/\g∈rho:=by
 induction rho with
 |nil=>cases h
 |cons x r ih=>
  obtain⟨i',t',p',b'⟩:=x;simp only[vV] at h;split at h
  ·rename_i e;cases h;exact⟨e,bL ..⟩
  ·exact⟨(ih h).1,bt _ (ih h).2⟩
theorem qW {α β:Type} {o:Option α} {f:α->Option β} {y:β} (h:o.bind f=some y):∃x,o=some x/\f x=some y:=Option.bind_eq_some_iff.1 h
def Run (P:Program) (c:Bool) (x:Sem Next) (w:World) (v:Value):Prop:=c=true->x.run P w= .ok (.value v) w
theorem Yl.run {P:Program} {c:Bool} {x:Sem Value} {w:World} {v:Value} (h:Yl c P x w v):Run P c (do pure (.value (<- x))) w v:=fun hc=>gF (h hc)
section
variable {C:Ctx} {n:Nat} {st:LS} {a:Act} {V:Vl} {D:Nat->Nat} {w:World} {P:Program} {p:ba} {K:SV->Prop} {c:Bool}
theorem NF {s:SV} (h:qp (.mk (k:=(U c,K)) s)):∃r,K r/\den V r=den V s/\(c=true->o6 (den V s)=true):=by
 unfold qp at h;split at h
 ·rename_i x e;cases e;exact⟨_,h.2,rfl,fun hc=>h.1 hc⟩
 ·rename_i k o e;cases e;exact⟨_,h,rfl,fun _=>rfl⟩
 ·cases h
theorem Ru {o:Oper} {x:Operand} (ho:o.op= .nilCheck x) (h:o6 (a.eval x)=true):(execOp a.eval o).run P w= .ok (.value (a.eval x)) w:=by
 unfold execOp;simp only[ho];revert h;generalize a.eval x=v
 intro h;cases v with
 |pointer q=>cases q with
  |none=>cases h
  |some q=>rfl
 |nilIface=>cases h
 |nilFunc=>cases h
 |func f b d=>cases f<;>first |rfl |cases h
 |_=>rfl
theorem OL {op:UnOp} {s:SV} (h:qF (.mk (k:=(op,U c,K)) s)):∃r,K r/\Yl c P (Op.unary op (den V s)) w (den V r):=by
 unfold qF at h;split at h
 ·rename_i b e;cases e;exact⟨_,h,fun _=>rfl⟩
 ·rename_i k m e;cases e;obtain⟨r,h1,h2⟩:=wU (V:=V) h;exact⟨r,h1,fun hc=>by rw[h2 hc];rfl⟩
 ·cases h
theorem ab3 {l:List UInt8} {j:Nat} {u:Value} (h:(qE l)[j]? =some u):∃b:UInt8,l[j]? =some b/\u= .int .u8 b.toNat:=by
 simp only[qE,List.getElem?_map,Option.map_eq_some_iff] at h;obtain⟨b,hb,rfl⟩:=h;exact⟨b,hb,rfl⟩
theorem T4 {P:Program} {src dst:TypeId} {k:IntKind} {m:Int} {k' :IntKind} (h:oD P src dst= .int k):(convert src dst (.int k' m)).run P w= .ok (.int k (k.wrap m)) w:=by
 unfold oD at h;split at h
 ·rename_i k1 k2 h1 h2;cases h;simp [convert,run_underlying h1,run_underlying h2,Conv.intToInt]
 ·cases h
 ·split at h<;>cases h
 ·cases h
theorem RE {P:Program} {src dst:TypeId} {s:ByteArray} (h:oD P src dst= .same):(convert src dst (.string s)).run P w= .ok (.string s) w:=by
 unfold oD at h;split at h
 ·cases h
 ·rename_i h1 h2;simp [convert,run_underlying h1,run_underlying h2]
 ·split at h<;>cases h
 ·cases h
theorem T5 {P:Program} {src dst:TypeId} (h:oD P src dst= .b2s):∃e,P.underlying src=some (.slice e)/\P.underlying e=some (.int .u8)/\P.underlying dst=some .string:=by
 unfold oD at h;split at h
 ·cases h
 ·cases h
 ·rename_i e h1 h2;split at h
  ·rename_i h3;exact⟨e,h1,h3,h2⟩
  ·cases h
 ·cases h
theorem Jo {P:Program} {src dst:TypeId} {l:List UInt8} {x:Option Addr} {n cp:Nat} (h:oD P src dst= .b2s) (hn:l.length=n) (hx:0<n->∃ad,x=some ad/\∀j u,(qE l)[j]? =some u->w.cell? (ad.add j)=some u):
  (convert src dst (.slice x n cp)).run P w= .ok (.string (bs l)) w:=by
 obtain⟨e,h1,h2,h3⟩:=T5 h;rcases Nat.eq_zero_or_pos n with h0 |h0
 ·subst h0;have:l=[]:=List.eq_nil_of_length_eq_zero hn;subst this;cases x with
  |none=>rw[run_convert_bytes_string w src dst e none _ cp h1 h2 h3];simp [Conv.bytesToString];rfl
  |some ad=>exact run_convert_bytes_back w src dst e ad cp [] h1 h2 h3 (fun j hj=>absurd hj (by simp))
 ·obtain⟨ad,rfl,hc⟩:=hx h0;subst hn;exact run_convert_bytes_back w src dst e ad cp l h1 h2 h3 (fun j hj=>hc j _ (by simp [qE,List.getElem?_eq_getElem hj]))
theorem ry {e:TypeId} {sz:Nat} {h:Hd} {m:Nat} {xs:List Value} (ho:w.ownsRow 0 e sz h.val m xs):h.n=m/\xs.length=m * sz/\(0<m->∃g,h.a=some ⟨g,0,none⟩/\∀j u,xs[j]? =some u->w.cell? ⟨g,j,none⟩=some u):=by
 obtain⟨hl,hv⟩:=ho;rcases hv with ⟨hv,rfl⟩ |⟨g,cap,cur,hv,_,hh,pz,_,eQ,htk⟩
 ·simp only[Hd.val,Value.slice.injEq] at hv;exact⟨hv.2.1,hl,fun h0=>absurd h0 (by omega)⟩
 ·simp only[Hd.val,Value.slice.injEq] at hv;refine⟨hv.2.1,hl,fun _=>⟨g,hv.1,fun j u hu=> ?_⟩⟩;have hj:j<m * sz:=by have:=(List.getElem?_eq_some_iff.1 hu).1;omega
  rw[<- htk,List.getElem?_take,ai hj] at hu;simp only[World.cell?,hh,Option.isSome_none,Bool.false_eq_true,if_false];rw[<- hu,Array.getElem?_toList]
theorem zT (g j:Nat):(Addr.add ⟨g,0,none⟩ j)=⟨g,j,none⟩:=by
 unfold Addr.add;split
 ·rename_i h;subst h;rfl
 ·simp
theorem pU (hS:Sat C n st a V D w) {k u:Nat} {b:Vc} (h:cq st.vc k u=some b):uP V D w b/\b.id=k/\b.ver=u:=
 ⟨hS.heap.vc b (xH h).2.2,(xH h).1,(xH h).2.1⟩
theorem M9 (hS:Sat C n st a V D w) {src dst:TypeId} {s:SV} (h:nQ (.mk (k:=(U c,K)) (st,oD P src dst,s))):
  ∃r,K r/\Yl c P (convert src dst (den V s)) w (den V r):=by
 unfold nQ at h;split at h
 ·rename_i k k' m e;simp only[A.mk.injEq,Prod.mk.injEq] at e;obtain⟨rfl,e2,rfl⟩:=e;exact⟨_,h,fun _=>T4 e2⟩
 ·rename_i s' e;simp only[A.mk.injEq,Prod.mk.injEq] at e;obtain⟨rfl,e2,rfl⟩:=e;exact⟨_,h,fun _=>RE e2⟩
 ·rename_i af k v e;simp only[A.mk.injEq,Prod.mk.injEq] at e;obtain⟨rfl,e2,rfl⟩:=e;obtain⟨b,hb,l,h1,h2⟩:=ay h;refine⟨_,h2,fun hc=> ?_⟩;obtain⟨e1,e3⟩:=h1 hc;obtain⟨hv,rfl,rfl⟩:=pU hS hb;obtain⟨hn,hl,hx⟩:=ry hv.1;have uK:l.length=b.n:=by rw[e1,Nat.mul_one,e3] at hl;simpa [qE] using hl
  refine Jo e2 (by rw[uK,hn]) (fun h0=> ?_);obtain⟨g,hg,bW⟩:=hx (by omega);refine⟨_,hg,fun j y hy=> ?_⟩;rw[zT];exact bW j y (by rw[e3];exact hy)
 ·rename_i af x m cp e;simp only[A.mk.injEq,Prod.mk.injEq] at e;obtain⟨rfl,e2,rfl⟩:=e;obtain⟨l,h1,h2⟩:=h;refine⟨_,h2,fun hc=> ?_⟩;have hr:=h1 hc;refine Jo e2 (by have:=hr.1;simpa [qE] using this) (fun h0=>KJ hS.mle hr h0)
 ·cases h
theorem DD {P:Program} {s:TypeId} {f off sz:Nat} {ag:Option Nat} (h:a8 P s f=some (off,ag,sz)):∃fs x,P.underlying s=some (.struct fs)/\fs[f]? =some x/\x.offset=off/\cC P x.type=some ag/\0<aK P x.type/\aK P x.type=sz:=by
 unfold a8 at h;split at h
 ·rename_i fs hs;obtain⟨x,hx,h⟩:=qW h;split at h
  ·rename_i h0;simp only[Option.map_eq_some_iff,Prod.mk.injEq] at h;obtain⟨g,hg,rfl,rfl,rfl⟩:=h;exact⟨fs,x,hs,hx,rfl,hg,h0,rfl⟩
  ·cases h
 ·cases h
theorem Cz {P:Program} {s:TypeId} {f off sz:Nat} {ag:Option Nat} {ad:Addr} (h:a8 P s f=some (off,ag,sz)):(Instr.fieldAt s (.pointer (some ad)) f).run P w= .ok (.pointer (some (ad.add off))) w:=by
 obtain⟨fs,x,hs,hx,rfl,_,h0,_⟩:=DD h;have:aK P x.type≠0:=by omega
 simp [Instr.fieldAt,run_underlying hs,hx,Instr.sureAddr,fieldPlace,vg h0,this]
theorem mz (b o f:Nat):(Addr.add ⟨b,o,none⟩ f)=⟨b,o+f,none⟩:=by
 unfold Addr.add;split
 ·rename_i h;subst h;rfl
 ·rfl
theorem NL (hS:Sat C n st a V D w) {s:TypeId} {x:SV} {f off sz:Nat} {ag:Option Nat} (hf:a8 P s f=some (off,ag,sz))
  (h:oX (.mk (k:=(U c,K)) (st,x,off))):∃r,K r/\Yl c P (Instr.fieldAt s (den V x) f) w (den V r):=by
 unfold oX at h;split at h
 ·rename_i af k o f' e;simp only[A.mk.injEq,Prod.mk.injEq] at e;obtain⟨rfl,rfl,rfl⟩:=e;exact⟨_,h,fun _=>by rw[vk,Cz hf,mz];rfl⟩
 ·rename_i af k v o f' e;simp only[A.mk.injEq,Prod.mk.injEq] at e;obtain⟨rfl,rfl,rfl⟩:=e;obtain⟨b,hb,h1,h2⟩:=ay h;refine⟨_,h2,fun hc=> ?_⟩;obtain⟨hv,rfl,rfl⟩:=pU hS hb;obtain⟨_,hl,hx⟩:=ry hv.1;have ho:=h1 hc;have hn:0<b.n:=by
   rcases Nat.eq_zero_or_pos b.n with h0 |h0
   ·rw[h0,Nat.zero_mul] at hl;omega
   ·exact h0
  obtain⟨g,hg,_⟩:=hx hn;show(Instr.fieldAt s (.pointer ((V.γ b.id b.ver).a.map (·.add o))) f).run P w= .ok (.pointer ((V.γ b.id b.ver).a.map (·.add (o+off)))) w;rw[hg];simp only[Option.map_some,mz,Cz hf,Nat.zero_add]
 ·rename_i af y f' e;simp only[A.mk.injEq,Prod.mk.injEq] at e;obtain⟨rfl,rfl,rfl⟩:=e;refine⟨_,h.2,fun hc=> ?_⟩;obtain⟨ad,rfl⟩:=h.1 hc;exact Cz hf
 ·cases h
theorem Dq {P:Program} {t:TypeId} {ag:Option Nat} {cs:List Value} {off:Nat} {v:Value} (h:cC P t=some ag)
  (hv:match ag with |none=>cs[off]? =some v |some k=>v= .agg ⟨(cs.drop off).take k⟩/\off+k<=cs.length):(part t ⟨cs⟩ off).run P w= .ok v w:=by
 cases ag with
 |none=>
  simp only[part,Sem.run_bind,F7 h,Result.andThen_ok,Bool.false_eq_true,if_false];dsimp only at hv;have:(⟨cs⟩:Array Value)[off]? =some v:=by rw[<- hv,<- Array.getElem?_toList]
  rw[this];rfl
 |some k=>
  obtain⟨rfl,hl⟩:=hv;simp only[part,Sem.run_bind,(zQ h).1,(zQ h).2,Result.andThen_ok,if_true,Sem.run_pure];have:(Array.mk cs).extract off (off+k)=⟨(cs.drop off).take k⟩:=by
   apply Array.ext'
   simp [List.extract,Nat.add_sub_cancel_left]
  rw[this]
theorem MV {s:TypeId} {x:SV} {f off sz:Nat} {ag:Option Nat} {cs:List SV} {r:SV} (hf:a8 P s f=some (off,ag,sz)) (hx:lh x=some cs) (h:rG cs off ag=some r):
  (Instr.field s (den V x) f).run P w= .ok (den V r) w:=by
 obtain⟨fs,y,hs,hy,rfl,hg,_,_⟩:=DD hf;have hd:den V x= .agg ⟨cs.map (aH V)⟩:=Ge hx;simp only[Instr.field,Sem.run_bind,run_underlying hs,Result.andThen_ok,hy,hd,asAgg,Sem.run_pure];refine Dq hg ?_;have ht:=G6 (V:=V) h;cases ag with
 |none=>
  exact ht
 |some k=>exact⟨ht.1,by rw[List.length_map];exact ht.2⟩
end
section
variable {C:Ctx} {n:Nat} {st:LS} {a:Act} {V:Vl} {D:Nat->Nat} {w:World} {P:Program} {p:ba} {K:SV->Prop} {c:Bool}
theorem iJ {t e:TypeId} (h:eb P t=some e):P.underlying t=some (.slice e):=by
 unfold eb at h;split at h
 ·rename_i e' h';cases h;exact h'
 ·cases h
theorem Cy {t e:TypeId} {ad:Addr} {len cp:Nat} {k:IntKind} {i:Int} (h:eb P t=some e) (h0:0<aK P e) (hi:0<=i) (hl:i<len):
  (Instr.indexAt t (.slice (some ad) len cp) (.int k i)).run P w= .ok (.pointer (some (ad.add (i.toNat * aK P e)))) w:=by
 simp [Instr.indexAt,asIntOf,run_underlying (iJ h),hi,hl,vg h0]
theorem NK (hS:Sat C n st a V D w) {t e:TypeId} {x i:SV} (he:eb P t=some e) (h:oW (.mk (k:=(P,U c,K)) (st,e,x,i))):
  ∃r,K r/\Yl c P (Instr.indexAt t (den V x) (den V i)) w (den V r):=by
 unfold oW at h;split at h
 ·rename_i af e' x m cp k j q;simp only[A.mk.injEq,Prod.mk.injEq] at q;obtain⟨rfl,rfl,rfl,rfl⟩:=q;refine⟨_,h.2.2,fun hc=> ?_⟩;obtain⟨h1,h2,h3⟩:=h.2.1 hc;cases x with
  |none=>exact absurd rfl h3
  |some ad=>exact Cy he h.1 h1 h2
 ·rename_i af e' k nn cp kk j q;simp only[A.mk.injEq,Prod.mk.injEq] at q;obtain⟨rfl,rfl,rfl,rfl⟩:=q;refine⟨_,h.2.2,fun hc=> ?_⟩;obtain⟨h1,h2⟩:=h.2.1 hc;have:=Cy (P:=P) (w:=w) (ad:=⟨V.β k,0,none⟩) (cp:=cp) (k:=kk) he h.1 h1 h2;show(Instr.indexAt t (.slice (some ⟨V.β k,0,none⟩) nn cp) (.int kk j)).run P w= .ok (.pointer (some ⟨V.β k,j.toNat * aK P e,none⟩)) w;rw[this,Addr.add_lit,Nat.zero_add]
 ·rename_i af e' k v kk j q;simp only[A.mk.injEq,Prod.mk.injEq] at q;obtain⟨rfl,rfl,rfl,rfl⟩:=q;obtain⟨b,hb,h0,h1,h2⟩:=ay h;refine⟨_,h2,fun hc=> ?_⟩;obtain⟨hv,rfl,rfl⟩:=pU hS hb;obtain⟨i0,i1,_⟩:=h1 hc;obtain⟨hn,hl,hx⟩:=ry hv.1;obtain⟨g,hg,_⟩:=hx (by omega);show(Instr.indexAt t (V.γ b.id b.ver).val (.int kk j)).run P w= .ok (.pointer ((V.γ b.id b.ver).a.map (·.add (j.toNat * aK P e)))) w;unfold Hd.val;rw[hg,hn];exact Cy he h0 i0 i1
 ·cases h
theorem byte_at (s:ByteArray) (i:Nat) (h:i<(tl s).length):s[i]? =some ((tl s).getD i 0):=by
 have hs:i<s.size:=by rw[<- vq];exact h
 have e1:s[i]? =some s[i]:=getElem?_pos s i hs;rw[e1];rw[List.getD_eq_getElem?_getD,List.getElem?_eq_getElem h];rfl
theorem OR {t:TypeId} {x i:SV} (h:sw (.mk (k:=(P,t,U c,K)) (x,i))):∃r,K r/\Yl c P (Instr.index t (den V x) (den V i)) w (den V r):=by
 unfold sw at h;split at h
 ·rename_i s k j q;simp only[A.mk.injEq,Prod.mk.injEq] at q;obtain⟨rfl,rfl⟩:=q;refine⟨_,h.2.2,fun hc=> ?_⟩;obtain⟨h1,h2⟩:=h.2.1 hc;have hb:=byte_at s j.toNat (by omega);simp only[db,Instr.index,asIntOf,Sem.run_bind,Sem.run_pure,Result.andThen_ok,run_underlying h.1,ai h1,hb]
 ·cases h
theorem F6 {o:Option SV} {d l:Int} (h:mi o d=some l):(o=none/\l=d)\/∃k,o=some (.v (.int k l)):=by
 unfold mi at h;split at h
 ·cases h;exact .inl ⟨rfl,rfl⟩
 ·cases h;exact .inr ⟨_,rfl⟩
 ·cases h
theorem AU {k:IntKind} {i:Int} {y:Nat} {code:BoundsCode} (h0:0<=i) (h1:i<=y):(Instr.sliceBound (.int k i) y code).run P w= .ok i.toNat w:=by
 simp [Instr.sliceBound,asIntOf,h0,h1]
theorem DT {isS:Bool} {len cp:Nat} {lo hi:Option SV} {l h:Int} (hl:mi lo 0=some l) (hh:mi hi len=some h) (h0:0<=l) (h1:l<=h) (h2:h<=cp):
  (Instr.sliceBounds isS len cp (lo.map (den V)) (hi.map (den V)) none).run P w= .ok (l.toNat,h.toNat,cp) w:=by
 have eh:(h.toNat:Int)=h:=Int.toNat_of_nonneg (by omega);rcases F6 hl with ⟨rfl,rfl⟩ |⟨k,rfl⟩<;>rcases F6 hh with ⟨rfl,rfl⟩ |⟨k',rfl⟩
 ·simp [Instr.sliceBounds]
 ·simp only[Instr.sliceBounds,Option.map_none,Option.map_some,Sem.run_bind,Sem.run_pure,Result.andThen_ok,db];rw[AU (by omega) h2];rfl
 ·simp only[Instr.sliceBounds,Option.map_none,Option.map_some,Sem.run_bind,Sem.run_pure,Result.andThen_ok,db];rw[AU h0 h1];simp
 ·simp only[Instr.sliceBounds,Option.map_none,Option.map_some,Sem.run_bind,Sem.run_pure,Result.andThen_ok,db];rw[AU (by omega) h2];simp only[Result.andThen_ok];rw[AU h0 (by omega)];rfl
theorem N2 (s:ByteArray) (l h:Nat):s.extract l h=bs (((tl s).take h).drop l):=by
 rw[<- eW (s.extract l h)];congr 1
 show(s.extract l h).data.toList=_;rw[Lib.extract_data,List.drop_take];rfl
theorem OM (hS:Sat C n st a V D w) {t:TypeId} {x:SV} {lo hi:Option SV} (h:ph (.mk (k:=(P,t,U c,K)) (st,x,lo,hi))):
  ∃r,K r/\Yl c P (Instr.sliceAt t (den V x) (lo.map (den V)) (hi.map (den V)) none) w (den V r):=by
 unfold ph at h;split at h
 ·rename_i s lo hi q;simp only[A.mk.injEq,Prod.mk.injEq] at q;obtain⟨rfl,rfl,rfl,rfl⟩:=q;obtain⟨ht,h⟩:=h;obtain⟨l,hl,h⟩:=ay h;obtain⟨r,hr,h⟩:=ay h;simp only[EI] at h;refine⟨_,h.2,fun hc=> ?_⟩;obtain⟨h0,h1,h2⟩:=h.1 hc;rw[vq] at hr h2;rw[db,run_sliceAt_string (h:=ht)];simp only[Instr.slice,Sem.run_bind,run_underlying ht,Result.andThen_ok,Option.isSome_none,Bool.false_eq_true,if_false,Sem.run_pure];rw[DT hl hr h0 h1 h2];simp only[Result.andThen_ok,N2];rfl
 ·rename_i x m cp lo hi q;simp only[A.mk.injEq,Prod.mk.injEq] at q;obtain⟨rfl,rfl,rfl,rfl⟩:=q;obtain⟨l,hl,h⟩:=ay h;obtain⟨r,hr,h⟩:=ay h;obtain⟨e,he,hz,h⟩:=ay h;refine⟨_,h.2,fun hc=> ?_⟩;obtain⟨h0,h1,h2⟩:=h.1 hc;have hu:=iJ he;have zu:P.underlying t=some (.slice (P.elem t)):=by
   rw[hu];unfold Program.elem;rw[hu]
  rw[db,run_sliceAt_slice (h:=zu)];simp only[Instr.slice,Sem.run_bind,run_underlying hu,Result.andThen_ok];rw[DT hl hr h0 h1 h2];simp only[Result.andThen_ok,vg hz,Sem.run_pure];rfl
 ·rename_i af k v lo q;simp only[A.mk.injEq,Prod.mk.injEq] at q;obtain⟨rfl,rfl,rfl,rfl⟩:=q;obtain⟨l,hl,h⟩:=ay h;obtain⟨b,hb,h⟩:=ay h;obtain⟨e,he,hz,h⟩:=ay h;obtain⟨hv,jG,hbv⟩:=pU hS hb;refine⟨_,h.2,fun hc=> ?_⟩;obtain⟨h0,h1⟩:=h.1 hc;subst jG;subst hbv;obtain⟨hn,_,_⟩:=ry hv.1;have yQ:b.n<=(V.γ b.id b.ver).c:=by
   rcases hv.1.2 with ⟨hq,h2⟩ |⟨g,cap,cur,hq,_,_,h2,_⟩
   ·omega
   ·simp only[Hd.val,Value.slice.injEq] at hq;omega
  have hu:=iJ he;have zu:P.underlying t=some (.slice (P.elem t)):=by
   rw[hu];unfold Program.elem;rw[hu]
  show(Instr.sliceAt t (.slice (V.γ b.id b.ver).a (V.γ b.id b.ver).n (V.γ b.id b.ver).c) (lo.map (den V)) (Option.map (den V) none) none).run P w= .ok (gA (V.γ b.id b.ver).a (V.γ b.id b.ver).c l.toNat (V.γ b.id b.ver).n (aK P e)) w;rw[hn,run_sliceAt_slice (h:=zu)];simp only[Instr.slice,Sem.run_bind,run_underlying hu,Result.andThen_ok];rw[DT (hi:=none) hl rfl h0 h1 (by omega)];simp only[Result.andThen_ok,vg hz,Sem.run_pure];rfl
 ·cases h
theorem xe {t:TypeId} {ad:Addr} {v:Value} (h:(loadVar t ad).run P w= .ok v w):(Instr.loadAt t (.pointer (some ad))).run P w= .ok v w:=by
 simp [Instr.loadAt,Instr.sureAddr,h]
theorem Ke (hS:Sat C n st a V D w) {k:Nat} {b:Bx} (h:dt st.bx k=some b) (dw:b.ty<gn) (j:Nat):w.cell? ⟨V.β k,j,none⟩=(b.cs.map (aH V))[j]? :=by
 obtain⟨rfl,hm⟩:=nG h;obtain⟨o,this,ho⟩:=(hS.heap.bx b hm).1;unfold gL at ho;rw[ai dw] at ho;subst ho;simp only[World.cell?,this,Option.isSome_none,Bool.false_eq_true,if_false];rw[<- Array.getElem?_toList]
theorem Gi (hS:Sat C n st a V D w) {t:TypeId} {x:SV} (h:lB (.mk (k:=(P,t,U c,K)) (st,x))):∃r,K r/\Yl c P (Instr.loadAt t (den V x)) w (den V r):=by
 unfold lB at h;split at h
 ·rename_i af k o q;simp only[A.mk.injEq,Prod.mk.injEq] at q;obtain⟨rfl,rfl⟩:=q;obtain⟨b,hb,dw,h⟩:=ay h;obtain⟨ag,fx,h⟩:=ay h;obtain⟨r,hr,h⟩:=ay h;refine⟨r,h,fun _=>xe ?_⟩;have ht:=G6 (V:=V) hr;cases ag with
  |none=>
   refine uQ (cs:=[den V r]) fx (fun j u hu=> ?_) rfl;cases j with
   |zero=>rw[mz,Ke hS hb dw];simp only[List.getElem?_cons_zero] at hu;rw[<- hu];exact ht
   |succ j=>simp at hu
  |some k' =>
   refine uQ (cs:=((b.cs.map (aH V)).drop o).take k') fx (fun j u hu=> ?_) ⟨?_,ht.1⟩
   ·rw[mz,Ke hS hb dw];rw[List.getElem?_take] at hu;split at hu
    ·rw[List.getElem?_drop] at hu;exact hu
    ·cases hu
   ·have:=ht.2;simp only[List.length_take,gh,List.length_map];omega
 ·rename_i af k v o q;simp only[A.mk.injEq,Prod.mk.injEq] at q;obtain⟨rfl,rfl⟩:=q;obtain⟨b,hb,h⟩:=ay h;obtain⟨ag,fx,h⟩:=ay h;obtain⟨hv,rfl,rfl⟩:=pU hS hb;obtain⟨_,hl,hx⟩:=ry hv.1;have key:o<b.xs.length->∃g,den V (.vp b.id b.ver o)= .pointer (some ⟨g,o,none⟩)/\∀j u,b.xs[j]? =some u->w.cell? ⟨g,j,none⟩=some u:=by
   intro ho;have hn:0<b.n:=by
    rcases Nat.eq_zero_or_pos b.n with h0 |h0
    ·rw[h0,Nat.zero_mul] at hl;omega
    ·exact h0
   obtain⟨g,hg,hc⟩:=hx hn;refine⟨g,?_,hc⟩;show Value.pointer ((V.γ b.id b.ver).a.map (·.add o))=_;rw[hg];simp only[Option.map_some,zT]
  cases ag with
  |none=>
   simp only[tG] at h;refine⟨_,h.2,fun hc=> ?_⟩;have ho:=h.1 hc;obtain⟨g,hg,bW⟩:=key ho;rw[hg,db];refine xe (uQ (cs:=[b.xs.getD o undef]) fx (fun j u hu=> ?_) rfl);cases j with
   |zero=>
    simp only[List.getElem?_cons_zero,cn] at hu;rw[mz];refine bW _ _ ?_;rw[<- hu,Nat.add_zero,List.getD_eq_getElem?_getD,List.getElem?_eq_getElem ho];rfl
   |succ j=>simp at hu
  |some k' =>
   simp only[tG] at h;obtain⟨hk,h⟩:=h;refine⟨_,h.2,fun hc=> ?_⟩;have ho:=h.1 hc;obtain⟨g,hg,bW⟩:=key (by omega);rw[hg,db];refine xe (uQ (cs:=(b.xs.drop o).take k') fx (fun j u hu=> ?_) ⟨by simp only[List.length_take,gh];omega,rfl⟩);rw[mz];refine bW _ _ ?_;rw[List.getElem?_take] at hu;split at hu
   ·rw[List.getElem?_drop] at hu;exact hu
   ·cases hu
 ·rename_i af x q;simp only[A.mk.injEq,Prod.mk.injEq] at q;obtain⟨rfl,rfl⟩:=q;obtain⟨ag,fx,h⟩:=ay h;cases ag with
  |none=>
   simp only[ub] at h;obtain⟨v,h1,h2⟩:=h;refine⟨_,h2,fun hc=> ?_⟩;obtain⟨ad,rfl,bW⟩:=K9 hS.mle (h1 hc);exact xe (uQ fx bW rfl)
  |some k' =>
   simp only[ub] at h;obtain⟨cs,h1,h2⟩:=h;refine⟨_,h2,fun hc=> ?_⟩;obtain⟨hr,hlen⟩:=h1 hc;obtain⟨ad,rfl,bW⟩:=K9 hS.mle hr;exact xe (uQ fx bW ⟨hlen,rfl⟩)
 ·cases h
end
open Classical in
noncomputable def jU:List (Value×Value)->Value->Value->List (Value×Value)
 |[],s,x=>[(s,x)]
 |(a,v)::r,s,x=>if a=s then(a,x)::r else(a,v)::jU r s x
open Classical in
noncomputable def j4:List (Value×Value)->Value->Option (Nat×Value)
 |[],_=>none
 |(a,v)::r,s=>if a=s then some (0,v) else(j4 r s).map fun x=>(x.1+1,x.2)
theorem HK (a v:Value) (l:List (Value×Value)):iB ((a,v)::l)=a::v::iB l:=rfl
theorem Db (s:Value):∀(l:List (Value×Value)),gK (iB l) s=(j4 l s).map (·.2)
 |[]=>rfl
 |(a,v)::l=>by
  rw[HK,gK,j4];by_cases h:a=s
  ·rw[ai h,ai h];rfl
  ·rw[aa h,aa h,Db s l];cases j4 l s<;>rfl
theorem Il (s x:Value):∀(l:List (Value×Value)),oY (iB l) s x=iB (jU l s x)
 |[]=>rfl
 |(a,v)::l=>by
  rw[HK,oY,jU];by_cases h:a=s
  ·rw[ai h,ai h];rfl
  ·rw[aa h,aa h,Il s x l];rfl
theorem D5 (s:Value):∀(es:List MapEntry) (i:Nat),sE es s i=(j4 (es.map fun e=>(e.key,e.val)) s).map fun x=>(i+x.1,x.2)
 |[],_=>rfl
 |e::es,i=>by
  simp only[sE,aG,j4];by_cases h:e.key=s
  ·rw[ai h,ai h];rfl
  ·rw[aa h,aa h,D5 s es (i+1)];cases j4 (es.map fun e=>(e.key,e.val)) s with
   |none=>rfl
   |some x=>simp only[Option.map_some];rw[show i+1+x.1=i+(x.1+1) by omega]
theorem JR {g:Nat}:∀{l:List (Value×Value)} {s:Value} {y:Nat×Value},(∀x∈l,dF g x.1/\gp g x.2)->j4 l s=some y->gp g y.2
 |[],_,_,_,h=>by cases h
 |(a,v)::l,s,y,hl,h=>by
  simp only[j4] at h;split at h
  ·cases h;exact(hl (a,v) (bL ..)).2
  ·obtain⟨y',h',rfl⟩:=Option.map_eq_some_iff.1 h;exact JR (l:=l) (s:=s) (y:=y') (fun x hx=>hl x (bt _ hx)) h'
theorem Js {g:Nat} {s x:Value} (hs:dF g s) (hx:gp g x):∀{l:List (Value×Value)},(∀y∈l,dF g y.1/\gp g y.2)->∀y∈jU l s x,dF g y.1/\gp g y.2
 |[],_,y,hy=>by
  rw[List.mem_singleton.1 hy];exact⟨hs,hx⟩
 |(a,v)::l,hl,y,hy=>by
  rw[jU] at hy;have ha:=hl (a,v) (bL ..);have hr:=fun z hz=>hl z (bt _ hz)
  split at hy
  ·rcases List.mem_cons.1 hy with rfl |hy
   ·exact⟨ha.1,hx⟩
   ·exact hr y hy
  ·rcases List.mem_cons.1 hy with rfl |hy
   ·exact ha
   ·exact Js hs hx hr y hy
theorem O8 {P:Program} {t:TypeId} (h:(dM P t).2=none):(dM P t).1≠1000002:=by
 unfold dM at h ⊢;split<;>rename_i hu
 ·rw[hu] at h;simp only at h ⊢;split<;>rename_i hk he
  ·simp
  ·exfalso;revert h;split
   ·simp_all
   ·simp
   ·simp_all
   ·simp_all
  ·simp
  ·simp
 ·simp
theorem Oo {g:Nat} {v:Value} (h:gp g v) (hg:g≠1000002):∃b,v= .bool b:=by
 unfold gp at h;rwa [aa hg] at h
theorem Q8 {P:Program} {w:World} {g:Nat} {v:Value} (h:dF g v):(Instr.keyThatStays v v).run P w= .ok v w:=by
 have e:Instr.sameBits 10000 v v=true:=by
  unfold dF at h;split at h
  ·obtain⟨s,n,rfl⟩:=h;have hs:(s==s)=true:=(MapKept.bytes_beq s s).2 rfl;simp [Instr.sameBits,hs]
  ·obtain⟨s,rfl⟩:=h;have hs:(s==s)=true:=(MapKept.bytes_beq s s).2 rfl;simp [Instr.sameBits,hs]
 unfold Instr.keyThatStays;rw[e];rfl
def yI (c:Bool) (z:Value):Option Value->Value
 |some v=>if c=true then .tuple #[v,.bool true] else v
 |none=>if c=true then .tuple #[z,.bool false] else z
section
variable {P:Program} {w:World} {t:TypeId} {r fy:Nat} {es:Array MapEntry} {l:List (Value×Value)}
theorem JP {g:Nat} (cF:es.toList.map (fun e=>(e.key,e.val))=l) (hk:∀x∈l,dF g x.1/\gp g x.2):∀x∈es.toList,dF g x.key:=fun x hx=>by
 have:(x.key,x.val)∈l:=by rw[<- cF];exact List.mem_map.2 ⟨x,hx,rfl⟩
 exact(hk _ this).1
theorem GR (ht:oT P t) (hb:w.heap[r]? =some (.map es fy)) (cF:es.toList.map (fun e=>(e.key,e.val))=l) (hk:∀x∈l,dF (dM P t).1 x.1/\gp (dM P t).1 x.2) {key:Value} (pe:dF (dM P t).1 key) (c:Bool):
  (Instr.lookup t (.map (some r)) key c).run P w= .ok (yI c ((dM P t).2.getD (.bool false)) (gK (iB l) key)) w:=by
 obtain⟨_,k,e,h1,h2,h3,h4⟩:=ht;have hc:=h2 w key es.isEmpty 9998 pe;have hf:=h3 w key es.toList pe (JP cF hk);rw[D5,cF] at hf;have hz:=h4 w;rw[Db];cases hx:j4 l key with
 |none=>
  rw[hx] at hf;cases c<;>simp [Instr.lookup,run_underlying h1,MapKept.run_getObj_map hb,hc,hf,hz,Result.andThen,yI]
 |some x=>
  rw[hx] at hf;cases c<;>simp [Instr.lookup,run_underlying h1,MapKept.run_getObj_map hb,hc,hf,Result.andThen,yI]
theorem Ik {s x:Value}:∀{l:List (Value×Value)},j4 l s=none->jU l s x=l++[(s,x)]
 |[],_=>rfl
 |(a,v)::l,h=>by
  simp only[j4] at h;split at h
  ·cases h
  ·rename_i hs;rw[jU,aa hs,Ik (Option.map_eq_none_iff.1 h)];rfl
theorem Ij {s x:Value}:∀{l:List (Value×Value)} {y:Nat×Value},j4 l s=some y->∃h:y.1<l.length,l[y.1].1=s/\jU l s x=l.set y.1 (s,x)
 |[],_,h=>by cases h
 |(a,v)::l,y,h=>by
  simp only[j4] at h;split at h
  ·rename_i hs;cases h;exact⟨Nat.zero_lt_succ _,hs,by rw[jU,ai hs,hs];rfl⟩
  ·rename_i hs;obtain⟨y',h',rfl⟩:=Option.map_eq_some_iff.1 h;obtain⟨h1,h2,h3⟩:=Ij (x:=x) h';exact⟨Nat.succ_lt_succ h1,h2,by rw[jU,aa hs,h3];rfl⟩
theorem Ns (ht:oT P t) (hb:w.heap[r]? =some (.map es fy)) (cF:es.toList.map (fun e=>(e.key,e.val))=l) (hk:∀x∈l,dF (dM P t).1 x.1/\gp (dM P t).1 x.2) {key:Value} (pe:dF (dM P t).1 key) (v:Value):
  ∃sN tV,(Instr.mapUpdate t (.map (some r)) key v).run P w= .ok () {w with heap:=w.heap.setIfInBounds r (.map sN tV)}/\
   sN.toList.map (fun e=>(e.key,e.val))=jU l key v:=by
 obtain⟨_,k,e,h1,h2,h3,h4⟩:=ht;have hc:=h2 w key false 9998 pe;have hf:=h3 w key es.toList pe (JP cF hk);rw[D5,cF] at hf;cases hx:j4 l key with
 |none=>
  rw[hx] at hf;refine⟨es.push {key:=key,val:=v,born:=fy},fy+1,?_,?_⟩
  ·simp [Instr.mapUpdate,run_underlying h1,MapKept.run_getObj_map hb,hc,hf,MapKept.run_setObj_map _ hb,Result.andThen]
  ·rw[Ik hx,Array.toList_push,List.map_append,cF];rfl
 |some y=>
  rw[hx] at hf;obtain⟨hy,hky,hput⟩:=Ij (x:=v) hx;have hlen:es.toList.length=l.length:=by have:=congrArg List.length cF;simpa using this
  have hj:y.1<es.size:=by rw[<- Array.length_toList,hlen];exact hy
  have XL:(es[y.1]).key=key:=by
   have:=congrArg (·[y.1]?) cF;simp only[List.getElem?_map,Array.getElem?_toList,Array.getElem?_eq_getElem hj,List.getElem?_eq_getElem hy,Option.map_some,cn] at this;rw[<- hky,<- this]
  refine⟨es.modify y.1 fun e=>{e with key:=key,val:=v},fy,?_,?_⟩
  ·simp [Instr.mapUpdate,run_underlying h1,MapKept.run_getObj_map hb,hc,hf,MapKept.run_setObj_map _ hb,Result.andThen,hj,XL,Q8 pe]
  ·rw[hput];apply List.ext_getElem?
   intro q;have hq:=congrArg (·[q]?) cF;simp only[List.getElem?_map,Array.getElem?_toList] at hq ⊢;rw[List.getElem?_set,Array.getElem?_modify];by_cases e:y.1=q
   ·subst e;simp [hj,hy]
   ·simp only[aa e];exact hq
end
/-! Which maps are so. -/
theorem Gq {s:ByteArray}:∀(es:List MapEntry) (i:Nat),(∀x∈es,∃a,x.key= .string a)->Instr.findNow .string (.string s) es i=some (sE es (.string s) i)
 |[],_,_=>rfl
 |e::es,i,h=>by
  obtain⟨a,ha⟩:=h e (bL ..);have ih:=Gq (s:=s) es (i+1) fun x hx=>h x (bt _ hx)
  simp only[Instr.findNow,ha,Instr.sameNow,sE];by_cases hs:s=a
  ·have:(s==a)=true:=(MapKept.bytes_beq s a).2 hs;rw[this,ai (by rw[ha,hs])]
  ·have:(s==a)=false:=by
    cases hb:(s==a) with
    |false=>rfl
    |true=>exact absurd ((MapKept.bytes_beq s a).1 hb) hs
   rw[this,aa (fun h=>hs (Value.string.inj (ha.symm.trans h)).symm)];exact ih
theorem DA {g:Nat} {v:Value} (hg:g≠1000001):dF g v↔∃s,v= .string s:=by unfold dF;rw[aa hg]
theorem Hv {P:Program} {t k e:TypeId} (h1:P.underlying t=some (.map k e)) (h2:P.underlying k=some .string) (hg:gn<=(dM P t).1/\(dM P t).1≠1000001)
  (hz:∀w,(zeroValue e).run P w= .ok ((dM P t).2.getD (.bool false)) w):oT P t:=by
 refine⟨hg.1,k,e,h1,fun w key em n hk=> ?_,fun w key es hk cF=> ?_,hz⟩
 ·obtain⟨s,rfl⟩:=(DA hg.2).1 hk;exact MapKept.run_checkKey (P:=P) (w:=w) (kt:=k) h2 (by simp [MapKept.IsKey]) em (n+1)
 ·obtain⟨s,rfl⟩:=(DA hg.2).1 hk;exact MapKept.run_findKey (P:=P) (w:=w) (kt:=k) h2 (Gq es 0 fun x hx=>(DA hg.2).1 (cF x hx))
theorem C1 {P:Program} {e:TypeId} {i:TypeInfo} {z:Value} (h1:P.info? e=some i) (h2:i.zero=some z) (w:World):(zeroValue e).run P w= .ok z w:=by simp [zeroValue,typeInfo,h1,h2]
section
variable {P:Program} {C:Ctx} {n:Nat} {st:LS} {a:Act} {V:Vl} {D:Nat->Nat} {w:World} {K:SV->Prop}
theorem Ak {V:Vl}:∀{cs:List SV} {l:List Value},jJ cs=some l->cs.map (aH V)=l
 |[],l,h=>by simp only[jJ,cn] at h;subst h;rfl
 |s::r,l,h=>by
  simp only[jJ,Option.bind_eq_some_iff,Option.map_eq_some_iff] at h;obtain⟨x,hx,l',hl,rfl⟩:=h;simp only[aG];rw[Ak hl];cases s<;>simp only[plain,cn] at hx<;>first |(subst hx;rfl) |cases hx
theorem Al {V:Vl} {s:SV} {v:Value} (h:ls s=some v):den V s=v:=by
 cases s with
 |v x=>cases h;rfl
 |agg cs=>
  obtain⟨l,hl,rfl⟩:=Option.map_eq_some_iff.1 h;show Value.agg ⟨_⟩=_;rw[Ak hl]
 |box k o=>cases h
 |vec k u=>cases h
 |vp k u o=>cases h
 |vo k u o z=>cases h
 |mp k=>cases h
 |mv f k o=>cases h
 |sl k n c=>cases h
 |cl f ks=>cases h
 |tup l=>cases h
theorem Ks (hS:Sat C n st a V D w) {k:Nat} {b:Bx} (hb:dt st.bx k=some b) (dw:gn<=b.ty):
  ∃es fy l,w.heap[V.β k]? =some (.map es fy)/\b.cs.map (aH V)=iB l/\es.toList.map (fun e=>(e.key,e.val))=l/\∀x∈l,dF b.ty x.1/\gp b.ty x.2:=by
 obtain⟨rfl,hm⟩:=nG hb;obtain⟨o,ho,jB⟩:=(hS.heap.bx b hm).1;unfold gL at jB;rw[aa (Nat.not_lt.2 dw)] at jB;obtain⟨es,fy,l,rfl,h1,h2,h3⟩:=jB;exact⟨es,fy,l,ho,h1,h2,h3⟩
theorem GM {b:Nat} {l' :List (Value×Value)} {key:Value} {t:TypeId} {c:Bool} (h4:∀x∈l',dF (dM P t).1 x.1/\gp (dM P t).1 x.2)
  (bK:(Instr.lookup t (.map (some b)) key c).run P w= .ok (yI c ((dM P t).2.getD (.bool false)) (gK (iB l') key)) w) (hK:n8 (.mk (k:=(iB l',key,K)) (c,(dM P t).2))):
  ∃r,K r/\(Instr.lookup t (.map (some b)) key c).run P w= .ok (den V r) w:=by
 unfold n8 at hK;split at hK
 ·rename_i q;simp only[A.mk.injEq,Prod.mk.injEq] at q;obtain⟨rfl,hz⟩:=q;refine⟨_,hK,?_⟩;rw[hz] at bK;rw[bK];rw[Db];cases hx:j4 l' key with
  |none=>rfl
  |some y=>
   obtain⟨bv,hbv⟩:=Oo (JR h4 hx) (O8 hz);simp only[Option.map_some,yI,hbv];rfl
 ·rename_i z q;simp only[A.mk.injEq,Prod.mk.injEq] at q;obtain⟨rfl,hz⟩:=q;rw[hz] at bK;cases hf:gK (iB l') key with
  |none=>
   rw[hf] at bK;exact⟨_,hK.2 hf,bK⟩
  |some v=>
   rw[hf] at bK;exact⟨_,hK.1 v hf,bK⟩
 ·rename_i z q;simp only[A.mk.injEq,Prod.mk.injEq] at q;obtain⟨rfl,hz⟩:=q;rw[hz] at bK;cases hf:gK (iB l') key with
  |none=>
   rw[hf] at bK;exact⟨_,hK.2 hf,bK⟩
  |some v=>
   rw[hf] at bK;exact⟨_,hK.1 v hf,bK⟩
 ·cases hK
theorem UB {m:Mem} (hle:m.le ⟨w,D⟩) {g:Nat} {y:Value} {l:List Value} (h:ny m g y l):
  ∃b es fy l',y= .map (some b)/\w.heap[b]? =some (.map es fy)/\l=iB l' /\es.toList.map (fun e=>(e.key,e.val))=l' /\∀x∈l',dF g x.1/\gp g x.2:=by
 obtain⟨b,es,fy,ps,h1,h2,h3,h4,h5,h6⟩:=h;have hk:=((hle b).2 h3).2;rw[h2] at hk;exact⟨b,es,fy,ps,h1,hk,h4,h5,h6⟩
theorem NI (hS:Sat C n st a V D w) {t:TypeId} {c:Bool} {x i:SV} (h:oV (.mk (k:=(P,t,c,K)) (st,x,ls i))):∃r,K r/\(Instr.lookup t (den V x) (den V i) c).run P w= .ok (den V r) w:=by
 unfold oV at h;split at h
 ·rename_i af k key q;simp only[A.mk.injEq,Prod.mk.injEq] at q;obtain⟨rfl,rfl,pe⟩:=q;obtain⟨b,hb,dw,ht,hk,h⟩:=ay h;obtain⟨l,hl,hK⟩:=ay h;have dw:=beq_iff_eq.1 dw;obtain⟨es,fy,l',h1,h2,h3,h4⟩:=Ks hS hb (by rw[dw];exact ht.1);rw[Ak hl] at h2;rw[dw] at h4 hk;subst h2;have bK:=GR (P:=P) (w:=w) ht h1 h3 h4 hk c;rw[Al pe];exact GM h4 bK hK
 ·rename_i af y key q;simp only[A.mk.injEq,Prod.mk.injEq] at q;obtain⟨rfl,rfl,pe⟩:=q;obtain⟨ht,hk,l,hl,hK⟩:=h;obtain⟨b,es,fy,l',rfl,h1,rfl,h3,h4⟩:=UB hS.mle hl;have bK:=GR (P:=P) (w:=w) ht h1 h3 h4 hk c;rw[Al pe];exact GM h4 bK hK
 ·cases h
end
section
variable {C:Ctx} {n:Nat} {st:LS} {a:Act} {V:Vl} {D:Nat->Nat} {w:World} {P:Program} {p:ba} {K:SV->Prop} {c:Bool}
theorem Ic:∀(l cs:List SV) (off:Nat),(iA cs off l).length=cs.length
 |[],_,_=>rfl
 |c::r,cs,off=>by simp only[iA];rw[Ic r];simp
theorem DB {V:Vl}:∀(l:List SV) (cs:List SV) (off k:Nat),
  (List.zipIdx (l.map (aH V)) k).foldl (fun(cs:Array Value) (x:Value×Nat)=>cs.setIfInBounds (off+x.2) x.1) ⟨cs.map (aH V)⟩=⟨(iA cs (off+k) l).map (aH V)⟩
 |[],_,_,_=>rfl
 |c::r,cs,off,k=>by
  simp only[aG,List.zipIdx_cons,List.foldl_cons,iA];have:(⟨cs.map (aH V)⟩:Array Value).setIfInBounds (off+k) (aH V c)=⟨(cs.set (off+k) c).map (aH V)⟩:=by
   apply Array.ext'
   simp
  rw[this,DB r (cs.set (off+k) c) off (k+1)];rfl
theorem Ie {α β:Type} (f:α->Sem β) (g:α->β):∀(l:List α),(∀x∈l,∀w,(f x).run P w= .ok (g x) w)->∀w,(l.mapM f).run P w= .ok (l.map g) w
 |[],_,w=>by simp
 |x::r,h,w=>by
  simp only[List.mapM_cons,Sem.run_bind,h x (bL ..),Result.andThen_ok,Ie f g r (fun y hy=>h y (bt _ hy)),Sem.run_pure,aG]
theorem Ql {α β:Type} (f:α->Sem β) (g:α->β) (l:Array α) (h:∀x∈l.toList,∀w,(f x).run P w= .ok (g x) w):(l.mapM f).run P w= .ok (l.map g) w:=by
 obtain⟨l⟩:=l;simp only[List.mapM_toArray,Sem.run_map,Ie f g l h,Result.andThen_ok];simp
theorem CH {t:TypeId} {cs:List SV} (h:cU P t=some cs):∃z,(zeroValue t).run P w= .ok z w/\z.cells=⟨cs.map (aH V)⟩:=by
 unfold cU at h;simp only[Option.map_eq_some_iff,Option.bind_eq_some_iff] at h;obtain⟨z,⟨i,hi,hz⟩,rfl⟩:=h;refine⟨z,by simp [zeroValue,typeInfo,hi,hz],?_⟩;rw[vE]
theorem Gc (hS:Sat C n st a V D w) (hp:dV st.rho p) (hc:bC st.rho p=true) {t:TypeId} {fs:Array Field} (hf:P.underlying t=some (.struct fs)):
  ∀(parts:List (Nat×Operand)) (cs bh:List SV),rC P t st p parts cs=some bh->
   Instr.fill (fun i=>(fs.map fun f=>(f.offset,aK P f.type))[i]?) ⟨cs.map (aH V)⟩ (parts.map fun x=>(x.1,a.eval x.2))=some ⟨bh.map (aH V)⟩
 |[],cs,bh,h=>by simp only[rC,cn] at h;subst h;rfl
 |(i,x)::r,cs,bh,h=>by
  simp only[rC,Option.bind_eq_some_iff] at h;obtain⟨⟨off,ag,sz⟩,jE,l,⟨s,hs,hl⟩,h⟩:=h;split at h
  ·rename_i eQ;split at h
   ·rename_i lK;dsimp only at eQ lK h;obtain⟨fs',y,B5,hy,rfl,_,_,rfl⟩:=DD jE;rw[hf] at B5;cases B5;have sK:=cr hS hp hc hs;have bq:=zU (V:=V) hl;have yk:(a.eval x).cells.size=l.length:=by rw[sK,bq];simp
    have gB:(fs.map fun f=>(f.offset,aK P f.type))[i]? =some (y.offset,aK P y.type):=by
     simp [Array.getElem?_map,hy]
    simp only[aG,Instr.fill,gB]
    rw[aa (by
     simp only[yk,List.size_toArray,List.length_map,Bool.or_eq_true,cS,not_or,Decidable.not_not]
     exact⟨by simpa using eQ,by omega⟩)]
    have EA:((a.eval x).cells.zipIdx.foldl (fun(cs:Array Value) (x:Value×Nat)=>cs.setIfInBounds (y.offset+x.2) x.1) ⟨cs.map (aH V)⟩)=⟨(iA cs y.offset l).map (aH V)⟩:=by
     rw[sK,bq,<- Array.foldl_toList];have:=DB (V:=V) l cs y.offset 0;simp only[Nat.add_zero] at this;rw[<- this];simp [Array.toList_zipIdx]
    have ih:=Gc hS hp hc hf r _ bh h;rw[<- ih,<- EA]
   ·cases h
  ·cases h
theorem OE {fs:Array Field} (h:(fs.toList.all fun x=>(P.info? x.type).isSome)=true):
  (fs.mapM (m:=Sem) fun(f:Field)=>do pure (f.offset,<- sizeOf f.type)).run P w= .ok (fs.map fun f=>(f.offset,aK P f.type)) w:=by
 refine Ql _ _ fs (fun x hx w=> ?_);have:=List.all_eq_true.1 h x hx;obtain⟨i,hi⟩:=Option.isSome_iff_exists.1 this;simp [sizeOf,typeInfo,hi,aK]
theorem Np (hS:Sat C n st a V D w) (hp:dV st.rho p) (hc:bC st.rho p=true) {t:TypeId} {parts:Array (Nat×Operand)} {z cs:List SV}
  (hb:fP P t=true) (hz:cU P t=some z) (h:rC P t st p parts.toList z=some cs):
  (Instr.build t (parts.map fun x=>(x.1,a.eval x.2))).run P w= .ok (.agg ⟨cs.map (aH V)⟩) w:=by
 unfold fP at hb;split at hb
 ·rename_i fs hf;obtain⟨zv,hzv,hzc⟩:=CH (V:=V) (w:=w) hz;have vJ:=Gc hS hp hc hf parts.toList z cs h;simp only[Instr.build,Sem.run_bind,hzv,Result.andThen_ok,run_underlying hf,OE hb,hzc];have:(parts.map fun x=>(x.1,a.eval x.2)).toList=parts.toList.map fun x=>(x.1,a.eval x.2):=by simp
  rw[this,vJ];simp
 ·cases hb
theorem Jq (hS:Sat C n st a V D w) (hp:dV st.rho p) (hc:bC st.rho p=true) {x:Option Operand} {s:Option SV} (h:tI st p x=some s):x.map a.eval=s.map (den V):=by
 cases x with
 |none=>simp only[tI,cn] at h;subst h;rfl
 |some x=>
  simp only[tI,Option.map_eq_some_iff] at h;obtain⟨s,hs,rfl⟩:=h;simp only[Option.map_some,cr hS hp hc hs]
theorem C7 {s r:SV} (h:iS s=some r):den V r=fH V s:=by
 cases s<;>simp only[iS,cn] at h<;>first |(subst h;rfl) |cases h
theorem NM {x:SV} {i:Nat} (h:qq (.mk (k:=K) (x,i))):∃r,K r/\(Instr.extract (den V x) i).run P w= .ok (den V r) w:=by
 unfold qq at h;split at h
 ·rename_i l i' q;simp only[A.mk.injEq,Prod.mk.injEq] at q;obtain⟨rfl,rfl⟩:=q;obtain⟨r,hr,hK⟩:=ay h;obtain⟨s,hs,hr⟩:=qW hr;refine⟨r,hK,?_⟩;have:(⟨l.map (fH V)⟩:Array Value)[i]? =some (den V r):=by
   rw[<- Array.getElem?_toList];simp only[List.getElem?_map,hs,Option.map_some,C7 hr]
  rw[TY];simp only[Instr.extract,this,Sem.run_pure]
 ·rename_i l i' q;simp only[A.mk.injEq,Prod.mk.injEq] at q;obtain⟨rfl,rfl⟩:=q;obtain⟨r,hr,hK⟩:=ay h;simp only[Option.map_eq_some_iff] at hr;obtain⟨v,hv,rfl⟩:=hr;refine⟨_,hK,?_⟩;have:(⟨l⟩:Array Value)[i]? =some v:=by rw[<- Array.getElem?_toList];exact hv
  simp only[db,Instr.extract,this,Sem.run_pure]
 ·cases h
theorem NJ (hS:Sat C n st a V D w) {t ty:TypeId} {x:SV} (h:n9 (.mk (k:=(P,t,K)) (st,x))):∃r,K r/\(Builtin.len_ #[t] ty #[den V x]).run P w= .ok (den V r) w:=by
 unfold n9 at h;split at h
 ·rename_i af s q;simp only[A.mk.injEq,Prod.mk.injEq] at q;obtain⟨rfl,rfl⟩:=q;refine⟨_,h.2,?_⟩;simp [Builtin.len_,run_underlying h.1,db,goInt,vq]
 ·rename_i af x m cp q;simp only[A.mk.injEq,Prod.mk.injEq] at q;obtain⟨rfl,rfl⟩:=q;obtain⟨e,he,hK⟩:=ay h;refine⟨_,hK,?_⟩;simp [Builtin.len_,run_underlying (iJ he),db,goInt]
 ·rename_i af k v q;simp only[A.mk.injEq,Prod.mk.injEq] at q;obtain⟨rfl,rfl⟩:=q;obtain⟨e,he,h⟩:=ay h;obtain⟨b,hb,hK⟩:=ay h;obtain⟨hv,rfl,rfl⟩:=pU hS hb;obtain⟨hn,_,_⟩:=ry hv.1;refine⟨_,hK,?_⟩;show(Builtin.len_ #[t] ty #[(V.γ b.id b.ver).val]).run P w=_;unfold Hd.val;simp [Builtin.len_,run_underlying (iJ he),db,goInt,hn]
 ·rename_i af k nn c q;simp only[A.mk.injEq,Prod.mk.injEq] at q;obtain⟨rfl,rfl⟩:=q;obtain⟨e,he,hK⟩:=ay h;refine⟨_,hK,?_⟩;show(Builtin.len_ #[t] ty #[.slice (some ⟨V.β k,0,none⟩) nn c]).run P w=_;simp [Builtin.len_,run_underlying (iJ he),db,goInt]
 ·cases h
theorem NG {ts:Array TypeId} {ty:TypeId} {x y:SV} (h:rT (.mk (k:=K) (x,y))):∃r,K r/\(Builtin.min_ ts ty #[den V x,den V y]).run P w= .ok (den V r) w:=by
 unfold rT at h;split at h
 ·rename_i k i k' j q;simp only[A.mk.injEq,Prod.mk.injEq] at q;obtain⟨rfl,rfl⟩:=q;exact⟨_,h,by simp [Builtin.min_,Builtin.min2,db]⟩
 ·cases h
theorem NH {ts:Array TypeId} {ty:TypeId} {x y:SV} (h:rU (.mk (k:=K) (x,y))):∃r,K r/\(Builtin.max_ ts ty #[den V x,den V y]).run P w= .ok (den V r) w:=by
 unfold rU at h;split at h
 ·rename_i k i k' j q;simp only[A.mk.injEq,Prod.mk.injEq] at q;obtain⟨rfl,rfl⟩:=q;exact⟨_,h,by simp [Builtin.max_,Builtin.max2,db]⟩
 ·cases h
theorem M8 {ts:Array TypeId} {ty:TypeId} {x y z u:SV} (h:rK (.mk (k:=K) (x,y,z,u))):∃r,K r/\(Builtin.max_ ts ty #[den V x,den V y,den V z,den V u]).run P w= .ok (den V r) w:=by
 unfold rK at h;split at h
 ·rename_i k a k' b k2 c k3 d q;simp only[A.mk.injEq,Prod.mk.injEq] at q;obtain⟨rfl,rfl,rfl,rfl⟩:=q;exact⟨_,h,by simp [Builtin.max_,Builtin.max2,db,mx]<;>rfl⟩
 ·cases h
theorem M6 (hS:Sat C n st a V D w) (hp:dV st.rho p) {g:Gd} {x y:Operand} (hg:g∈st.rho) (h:pX (.mk (k:=(p,x,y,st,g,K)) (yh x y))):
  ∃r,K r/\(bC st.rho p=true->a.tmps.getD g.slot undef= .bool g.b.val/\(if g.b.val=true then a.eval x else a.eval y)=den V r):=by
 obtain⟨iG,dX,yj⟩:=hS.rho g hg;have bW:bC st.rho p=true->ku g.p p=true->a.tmps.getD g.slot undef= .bool g.b.val/\bC st.rho g.p=true:=fun hc hs=>by
  have:=At hs hc;rw[this,ai rfl] at yj;exact⟨by simp [yj],this⟩
 have side:∀b,g.b.val=b->bC st.rho g.p=true->bC st.rho ((g.i,b)::g.p)=true:=fun b hb hc=>by
  simp only[bC,AP iG,hb,hc,Bool.and_true];cases b<;>simp
 have sq:∀b,dV st.rho ((g.i,b)::g.p):=fun b x hx=>by
  rcases List.mem_cons.1 hx with rfl |hx
  ·exact⟨g,iG⟩
  ·exact dX x hx
 unfold pX at h;split at h
 ·rename_i i s q _;obtain⟨hs,h⟩:=h;obtain⟨r,hr,hK⟩:=ay h;refine⟨r,hK,fun hc=> ?_⟩;obtain⟨h1,h2⟩:=bW hc hs;exact⟨h1,by simp only[GB.val,if_true];exact cr hS (sq true) (side true rfl h2) hr⟩
 ·rename_i i s q _;obtain⟨hs,h⟩:=h;obtain⟨r,hr,hK⟩:=ay h;refine⟨r,hK,fun hc=> ?_⟩;obtain⟨h1,h2⟩:=bW hc hs;exact⟨h1,by simp only[GB.val,Bool.false_eq_true,if_false];exact cr hS (sq false) (side false rfl h2) hr⟩
 ·rename_i i s q b md heq;obtain⟨hs,h⟩:=h;obtain⟨sx,hx,h⟩:=ay h;obtain⟨sy,hy,h⟩:=ay h;have FV:bC st.rho p=true->b=true->a.eval x=den V sx:=fun hc hb=>cr hS (sq true) (side true hb (bW hc hs).2) hx
  have FU:bC st.rho p=true->b=false->a.eval y=den V sy:=fun hc hb=>cr hS (sq false) (side false hb (bW hc hs).2) hy
  unfold pY at h;split at h
  ·rename_i b' a1 q';simp only[A.mk.injEq,Prod.mk.injEq] at q';obtain⟨rfl,rfl,rfl⟩:=q';refine⟨_,h,fun hc=>⟨(bW hc hs).1,?_⟩⟩;cases b with
   |true=>simp only[GB.val,if_true,FV hc rfl,db,Bool.true_and]
   |false=>simp only[GB.val,Bool.false_eq_true,if_false,FU hc rfl,db,Bool.false_and]
  ·rename_i b' a1 q';simp only[A.mk.injEq,Prod.mk.injEq] at q';obtain⟨rfl,rfl,rfl⟩:=q';refine⟨_,h,fun hc=>⟨(bW hc hs).1,?_⟩⟩;cases b with
   |true=>simp only[GB.val,if_true,FV hc rfl,db,Bool.true_or]
   |false=>simp only[GB.val,Bool.false_eq_true,if_false,FU hc rfl,db,Bool.false_or]
  ·rename_i b' a1 a2 q';simp only[A.mk.injEq,Prod.mk.injEq] at q';obtain⟨rfl,rfl,rfl⟩:=q';refine⟨_,h,fun hc=>⟨(bW hc hs).1,?_⟩⟩;cases b with
   |true=>simp only[GB.val,if_true,FV hc rfl,db,cond_true]
   |false=>simp only[GB.val,Bool.false_eq_true,if_false,FU hc rfl,db,cond_false]
  ·cases h
theorem C4 (hS:Sat C n st a V D w) (hp:dV st.rho p) {o:Oper} {op:Op} (ho:o.op=op) (h:qOp (.mk (k:=(P,op,K)) (st,p))):
  ∃s,K s/\(bC st.rho p=true->(execOp a.eval o).run P w= .ok (.value (den V s)) w):=by
 unfold qOp at h;split at h
 ·rename_i x af p' q;cases q;obtain⟨s,hs,hK⟩:=ay h;exact⟨s,hK,fun hc=>by simp only[execOp,ho,Sem.run_pure,cr hS hp hc hs]⟩
 ·rename_i x af p' q;cases q;obtain⟨s,hs,hK⟩:=ay h;exact⟨s,hK,fun hc=>by simp only[execOp,ho,Sem.run_pure,cr hS hp hc hs]⟩
 ·rename_i t x y af p' q;cases q;obtain⟨g,hg,h'⟩:=ay h;obtain⟨eH,hm⟩:=QX hg;obtain⟨r,hK,hr⟩:=M6 hS hp hm h';refine⟨r,hK,fun hc=> ?_⟩;obtain⟨h1,h2⟩:=hr hc;have he:a.eval (.tmp t)= .bool g.b.val:=by rw[<- eH];exact h1
  simp only[execOp,ho,he,asBool,Sem.run_bind,Sem.run_pure,Result.andThen_ok,h2]
 ·rename_i x af p' q;cases q;obtain⟨s,hs,h⟩:=ay h;obtain⟨r,hK,e,hn⟩:=NF (V:=V) h;refine⟨r,hK,fun hc=> ?_⟩;have sK:=cr hS hp hc hs;rw[e,<- sK];exact Ru ho (by rw[sK];exact hn hc)
 ·rename_i MD t x t' af p' q;cases q;obtain⟨sx,hx,h⟩:=ay h;obtain⟨r,hK,hr⟩:=M7 (V:=V) (w:=w) (o:=x) h;refine⟨r,hK,fun hc=> ?_⟩;have:=gF (hr hc);rw[<- cr hS hp hc hx] at this;simp only[execOp,ho];exact this
 ·rename_i MD t x y t' af p' _ q;cases q;obtain⟨sx,hx,h⟩:=ay h;obtain⟨sy,hy,h⟩:=ay h;obtain⟨r,hK,hr⟩:=Oc (V:=V) (w:=w) (o:=x) (o' :=y) h;refine⟨r,hK,fun hc=> ?_⟩;have:=gF (hr hc);rw[<- cr hS hp hc hx,<- cr hS hp hc hy] at this;simp only[execOp,ho];exact this
 ·rename_i uop t x af p' q;cases q;obtain⟨sx,hx,h⟩:=ay h;obtain⟨r,hK,hr⟩:=OL (V:=V) (w:=w) (P:=P) h;refine⟨r,hK,fun hc=> ?_⟩;have:=gF (hr hc);rw[<- cr hS hp hc hx] at this;simp only[execOp,ho];exact this
 ·rename_i src dst x af p' q;cases q;obtain⟨sx,hx,h⟩:=ay h;obtain⟨r,hK,hr⟩:=M9 hS h;refine⟨r,hK,fun hc=> ?_⟩;have:=gF (hr hc);rw[<- cr hS hp hc hx] at this;simp only[execOp,ho];exact this
 ·rename_i s x f af p' q;cases q;obtain⟨sx,hx,h⟩:=ay h;obtain⟨⟨off,ag,sz⟩,hf,h⟩:=ay h;obtain⟨r,hK,hr⟩:=NL hS hf h;refine⟨r,hK,fun hc=> ?_⟩;have:=gF (hr hc);rw[<- cr hS hp hc hx] at this;simp only[execOp,ho];exact this
 ·rename_i s x f af p' q;cases q;obtain⟨cs,dy,h⟩:=ay h;obtain⟨sx,hx,dy⟩:=qW dy;obtain⟨⟨off,ag,sz⟩,hf,h⟩:=ay h;obtain⟨r,hr,hK⟩:=ay h;refine⟨r,hK,fun hc=> ?_⟩;have:=gF (MV (V:=V) (w:=w) hf dy hr);rw[<- cr hS hp hc hx] at this;simp only[execOp,ho];exact this
 ·rename_i t x i af p' q;cases q;obtain⟨sx,hx,h⟩:=ay h;obtain⟨si,hi,h⟩:=ay h;obtain⟨e,he,h⟩:=ay h;obtain⟨r,hK,hr⟩:=NK hS he h;refine⟨r,hK,fun hc=> ?_⟩;have:=gF (hr hc);rw[<- cr hS hp hc hx,<- cr hS hp hc hi] at this;simp only[execOp,ho];exact this
 ·rename_i t x i af p' q;cases q;obtain⟨sx,hx,h⟩:=ay h;obtain⟨si,hi,h⟩:=ay h;obtain⟨r,hK,hr⟩:=OR (V:=V) (w:=w) h;refine⟨r,hK,fun hc=> ?_⟩;have:=gF (hr hc);rw[<- cr hS hp hc hx,<- cr hS hp hc hi] at this;simp only[execOp,ho];exact this
 ·rename_i t x lo hi af p' q;cases q;obtain⟨sx,hx,h⟩:=ay h;obtain⟨sl,hl,h⟩:=ay h;obtain⟨sh,hh,h⟩:=ay h;obtain⟨r,hK,hr⟩:=OM hS h;refine⟨r,hK,fun hc=> ?_⟩;have:=gF (hr hc);rw[<- cr hS hp hc hx,<- Jq hS hp hc hl,<- Jq hS hp hc hh] at this;simp only[execOp,ho];exact this
 ·rename_i t x af p' q;cases q;obtain⟨sx,hx,h⟩:=ay h;obtain⟨r,hK,hr⟩:=Gi hS h;refine⟨r,hK,fun hc=> ?_⟩;have:=gF (hr hc);rw[<- cr hS hp hc hx] at this;simp only[execOp,ho];exact this
 ·rename_i x i af p' q;cases q;obtain⟨sx,hx,h⟩:=ay h;obtain⟨r,hK,hr⟩:=NM (V:=V) (P:=P) (w:=w) h;refine⟨r,hK,fun hc=> ?_⟩;have:=gF hr;rw[<- cr hS hp hc hx] at this;simp only[execOp,ho];exact this
 ·rename_i t parts af p' q;cases q;obtain⟨hb,h⟩:=h;obtain⟨z,hz,h⟩:=ay h;obtain⟨cs,dy,hK⟩:=ay h;refine⟨_,hK,fun hc=> ?_⟩;simp only[execOp,ho];exact gF (Np hS hp hc hb hz dy)
 ·rename_i x t af p' q;cases q;obtain⟨sx,hx,h⟩:=ay h;obtain⟨r,hK,hr⟩:=NJ (ty:=o.type) hS h;refine⟨r,hK,fun hc=> ?_⟩;rw[<- cr hS hp hc hx] at hr;simp only[execOp,ho,resolve,Sem.run_bind,Sem.run_pure,Result.andThen_ok,invoke,builtin];simp only[List.map_toArray,aG,List.map_nil,hr,Result.andThen_ok]
 ·rename_i x y ts af p' q;cases q;obtain⟨sx,hx,h⟩:=ay h;obtain⟨sy,hy,h⟩:=ay h;obtain⟨r,hK,hr⟩:=NG (V:=V) (P:=P) (w:=w) (ts:=ts) (ty:=o.type) h;refine⟨r,hK,fun hc=> ?_⟩;rw[<- cr hS hp hc hx,<- cr hS hp hc hy] at hr;simp only[execOp,ho,resolve,Sem.run_bind,Sem.run_pure,Result.andThen_ok,invoke,builtin];simp only[List.map_toArray,aG,List.map_nil,hr,Result.andThen_ok]
 ·rename_i t x i cm af p' q;cases q;obtain⟨sx,hx,h⟩:=ay h;obtain⟨si,hi,h⟩:=ay h;obtain⟨r,hK,hr⟩:=NI hS h;refine⟨r,hK,fun hc=> ?_⟩;have:=gF hr;rw[<- cr hS hp hc hx,<- cr hS hp hc hi] at this;simp only[execOp,ho];exact this
 ·rename_i x y ts af p' q;cases q;obtain⟨sx,hx,h⟩:=ay h;obtain⟨sy,hy,h⟩:=ay h;obtain⟨r,hK,hr⟩:=NH (V:=V) (P:=P) (w:=w) (ts:=ts) (ty:=o.type) h;refine⟨r,hK,fun hc=> ?_⟩;rw[<- cr hS hp hc hx,<- cr hS hp hc hy] at hr;simp only[execOp,ho,resolve,Sem.run_bind,Sem.run_pure,Result.andThen_ok,invoke,builtin];simp only[List.map_toArray,aG,List.map_nil,hr,Result.andThen_ok]
 ·rename_i x y z u ts af p' q;cases q;obtain⟨sx,hx,h⟩:=ay h;obtain⟨sy,hy,h⟩:=ay h;obtain⟨sz,hz,h⟩:=ay h;obtain⟨su,hu,h⟩:=ay h;obtain⟨r,hK,hr⟩:=M8 (V:=V) (P:=P) (w:=w) (ts:=ts) (ty:=o.type) h;refine⟨r,hK,fun hc=> ?_⟩;rw[<- cr hS hp hc hx,<- cr hS hp hc hy,<- cr hS hp hc hz,<- cr hS hp hc hu] at hr;simp only[execOp,ho,resolve,Sem.run_bind,Sem.run_pure,Result.andThen_ok,invoke,builtin];simp only[List.map_toArray,aG,List.map_nil,hr,Result.andThen_ok]
 ·cases h
end
theorem F5 {d d' :Nat} {o o' LO:Option Obj} (hd:d<=d') (h:mw d o o') (h' :mw d' o' LO):mw d o LO:=by
 unfold mw at h;split at h
 ·rename_i c t f;obtain⟨c',t',f',rfl,h1⟩:=h;obtain⟨c'',t'',f'',rfl,h2⟩:=h';exact⟨c'',t'',f'',rfl,fun j hj=>(h2 j (by omega)).trans (h1 j hj)⟩
 ·rename_i cv;subst h;unfold mw at h' ⊢;split
  ·exact absurd rfl (cv _ _ _)
  ·split at h'
   ·exact absurd rfl (cv _ _ _)
   ·exact h'
theorem oE {d:Nat} {o o' :Option Obj} (h:o' =o):mw d o o' :=by
 subst h;unfold mw;split
 ·exact⟨_,_,_,rfl,fun _ _=>rfl⟩
 ·rfl
theorem Mem.le_refl (m:Mem) (h:Wf m.w m.D):m.le m:=fun b=>⟨aA _,fun h0=>⟨by
 rcases Nat.lt_or_ge b m.w.heap.size with h1 |h1
 ·exact h1
 ·rw[h b h1] at h0;omega,oE rfl⟩⟩
theorem Mem.le_trans {m m' pq:Mem} (h:m.le m') (h' :m'.le pq):m.le pq:=fun b=>
 ⟨dk (h b).1 (h' b).1,fun h0=>⟨((h b).2 h0).1,F5 (h b).1 ((h b).2 h0).2 ((h' b).2 (dm h0 (h b).1)).2⟩⟩
theorem Mem.le_same {w w' :World} {D D' :Nat->Nat} (hw:Wf w D) (h:∀b,b<w.heap.size->D b<=D' b/\(0<D b->w'.heap[b]? =w.heap[b]?)):Mem.le ⟨w,D⟩ ⟨w',D'⟩:=fun b=>by
 rcases Nat.lt_or_ge b w.heap.size with h1 |h1
 ·exact⟨(h b h1).1,fun h0=>⟨h1,oE ((h b h1).2 h0)⟩⟩
 ·have:=hw b h1;exact⟨by dsimp only;omega,fun h0=>by dsimp only at h0;omega⟩
theorem Frm.refl (F:Nat->Prop) (w:World) (D:Nat->Nat):Frm F w D w D:=⟨rfl,rfl,rfl,aA _,fun _ _ _=>⟨rfl,rfl⟩⟩
theorem Frm.trans {F S:Nat->Prop} {w w' jZ:World} {D D' MG:Nat->Nat} (h:Frm F w D w' D') (h' :Frm S w' D' jZ MG) (hs:∀b,S b->F b\/w.heap.size<=b):Frm F w D jZ MG:=
 ⟨h'.os.trans h.os,h'.tape.trans h.tape,h'.output.trans h.output,dk h.size h'.size,fun b hb hF=>by
  have h1:=h.same b hb hF;have h2:=h'.same b (dm hb h.size) (fun hS=>(hs b hS).elim hF (fun h3=>by omega))
  exact⟨h2.1.trans h1.1,h2.2.trans h1.2⟩⟩
/-! Values that name no block that is yet to come. -/
def Agree (nid:Nat) (vc:List Vc) (V V' :Vl):Prop:=∀k,k<nid->V'.β k=V.β k/\∀u,aY vc k u->V'.γ k u=V.γ k u
structure Step (nid:Nat) (vc:List Vc) (eB:Nat) (df:List Vc) (V V' :Vl):Prop where
 agr:Agree nid vc V V'
 up:nid<=eB
 ver:∀k u,k<nid->aY vc k u->aY df k u
theorem Agree.refl (nid:Nat) (vc:List Vc) (V:Vl):Agree nid vc V V:=fun _ _=>⟨rfl,fun _ _=>rfl⟩
section
variable {nid:Nat} {vc:List Vc} {V V' :Vl}
theorem I5 (h:Agree nid vc V V'):∀{ks:List Nat},sC nid ks->(ks.map fun k=>Value.pointer (some ⟨V'.β k,0,none⟩))=ks.map fun k=> .pointer (some ⟨V.β k,0,none⟩)
 |[],_=>rfl
 |k::r,hs=>by simp only[aG];rw[(h k hs.1).1,I5 h hs.2]
theorem pH (h:Agree nid vc V V') {s:SV} (hs:gQ nid vc s):aH V' s=aH V s:=by
 cases s with
 |v x=>rfl
 |box k o=>show Value.pointer _=_;rw[(h k hs).1];rfl
 |vec k u=>show(V'.γ k u).val=_;rw[(h k hs.1).2 u hs.2];rfl
 |vp k u o=>show Value.pointer ((V'.γ k u).a.map _)=_;rw[(h k hs.1).2 u hs.2];rfl
 |vo k u o z=>show gA (V'.γ k u).a _ _ _ _=_;rw[(h k hs.1).2 u hs.2];rfl
 |mp k=>show Value.map _=_;rw[(h k hs).1];rfl
 |mv f k o=>show Value.func _ _ _=_;rw[(h k hs).1];rfl
 |sl k n c=>show Value.slice _ _ _=_;rw[(h k hs).1];rfl
 |cl f ks=>show Value.func _ _ ⟨_⟩=Value.func _ _ ⟨_⟩;rw[I5 h hs]
 |agg cs=>rfl
 |tup l=>rfl
theorem sV (h:Agree nid vc V V'):∀{l:List SV},cL nid vc l->l.map (aH V')=l.map (aH V)
 |[],_=>rfl
 |s::r,hs=>by simp only[aG];rw[pH h hs.1,sV h hs.2]
theorem oF (h:Agree nid vc V V') {s:SV} (hs:okB nid vc s):fH V' s=fH V s:=by
 cases s with
 |agg cs=>simp only[fH];rw[sV h hs]
 |v x=>rfl
 |box k o=>exact pH (s:= .box k o) h hs
 |vec k u=>exact pH (s:= .vec k u) h hs
 |vp k u o=>exact pH (s:= .vp k u o) h hs
 |vo k u o z=>exact pH (s:= .vo k u o z) h hs
 |mp k=>exact pH (s:= .mp k) h hs
 |mv f k o=>exact pH (s:= .mv f k o) h hs
 |sl k n c=>exact pH (s:= .sl k n c) h hs
 |cl f ks=>exact pH (s:= .cl f ks) h hs
 |tup l=>rfl
theorem G1 (h:Agree nid vc V V'):∀{l:List SV},ue nid vc l->l.map (fH V')=l.map (fH V)
 |[],_=>rfl
 |s::r,hs=>by simp only[aG];rw[oF h hs.1,G1 h hs.2]
theorem Ar (h:Agree nid vc V V') {s:SV} (hs:fb nid vc s):den V' s=den V s:=by
 cases s with
 |tup l=>simp only[den];rw[G1 h hs]
 |v x=>rfl
 |box k o=>exact oF (s:= .box k o) h hs
 |vec k u=>exact oF (s:= .vec k u) h hs
 |vp k u o=>exact oF (s:= .vp k u o) h hs
 |vo k u o z=>exact oF (s:= .vo k u o z) h hs
 |mp k=>exact oF (s:= .mp k) h hs
 |mv f k o=>exact oF (s:= .mv f k o) h hs
 |sl k n c=>exact oF (s:= .sl k n c) h hs
 |cl f ks=>exact oF (s:= .cl f ks) h hs
 |agg cs=>exact oF (s:= .agg cs) h hs
theorem JM:∀{env:List Ev} {t:Nat} {p:ba} {s:SV},dP env t p=some s->∃e∈env,e.s=s
 |⟨t',p',s'⟩::r,t,p,s,h=>by
  simp only[dP] at h;split at h
  ·split at h
   ·cases h;exact⟨_,bL ..,rfl⟩
   ·cases h
  ·obtain⟨e,he,hs⟩:=JM h;exact⟨e,bt _ he,hs⟩
theorem SatF.agree {n:Nat} {env:List Ev} {rho:List Gd} {a:Act} (hf:SatF n env rho a V) (oc:∀e∈env,fb nid vc e.s) (h:Agree nid vc V V'):SatF n env rho a V' :=
 ⟨hf.defers,hf.size,hf.pth,fun t p s hp hl hc=>by
  obtain⟨e,he,rfl⟩:=JM hl
  rw[hf.env t p _ hp hl hc,Ar h (oc e he)],hf.rho⟩
end
section
variable {V V' :Vl} {D D' :Nat->Nat} {w w' :World} {H:Hp}
theorem DX {e:TypeId} {sz m:Nat} {xs:List Value} {h:Hd} (ho:w.ownsRow 0 e sz h.val m xs) {g:Nat} (hg:h.blk=some g):h.val.ownBlock=some g/\g<w.heap.size:=by
 have:h.val.ownBlock=some g:=by
  unfold Hd.val Value.ownBlock;unfold Hd.blk at hg;cases ha:h.a with
  |none=>rw[ha] at hg;cases hg
  |some ad=>rw[ha] at hg;exact hg
 exact⟨this,(ho.lt g this).2⟩
theorem rp (h:HSat V D w H):∀b∈aE V H,b<w.heap.size:=by
 intro b hb;simp only[aE,List.mem_append,List.mem_map,List.mem_filterMap] at hb;rcases hb with ⟨x,hx,rfl⟩ |⟨x,hx,hb⟩
 ·obtain⟨o,ho,_⟩:=(h.bx x hx).1;exact(Array.getElem?_eq_some_iff.1 ho).1
 ·exact(DX (h.vc x hx).1 hb).2
theorem Ir {e:TypeId} {sz m:Nat} {xs:List Value} {h:Hd} (ho:w.ownsRow 0 e sz h.val m xs) (hw:∀g,h.blk=some g->w'.heap[g]? =w.heap[g]?):w'.ownsRow 0 e sz h.val m xs:=by
 refine⟨ho.1,?_⟩;rcases ho.2 with hn |⟨g,cap,cur,hv,hb,hh,rest⟩
 ·exact .inl hn
 ·refine .inr ⟨g,cap,cur,hv,hb,?_,rest⟩
  rw[hw g (by
   simp only[Hd.val,Value.slice.injEq] at hv
   simp [Hd.blk,hv.1])]
  exact hh
theorem zO {α β:Type} {f g:α->Option β}:∀{l:List α},(∀x∈l,f x=g x)->l.filterMap f=l.filterMap g
 |[],_=>rfl
 |x::r,h=>by
  rw[List.filterMap_cons,List.filterMap_cons,h x (bL ..),zO fun y hy=>h y (bt _ hy)]
theorem xL (hb:∀b∈H.bx,V'.β b.id=V.β b.id) (hv:∀b∈H.vc,V'.γ b.id b.ver=V.γ b.id b.ver):aE V' H=aE V H:=by
 unfold aE;congr 1
 ·exact List.map_congr_left hb
 ·exact zO fun x hx=>by rw[hv x hx]
theorem HSat.frame (h:HSat V D w H) (hb:∀b∈H.bx,V'.β b.id=V.β b.id/\b.cs.map (aH V')=b.cs.map (aH V)) (hv:∀b∈H.vc,V'.γ b.id b.ver=V.γ b.id b.ver)
  (hw:∀g∈aE V H,w'.heap[g]? =w.heap[g]? /\D' g=D g):HSat V' D' w' H:=by
 refine⟨fun b hm=> ?_,fun b hm=> ?_,by rw[xL (fun b hm=>(hb b hm).1) hv];exact h.apart,h.uniq⟩
 ·have bg:V.β b.id∈aE V H:=by
   simp only[aE,List.mem_append,List.mem_map];exact .inl ⟨b,hm,rfl⟩
  obtain⟨h1,h2⟩:=h.bx b hm;unfold zN;rw[(hb b hm).1,(hb b hm).2,(hw _ bg).1,(hw _ bg).2];exact⟨h1,h2⟩
 ·have bg:∀g,(V.γ b.id b.ver).blk=some g->g∈aE V H:=fun g hg=>by
   simp only[aE,List.mem_append,List.mem_filterMap];exact .inr ⟨b,hm,hg⟩
  obtain⟨h1,h2,h3,h4⟩:=h.vc b hm;unfold uP;rw[hv b hm];exact⟨Ir h1 fun g hg=>(hw g (bg g hg)).1,fun g hg=>by rw[(hw g (bg g hg)).2];exact h2 g hg,h3,h4⟩
end
theorem xI {P:Program} {t:TypeId} (h:0<aK P t):∃i,P.info? t=some i/\i.size=aK P t/\i.bytes=iH P t:=by
 unfold aK at h ⊢;unfold iH;cases hi:P.info? t with
 |none=>rw[hi] at h;simp at h
 |some i=>exact⟨i,rfl,rfl,rfl⟩
theorem AL {P:Program} {t:TypeId} {z:List SV} {i:TypeInfo} (hi:P.info? t=some i) (h:cU P t=some z):∃zv,i.zero=some zv/\zv.cells.size=z.length:=by
 unfold cU at h;simp only[Option.map_eq_some_iff,Option.bind_eq_some_iff] at h;obtain⟨zv,⟨i',kV,hz⟩,rfl⟩:=h;rw[hi] at kV;cases kV;exact⟨zv,hz,by simp⟩
section
variable {P:Program} {w:World}
theorem MH (t tx ty e:TypeId) (i:TypeInfo) (ht:P.underlying t=some (.slice e)) (hi:P.info? e=some i) (g kq tD:Nat) (cur:Array Value) (hg:w.heap[g]? =some (.cells cur e (0,0)))
  (x:Value) (m:Nat) (news:List Value) (hs:Src P i.size tx x m news w) (gI:kq+m<=tD) (lK:kq * i.size+news.length<=cur.size):
  (Builtin.append_ #[t,tx] ty #[.slice (some ⟨g,0,none⟩) kq tD,x]).run P w=
   .ok (.slice (some ⟨g,0,none⟩) (kq+m) tD) (w.setRow g (cur.toList.take (kq * i.size)++news++cur.toList.drop (kq * i.size+news.length)).toArray):=by
 have eG:=run_storeCells_at P g (kq * i.size) e news 0 cur w hg (by simpa using lK) hs.one;simp only[Nat.add_zero] at eG;rcases hs.kind with ⟨e',hk⟩ |hk<;>simp [Builtin.append_,run_underlying ht,run_underlying hk,sizeOf,typeInfo,hi,hs.len,gI,hs.cells,Addr.add_lit,eG]
theorem zR {tK old sR:Nat} (h:old<tK) (hb:tK * sR<=140737488355328):Builtin.nextslicecap tK old * sR<=281474976710656:=by
 have h1:=nextslicecap_le h;have h2:Builtin.nextslicecap tK old * sR<=2 * tK * sR:=Nat.mul_le_mul_right _ h1;have h3:2 * tK * sR=2 * (tK * sR):=Nat.mul_assoc ..;omega
theorem Aa {t tx ty e:TypeId} {i:TypeInfo} {zv:Value} {h:Hd} {n m:Nat} {xs news:List Value} {x:Value}
  (ht:P.underlying t=some (.slice e)) (hi:P.info? e=some i) (hz:i.zero=some zv) (kS:zv.cells.size=i.size)
  (bQ:w.ownsRow 0 e i.size h.val n xs) (hs:Src P i.size tx x m news w) (hr:room (n+m) i.bytes):
  ∃(h' :Hd) (w' :World),(Builtin.append_ #[t,tx] ty #[h.val,x]).run P w= .ok h'.val w' /\w'.ownsRow 0 e i.size h'.val (n+m) (xs++news)/\
   (w' =w/\h' =h\/(∃g cur fr,h'.blk=some g/\h.blk=some g/\w.heap[g]? =some (.cells cur e (0,0))/\w' =w.setRow g fr/\(∀j,j<n * i.size->fr[j]? =cur[j]?))\/
    (∃c,h'.blk=some w.heap.size/\w' =w.drew.alloc (.cells c e))):=by
 obtain⟨hb,h63⟩:=hr;have hlen:(xs++news).length=(n+m) * i.size:=by rw[aZ,bQ.1,hs.newsLen,Nat.add_mul]
 have B4:((n+m:Nat):Int)<=9223372036854775807:=by simp only[maxLen] at h63;omega
 have grow:∀(old:Nat),old<n+m->(w.drew.alloc (.cells ((xs++news).toArray++Builtin.zeroCells zv.cells (grownCap w (n+m) old e - (n+m))) e)).ownsRow 0 e i.size
    (Hd.val ⟨some ⟨w.heap.size,0,none⟩,n+m,grownCap w (n+m) old e⟩) (n+m) (xs++news):=by
  intro old ho;have fZ:=grownCap_ge w (n+m) old e;have kA:grownCap w (n+m) old e<=maxLen:=grownCap_le_maxLen w (n+m) old e h63;refine⟨hlen,.inr ⟨w.heap.size,_,_,rfl,aF _,heap_alloc_new w.drew _,fZ,kA,?_,?_⟩⟩
  ·simp only[Array.size_append,List.size_toArray,size_zeroCells,kS,hlen,<- Nat.add_mul];congr 1
   omega
  ·simp only[Array.toList_append];rw[<- hlen];exact List.take_left
 obtain⟨ha,hn,hc⟩:∃(a:Option Addr) (n' c:Nat),h=⟨a,n',c⟩:=⟨h.a,h.n,h.c,rfl⟩;obtain⟨c,rfl⟩:=hc;rcases bQ.2 with ⟨hv,zy⟩ |⟨g,cap,cur,hv,_,hg,pz,kA,dy,htake⟩
 ·simp only[Hd.val,Value.slice.injEq] at hv;obtain⟨rfl,rfl,rfl⟩:=hv;subst zy;have hx:xs=[]:=List.eq_nil_of_length_eq_zero (by simpa using bQ.1);subst hx;by_cases hm:m=0
  ·subst hm;have hn:news=[]:=List.eq_nil_of_length_eq_zero (by simpa using hs.newsLen);subst hn;refine⟨⟨none,0,0⟩,w,?_,by simpa using bQ,.inl ⟨rfl,rfl⟩⟩;rcases hs.kind with ⟨e',hk⟩ |hk<;>simp [Hd.val,Builtin.append_,run_underlying ht,run_underlying hk,sizeOf,typeInfo,hi,hs.len,hs.cells]
  ·have hr:=run_append_grow_src w t tx ty e i zv ht hi hz none 0 0 [] (by simp [Builtin.firstCells]) x m news hs (by omega) B4 (zR (by omega) hb);exact⟨⟨some ⟨w.heap.size,0,none⟩,0+m,grownCap w (0+m) 0 e⟩,_,hr,by have:=grow 0 (by omega);simpa using this,.inr (.inr ⟨_,rfl,rfl⟩)⟩
 ·simp only[Hd.val,Value.slice.injEq] at hv;obtain⟨rfl,rfl,rfl⟩:=hv;by_cases gI:hn+m<=c
  ·have lK:hn * i.size+news.length<=cur.size:=by rw[hs.newsLen,dy,<- Nat.add_mul];exact Nat.mul_le_mul_right _ gI
   have hr:=MH t tx ty e i ht hi g hn c cur hg x m news hs gI lK;refine⟨⟨some ⟨g,0,none⟩,hn+m,c⟩,_,hr,⟨hlen,.inr ⟨g,c,_,rfl,aF _,setRow_heap w g cur _ e _ hg,gI,kA,?_,?_⟩⟩,.inr (.inl ⟨g,cur,_,rfl,rfl,hg,rfl,fun j hj=> ?_⟩)⟩
   ·simp only[List.size_toArray,aZ,List.length_take,gh,Array.length_toList];omega
   ·rw[htake,<- hlen];exact List.take_left
   ·have sG:=bQ.1;simp only[List.getElem?_toArray];rw[List.append_assoc,List.getElem?_append_left (by rw[htake];omega),List.getElem?_take,ai hj,Array.getElem?_toList]
  ·have holds:∀j u,xs[j]? =some u->w.cell? ((⟨g,0,none⟩:Addr).add j)=some u:=bQ.cells (g:=g) rfl;have hf:(Builtin.firstCells i.size hn (.slice (some ⟨g,0,none⟩) hn c)).run P w.drew= .ok xs.toArray w.drew:=run_firstCells_some w.drew i.size hn ⟨g,0,none⟩ hn c xs bQ.1 (by simpa using holds);have hr:=run_append_grow_src w t tx ty e i zv ht hi hz (some ⟨g,0,none⟩) hn c xs hf x m news hs (by omega) B4 (zR (by omega) hb);exact⟨⟨some ⟨w.heap.size,0,none⟩,hn+m,grownCap w (hn+m) c e⟩,_,hr,grow c (by omega),.inr (.inr ⟨_,rfl,rfl⟩)⟩
theorem F1 (t tx ty e:TypeId) (i:TypeInfo) (ht:P.underlying t=some (.slice e)) (hi:P.info? e=some i) (g f kq tD:Nat) (cur:Array Value) (hg:w.heap[g]? =some (.cells cur e (0,0)))
  (x:Value) (m:Nat) (news:List Value) (hs:Src P i.size tx x m news w) (gI:kq+m<=tD) (lK:f+kq * i.size+news.length<=cur.size):
  (Builtin.append_ #[t,tx] ty #[.slice (some ⟨g,f,none⟩) kq tD,x]).run P w=
   .ok (.slice (some ⟨g,f,none⟩) (kq+m) tD) (w.setRow g (cur.toList.take (f+kq * i.size)++news++cur.toList.drop (f+kq * i.size+news.length)).toArray):=by
 have eG:=run_storeCells_at P g (f+kq * i.size) e news 0 cur w hg (by simpa using lK) hs.one;simp only[Nat.add_zero] at eG;rcases hs.kind with ⟨e',hk⟩ |hk<;>simp [Builtin.append_,run_underlying ht,run_underlying hk,sizeOf,typeInfo,hi,hs.len,gI,hs.cells,mz,eG]
theorem MJ {t tx ty e:TypeId} {i:TypeInfo} {zv:Value} {h:Hd} {n m o:Nat} {xs news:List Value} {x:Value}
    (ht:P.underlying t=some (.slice e)) (hi:P.info? e=some i) (hz:i.zero=some zv) (kS:zv.cells.size=i.size)
    (bQ:w.ownsRow 0 e i.size h.val n xs) (ho:o<=n) (hs:Src P i.size tx x m news w) (hr:room (n+m) i.bytes):
    ∃(v:Value) (w' :World),(Builtin.append_ #[t,tx] ty #[gA h.a h.c o h.n i.size,x]).run P w= .ok v w' /\
      ((∃h' :Hd,v=gA h'.a h'.c o h'.n i.size/\w'.ownsRow 0 e i.size h'.val (n+m) (xs++news)/\
        (w' =w/\h' =h\/(∃g cur fr,h'.blk=some g/\h.blk=some g/\w.heap[g]? =some (.cells cur e (0,0))/\w' =w.setRow g fr/\(∀j,j<n * i.size->fr[j]? =cur[j]?))))\/
       (∃h' :Hd,v=h'.val/\w'.ownsRow 0 e i.size h'.val (n - o+m) (xs.drop (o * i.size)++news)/\(∃c,h'.blk=some w.heap.size/\w' =w.drew.alloc (.cells c e)))):=by
  obtain⟨hb,h63⟩:=hr;have kW:(n - o+m) * i.bytes<=140737488355328:=dk (Nat.mul_le_mul_right _ (by omega)) hb;have uE:(xs.drop (o * i.size)).length=(n - o) * i.size:=by rw[gh,bQ.1,<- Nat.sub_mul]
  have hlen:(xs++news).length=(n+m) * i.size:=by rw[aZ,bQ.1,hs.newsLen,Nat.add_mul]
  have vI:(xs.drop (o * i.size)++news).length=(n - o+m) * i.size:=by rw[aZ,uE,hs.newsLen,Nat.add_mul]
  have B4:((n - o+m:Nat):Int)<=9223372036854775807:=by simp only[maxLen] at h63;omega
  have grow:∀(old:Nat),old<n - o+m->(w.drew.alloc (.cells ((xs.drop (o * i.size)++news).toArray++Builtin.zeroCells zv.cells (grownCap w (n - o+m) old e - (n - o+m))) e)).ownsRow 0 e i.size
        (Hd.val ⟨some ⟨w.heap.size,0,none⟩,n - o+m,grownCap w (n - o+m) old e⟩) (n - o+m) (xs.drop (o * i.size)++news):=by
    intro old ho;have fZ:=grownCap_ge w (n - o+m) old e;have kA:grownCap w (n - o+m) old e<=maxLen:=grownCap_le_maxLen w (n - o+m) old e (by omega);refine⟨vI,.inr ⟨w.heap.size,_,_,rfl,aF _,heap_alloc_new w.drew _,fZ,kA,?_,?_⟩⟩
    · simp only[Array.size_append,List.size_toArray,size_zeroCells,kS,vI,<- Nat.add_mul]
      congr 1
      omega
    · simp only[Array.toList_append]
      rw[<- vI];exact List.take_left
  obtain⟨ha,hn,hc⟩:∃(a:Option Addr) (n' c:Nat),h=⟨a,n',c⟩:=⟨h.a,h.n,h.c,rfl⟩;obtain⟨c,rfl⟩:=hc;rcases bQ.2 with ⟨hv,zy⟩ |⟨g,cap,cur,hv,_,hg,pz,kA,dy,htake⟩
  · simp only[Hd.val,Value.slice.injEq] at hv
    obtain⟨rfl,rfl,rfl⟩:=hv;subst zy;obtain rfl:o=0:=by omega
    obtain⟨h',w',e1,e2,e3⟩:=Aa (ty:=ty) ht hi hz kS bQ hs ⟨hb,h63⟩;refine⟨h'.val,w',e1,?_⟩;rcases e3 with ⟨rfl,rfl⟩ |⟨_,_,_,_,h2,_⟩ |⟨cc,h1,h2⟩
    · exact .inl ⟨_,rfl,e2,.inl ⟨rfl,rfl⟩⟩
    · cases h2
    · refine .inr ⟨h',rfl,?_,cc,h1,h2⟩
      simpa using e2
  · simp only[Hd.val,Value.slice.injEq] at hv
    obtain⟨rfl,rfl,rfl⟩:=hv;have ZG:(⟨g,0,none⟩:Addr).add (o * i.size)=⟨g,o * i.size,none⟩:=by rw[mz,Nat.zero_add]
    have holds:∀j u,xs[j]? =some u->w.cell? ((⟨g,0,none⟩:Addr).add j)=some u:=bQ.cells (g:=g) rfl;dsimp only;by_cases qP:c=o
    · have ou:hn=o:=by omega
      have eH:gA (some ⟨g,0,none⟩) c o hn i.size= .slice (some ⟨g,0,none⟩) 0 0:=by unfold gA;rw[ai qP,ou,qP,Nat.sub_self]
      rw[eH];by_cases hm:m=0
      · subst hm
        have hnw:news=[]:=List.eq_nil_of_length_eq_zero (by simpa using hs.newsLen);subst hnw;have hr:=F1 t tx ty e i ht hi g 0 0 0 cur hg x 0 [] hs (aA _) (by simp);have yl:w.setRow g (cur.toList.take (0+0 * i.size)++[]++cur.toList.drop (0+0 * i.size+([]:List Value).length)).toArray=w:=by
          simpa using setRow_self w g cur e (0,0) hg
        rw[yl] at hr;refine⟨_,w,hr,.inl ⟨⟨some ⟨g,0,none⟩,hn,c⟩,?_,by simpa using bQ,.inl ⟨rfl,rfl⟩⟩⟩;rw[eH]
      · have Fj:xs.drop (o * i.size)=[]:=List.eq_nil_of_length_eq_zero (by rw[uE,ou,Nat.sub_self,Nat.zero_mul])
        have hf:(Builtin.firstCells i.size 0 (.slice (some ⟨g,0,none⟩) 0 0)).run P w.drew= .ok ([]:List Value).toArray w.drew:=run_firstCells_some w.drew i.size 0 ⟨g,0,none⟩ 0 0 [] (by simp) (fun j u hu=>by simp at hu);have hr:=run_append_grow_src w t tx ty e i zv ht hi hz (some ⟨g,0,none⟩) 0 0 [] hf x m news hs (by omega) (by omega) (zR (by omega) (by rw[ou,Nat.sub_self] at kW;exact kW));have dY:=grow 0 (by omega);rw[Fj,ou,Nat.sub_self] at dY ⊢;exact⟨_,_,hr,.inr ⟨⟨some ⟨w.heap.size,0,none⟩,0+m,grownCap w (0+m) 0 e⟩,rfl,dY,_,rfl,rfl⟩⟩
    · have eH:∀q,gA (some ⟨g,0,none⟩) c o q i.size= .slice (some ⟨g,o * i.size,none⟩) (q - o) (c - o):=fun q=>by unfold gA;rw[aa qP,Option.map_some,ZG]
      rw[eH];have jE:o * i.size+(hn - o) * i.size=hn * i.size:=by
        rw[<- Nat.add_mul];congr 1
        omega
      by_cases gI:hn - o+m<=c - o
      · have lK:hn * i.size+news.length<=cur.size:=by rw[hs.newsLen,dy,<- Nat.add_mul];exact Nat.mul_le_mul_right _ (by omega)
        have hr:=F1 t tx ty e i ht hi g (o * i.size) (hn - o) (c - o) cur hg x m news hs gI (by rw[jE];exact lK);rw[jE] at hr;refine⟨_,_,hr,.inl ⟨⟨some ⟨g,0,none⟩,hn+m,c⟩,?_,⟨hlen,.inr ⟨g,c,_,rfl,aF _,setRow_heap w g cur _ e _ hg,by omega,kA,?_,?_⟩⟩,.inr ⟨g,cur,_,rfl,rfl,hg,rfl,fun j hj=> ?_⟩⟩⟩
        · dsimp only
          rw[eH,show hn - o+m=hn+m - o by omega]
        · simp only[List.size_toArray,aZ,List.length_take,gh,Array.length_toList]
          omega
        · rw[htake,<- hlen]
          exact List.take_left
        · have sG:=bQ.1
          simp only[List.getElem?_toArray];rw[List.append_assoc,List.getElem?_append_left (by rw[htake];omega),List.getElem?_take,ai hj,Array.getElem?_toList]
      · have XG:∀j u,(xs.drop (o * i.size))[j]? =some u->w.cell? ((⟨g,o * i.size,none⟩:Addr).add j)=some u:=fun j u hu=>by
          rw[List.getElem?_drop] at hu;have:=holds _ u hu;rw[mz,Nat.zero_add] at this;rw[mz];exact this
        have hf:(Builtin.firstCells i.size (hn - o) (.slice (some ⟨g,o * i.size,none⟩) (hn - o) (c - o))).run P w.drew= .ok (xs.drop (o * i.size)).toArray w.drew:=run_firstCells_some w.drew i.size (hn - o) ⟨g,o * i.size,none⟩ (hn - o) (c - o) _ uE (by simpa using XG);have hr:=run_append_grow_src w t tx ty e i zv ht hi hz (some ⟨g,o * i.size,none⟩) (hn - o) (c - o) _ hf x m news hs (by omega) B4 (zR (by omega) kW);exact⟨_,_,hr,.inr ⟨⟨some ⟨w.heap.size,0,none⟩,hn - o+m,grownCap w (hn - o+m) (c - o) e⟩,rfl,grow (c - o) (by omega),_,rfl,rfl⟩⟩
end
section
variable {V V' :Vl} {D D' :Nat->Nat} {w w' :World} {bx:List Bx} {vc:List Vc} {nid:Nat}
theorem HSat.consBx {b:Bx} (h:HSat V D w ⟨bx,vc⟩) (hb:zN V D w b) (hn:V.β b.id ∉ aE V ⟨bx,vc⟩):HSat V D w ⟨b::bx,vc⟩:=
 ⟨fun x hx=>(List.mem_cons.1 hx).elim (fun e=>e▸hb) (h.bx x),h.vc,List.nodup_cons.2 ⟨hn,h.apart⟩,h.uniq⟩
theorem Dh {b:Vc}:(aE V ⟨bx,b::vc⟩).Perm ((V.γ b.id b.ver).blk.toList++aE V ⟨bx,vc⟩):=by
 unfold aE;simp only[List.filterMap_cons];cases (V.γ b.id b.ver).blk with
 |none=>exact List.Perm.refl _
 |some g=>exact List.perm_middle
theorem HSat.consVc {b:Vc} (h:HSat V D w ⟨bx,vc⟩) (hb:uP V D w b) (hu:b.id ∉ vc.map (·.id)) (hn:∀g,(V.γ b.id b.ver).blk=some g->g ∉ aE V ⟨bx,vc⟩):HSat V D w ⟨bx,b::vc⟩:=
 ⟨h.bx,fun x hx=>(List.mem_cons.1 hx).elim (fun e=>e▸hb) (h.vc x),by
  rw[Dh.nodup_iff];cases hg:(V.γ b.id b.ver).blk with
  |none=>exact h.apart
  |some g=>exact List.nodup_cons.2 ⟨hn g hg,h.apart⟩,List.nodup_cons.2 ⟨hu,h.uniq⟩⟩
theorem Cr {b:Vc} {x:Nat}:x∈aE V ⟨bx,b::vc⟩↔(V.γ b.id b.ver).blk=some x\/x∈aE V ⟨bx,vc⟩:=by
 rw[Dh.mem_iff,List.mem_append];cases (V.γ b.id b.ver).blk<;>simp [eq_comm]
/-! What was all right stays all right. -/
theorem Iz {nid eB:Nat} (hn:nid<=eB):∀{ks:List Nat},sC nid ks->sC eB ks
 |[],_=>trivial
 |_::_,h=>⟨dm h.1 hn,Iz hn h.2⟩
theorem pJ {eB:Nat} {df:List Vc} (hn:nid<=eB) (hv:∀k u,k<nid->aY vc k u->aY df k u) {s:SV} (h:gQ nid vc s):gQ eB df s:=by
 cases s with
 |v x=>trivial
 |box k o=>exact dm h hn
 |vec k u=>exact⟨dm h.1 hn,hv k u h.1 h.2⟩
 |vp k u o=>exact⟨dm h.1 hn,hv k u h.1 h.2⟩
 |vo k u o z=>exact⟨dm h.1 hn,hv k u h.1 h.2⟩
 |mp k=>exact dm h hn
 |mv f k o=>exact dm h hn
 |sl k n c=>exact dm h hn
 |cl f ks=>exact Iz hn h
 |agg cs=>trivial
 |tup l=>trivial
theorem nD {eB:Nat} {df:List Vc} (hn:nid<=eB) (hv:∀k u,k<nid->aY vc k u->aY df k u):∀{l:List SV},cL nid vc l->cL eB df l
 |[],_=>trivial
 |_::_,h=>⟨pJ hn hv h.1,nD hn hv h.2⟩
theorem oI {eB:Nat} {df:List Vc} (hn:nid<=eB) (hv:∀k u,k<nid->aY vc k u->aY df k u) {s:SV} (h:okB nid vc s):okB eB df s:=by
 cases s with
 |agg cs=>exact nD hn hv h
 |v x=>trivial
 |box k o=>exact pJ (s:= .box k o) hn hv h
 |vec k u=>exact pJ (s:= .vec k u) hn hv h
 |vp k u o=>exact pJ (s:= .vp k u o) hn hv h
 |vo k u o z=>exact pJ (s:= .vo k u o z) hn hv h
 |mp k=>exact pJ (s:= .mp k) hn hv h
 |mv f k o=>exact pJ (s:= .mv f k o) hn hv h
 |sl k n c=>exact pJ (s:= .sl k n c) hn hv h
 |cl f ks=>exact pJ (s:= .cl f ks) hn hv h
 |tup l=>trivial
theorem It {eB:Nat} {df:List Vc} (hn:nid<=eB) (hv:∀k u,k<nid->aY vc k u->aY df k u):∀{l:List SV},ue nid vc l->ue eB df l
 |[],_=>trivial
 |_::_,h=>⟨oI hn hv h.1,It hn hv h.2⟩
theorem Iv {eB:Nat} {df:List Vc} (hn:nid<=eB) (hv:∀k u,k<nid->aY vc k u->aY df k u) {s:SV} (h:fb nid vc s):fb eB df s:=by
 cases s with
 |tup l=>exact It hn hv h
 |v x=>trivial
 |box k o=>exact oI (s:= .box k o) hn hv h
 |vec k u=>exact oI (s:= .vec k u) hn hv h
 |vp k u o=>exact oI (s:= .vp k u o) hn hv h
 |vo k u o z=>exact oI (s:= .vo k u o z) hn hv h
 |mp k=>exact oI (s:= .mp k) hn hv h
 |mv f k o=>exact oI (s:= .mv f k o) hn hv h
 |sl k n c=>exact oI (s:= .sl k n c) hn hv h
 |cl f ks=>exact oI (s:= .cl f ks) hn hv h
 |agg cs=>exact oI (s:= .agg cs) hn hv h
theorem pG {b:Vc} (hb:b.id=nid):∀k u,k<nid->aY vc k u->aY (b::vc) k u:=by
 intro k u hk h;obtain⟨k',u',e',z',n',x'⟩:=b;dsimp only at hb;subst hb;simp only[aY];rw[aa (by omega)];exact h
theorem CI {k u:Nat} {b x:Vc} (hb:cq vc k u=some b) (hx:x.id=k) (hu:u<=x.ver):∀k' u',aY vc k' u' ->aY (gq vc k x) k' u' :=by
 intro k' u' h;induction vc with
 |nil=>cases hb
 |cons y r ih=>
  obtain⟨i',v',e',z',n',x'⟩:=y;obtain⟨kx,ux,ex,zx,nx,xx⟩:=x;dsimp only at hx hu;subst hx;simp only[cq] at hb;simp only[gq];simp only[aY] at h;by_cases he:i' =kx
  ·rw[ai he] at hb ⊢;split at hb
   ·rename_i hv;subst he;simp only[aY];split
    ·rename_i e;rw[ai e] at h;omega
    ·rename_i e;rw[aa e] at h;exact h
   ·cases hb
  ·rw[aa he] at hb ⊢;simp only[aY];split
   ·rename_i e;rw[ai e] at h;exact h
   ·rename_i e;rw[aa e] at h;exact ih hb h
theorem qZ {vc:List Vc}:∀{b:Vc},(vc.map (·.id)).Nodup->b∈vc->aY vc b.id b.ver:=by
 induction vc with
 |nil=>intro b _ h;cases h
 |cons y r ih=>
  intro b hu h;obtain⟨i',v',e',z',n',x'⟩:=y;simp only[aG,List.nodup_cons] at hu;simp only[aY];rcases List.mem_cons.1 h with rfl |h
  ·rw[ai rfl];exact aA _
  ·have:¬i' =b.id:=fun e=>hu.1 (by rw[e];exact List.mem_map.2 ⟨b,h,rfl⟩)
   rw[aa this];exact ih hu.2 h
theorem Az {vc:List Vc} {k v u:Nat} (h:aY vc k v) (hu:u<=v):aY vc k u:=by
 induction vc with
 |nil=>trivial
 |cons y r ih=>
  obtain⟨i',v',e',z',n',x'⟩:=y;simp only[aY] at h ⊢;split
  ·rename_i e;rw[ai e] at h;omega
  ·rename_i e;rw[aa e] at h;exact ih h
theorem zZ (V:Vl) (g:Nat):Agree nid vc V {V with β:=fun k=>if k=nid then g else V.β k}:=fun k hk=>⟨aa (by omega),fun _ _=>rfl⟩
theorem GK (V:Vl) (h:Hd):Agree nid vc V {V with γ:=fun k u=>if k=nid then h else V.γ k u}:=fun k hk=>⟨rfl,fun _ _=>aa (by omega)⟩
end
section
variable {C:Ctx} {bx:List Bx} {vc:List Vc} {nid:Nat} {m:Mem} {V:Vl} {D:Nat->Nat} {w:World}
theorem sS (w:World) (o:Obj) (k:Nat) (h:k<w.heap.size):(w.alloc o).heap[k]? =w.heap[k]? :=Go.RowKit.Below.heap_alloc w o k h
theorem SatW.keepH (h:SatW C bx vc nid m V D w) {V' :Vl} {w' :World} (ha:Agree nid vc V V') (hw:∀b,b<w.heap.size->w'.heap[b]? =w.heap[b]?):HSat V' D w' ⟨bx,vc⟩:=
 h.heap.frame (fun b hb=>⟨(ha b.id (h.ids.1 b hb).1).1,sV ha (h.ids.1 b hb).2⟩)
  (fun b hb=>(ha b.id (h.ids.2 b hb)).2 b.ver (qZ h.heap.uniq hb))
  fun g hg=>⟨hw g (rp h.heap g hg),rfl⟩
theorem Frm.quiet {w' :World} {D' :Nat->Nat} (h1:w'.os=w.os) (h2:w'.tape=w.tape) (h3:w'.output=w.output) (h4:w.heap.size<=w'.heap.size) (hw:∀b,b<w.heap.size->w'.heap[b]? =w.heap[b]? /\D' b=D b) (F:Nat->Prop):Frm F w D w' D' :=
 ⟨h1,h2,h3,h4,fun b hb _=>hw b hb⟩
theorem wS {t:TypeId} {vs:List Value} (h:t<gn):gL t vs (.cells ⟨vs⟩ t (0,0)):=by
 unfold gL;rw[ai h]
theorem xz {t:TypeId} {vs:List Value} {o:Obj} (h:t<gn) (ho:gL t vs o):o= .cells ⟨vs⟩ t (0,0):=by
 unfold gL at ho;rwa [ai h] at ho
theorem SatW.addBx (h:SatW C bx vc nid m V D w) {t:TypeId} {cs:List SV} {o:Obj} (ho:gL t (cs.map (aH V)) o) (ao:cL nid vc cs):
  ∃V',Agree nid vc V V' /\V'.β nid=w.heap.size/\SatW C (⟨nid,t,cs⟩::bx) vc (nid+1) m V' D (w.alloc o):=by
 refine⟨{V with β:=fun k=>if k=nid then w.heap.size else V.β k},zZ V _,ai rfl,?_⟩;have ha:=zZ (nid:=nid) (vc:=vc) V w.heap.size;have hw:∀b,b<w.heap.size->(w.alloc o).heap[b]? =w.heap[b]? :=fun b hb=>sS w _ b hb
 have hold:=h.keepH ha hw;have an:=rp hold;have er:aE {V with β:=fun k=>if k=nid then w.heap.size else V.β k} ⟨bx,vc⟩=aE V ⟨bx,vc⟩:=
  xL (fun b hb=>(ha b.id (h.ids.1 b hb).1).1) (fun b hb=>(ha b.id (h.ids.2 b hb)).2 b.ver (qZ h.heap.uniq hb))
 have ES:=rp h.heap;have hD:D w.heap.size=0:=h.wf _ (aA _);have lT:Frm (fun _=>False) w D (w.alloc o) D:=Frm.quiet (w:=w) (w' :=w.alloc o) rfl rfl rfl (by simp) (fun b hb=>⟨hw b hb,rfl⟩) _;have hle:Mem.le ⟨w,D⟩ ⟨w.alloc o,D⟩:=Mem.le_same h.wf (fun b hb=>⟨aA _,fun _=>hw b hb⟩);refine⟨hold.consBx ⟨?_,?_⟩ ?_,fun b hb=>h.wf b (by simp at hb;omega),h.frm.trans lT (fun _ h=>h.elim),?_,fun b hb=> ?_,fun b hb=> ?_,⟨fun b hb=> ?_,fun b hb=>Nat.lt_succ_of_lt (h.ids.2 b hb)⟩,Mem.le_trans h.le0 hle,h.m0,Mem.le_trans h.mle hle⟩
 ·refine⟨o,?_,?_⟩
  ·show(w.alloc _).heap[(if nid=nid then w.heap.size else V.β nid)]? =_;rw[ai rfl];exact heap_alloc_new w _
  ·show gL t (cs.map (aH _)) o;rw[sV ha ao];exact ho
 ·show D (if nid=nid then w.heap.size else V.β nid)=0;rw[ai rfl];exact hD
 ·show(if nid=nid then w.heap.size else V.β nid) ∉ _;rw[ai rfl,er];exact fun bg=>Nat.lt_irrefl _ (ES _ bg)
 ·intro b hb;rcases List.mem_cons.1 hb with rfl |hb
  ·show C.F (if nid=nid then w.heap.size else V.β nid)\/C.w0.heap.size<=(if nid=nid then w.heap.size else V.β nid);rw[ai rfl];exact .inr h.frm.size
  ·refine h.own b ?_;rw[<- er];exact hb
 ·obtain⟨h1,h2⟩:=h.baseB b hb;exact⟨((ha b.id h2).1).trans h1,Nat.lt_succ_of_lt h2⟩
 ·obtain⟨h1,h2,h3⟩:=h.baseV b hb;exact⟨fun u hu=>h1 u hu,Nat.lt_succ_of_lt h2,h3⟩
 ·rcases List.mem_cons.1 hb with rfl |hb
  ·exact⟨Nat.lt_succ_self _,nD (Nat.le_succ _) (fun _ _ _ h=>h) ao⟩
  ·exact⟨Nat.lt_succ_of_lt (h.ids.1 b hb).1,nD (Nat.le_succ _) (fun _ _ _ h=>h) (h.ids.1 b hb).2⟩
theorem SatW.addVc (h:SatW C bx vc nid m V D w) {w' :World} {hd:Hd} {e:TypeId} {sz n:Nat} {xs:List Value}
  (h1:w'.os=w.os) (h2:w'.tape=w.tape) (h3:w'.output=w.output) (h4:w.heap.size<=w'.heap.size) (hw:∀b,b<w.heap.size->w'.heap[b]? =w.heap[b]?)
  (bQ:w'.ownsRow 0 e sz hd.val n xs) (lJ:∀g,hd.blk=some g->w.heap.size<=g) (eQ:0<sz) (jX:∀u∈xs,u.oneCell' =true):
  ∃V',Agree nid vc V V' /\V'.γ nid 0=hd/\SatW C bx (⟨nid,0,e,sz,n,xs⟩::vc) (nid+1) m V' D w' :=by
 refine⟨{V with γ:=fun k u=>if k=nid then hd else V.γ k u},GK V _,ai rfl,?_⟩;have ha:=GK (nid:=nid) (vc:=vc) V hd;have hold:=h.keepH (w' :=w') ha hw;have er:aE {V with γ:=fun k u=>if k=nid then hd else V.γ k u} ⟨bx,vc⟩=aE V ⟨bx,vc⟩:=
  xL (fun b hb=>(ha b.id (h.ids.1 b hb).1).1) (fun b hb=>(ha b.id (h.ids.2 b hb)).2 b.ver (qZ h.heap.uniq hb))
 have an:=rp h.heap;have lT:Frm (fun _=>False) w D w' D:=Frm.quiet h1 h2 h3 h4 (fun b hb=>⟨hw b hb,rfl⟩) _;have hle:Mem.le ⟨w,D⟩ ⟨w',D⟩:=Mem.le_same h.wf (fun b hb=>⟨aA _,fun _=>hw b hb⟩);have qf:∀k u,k<nid->aY vc k u->aY (⟨nid,0,e,sz,n,xs⟩::vc) k u:=pG rfl;refine⟨hold.consVc ⟨?_,?_,eQ,jX⟩ ?_ ?_,fun b hb=>h.wf b (dk h4 hb),h.frm.trans lT (fun _ h=>h.elim),?_,fun b hb=> ?_,fun b hb=> ?_,⟨fun b hb=> ?_,fun b hb=> ?_⟩,Mem.le_trans h.le0 hle,h.m0,Mem.le_trans h.mle hle⟩
 ·show w'.ownsRow 0 e sz (if nid=nid then hd else V.γ nid 0).val n xs;rw[ai rfl];exact bQ
 ·intro g hg;have eo:hd.blk=some g:=by
   have:(if nid=nid then hd else V.γ nid 0).blk=some g:=hg;rwa [ai rfl] at this
  rw[h.wf g (lJ g eo)];exact aF _
 ·intro bg;obtain⟨b,hb,jG⟩:=List.mem_map.1 bg;have:=h.ids.2 b hb;dsimp only at jG;omega
 ·intro g hg bg;have eo:hd.blk=some g:=by
   have:(if nid=nid then hd else V.γ nid 0).blk=some g:=hg;rwa [ai rfl] at this
  rw[er] at bg;have:=an g bg;have:=lJ g eo;omega
 ·intro b hb;rcases Cr.1 hb with hb |hb
  ·have kW:hd.blk=some b:=by
    have:(if nid=nid then hd else V.γ nid 0).blk=some b:=hb;rwa [ai rfl] at this
   exact .inr (dk h.frm.size (lJ b kW))
  ·rw[er] at hb;exact h.own b hb
 ·exact⟨(h.baseB b hb).1,Nat.lt_succ_of_lt (h.baseB b hb).2⟩
 ·obtain⟨e1,e2,e3⟩:=h.baseV b hb;exact⟨fun u hu=>((ha b.id e2).2 u (Az e3 hu)).trans (e1 u hu),Nat.lt_succ_of_lt e2,qf _ _ e2 e3⟩
 ·exact⟨Nat.lt_succ_of_lt (h.ids.1 b hb).1,nD (Nat.le_succ _) qf (h.ids.1 b hb).2⟩
 ·rcases List.mem_cons.1 hb with rfl |hb
  ·exact Nat.lt_succ_self _
  ·exact Nat.lt_succ_of_lt (h.ids.2 b hb)
end
theorem GG {k:Nat} {b:Bx} {cs:List SV}:∀{bx:List Bx},dt bx k=some b->∃l1 l2,bx=l1++b::l2/\fS bx k cs=l1++⟨b.id,b.ty,cs⟩::l2
 |[],h=>by cases h
 |⟨k',t',c'⟩::r,h=>by
  simp only[dt] at h;simp only[fS];split at h
  ·rename_i e;cases h;rw[ai e];exact⟨[],r,rfl,rfl⟩
  ·rename_i e;rw[aa e];obtain⟨l1,l2,h1,h2⟩:=GG (cs:=cs) h;exact⟨⟨k',t',c'⟩::l1,l2,by rw[h1];rfl,by rw[h2];rfl⟩
theorem GF {k u:Nat} {b x:Vc}:∀{vc:List Vc},cq vc k u=some b->∃l1 l2,vc=l1++b::l2/\gq vc k x=l1++x::l2
 |[],h=>by cases h
 |⟨k',u',e',z',n',x'⟩::r,h=>by
  simp only[cq] at h;simp only[gq];split at h
  ·rename_i e;split at h
   ·cases h;rw[ai e];exact⟨[],r,rfl,rfl⟩
   ·cases h
  ·rename_i e;rw[aa e];obtain⟨l1,l2,h1,h2⟩:=GF (x:=x) h;exact⟨⟨k',u',e',z',n',x'⟩::l1,l2,by rw[h1];rfl,by rw[h2];rfl⟩
theorem Dl {k u v:Nat} {b:Vc}:∀{vc:List Vc},cq vc k u=some b->aY vc k v->v<=u
 |[],h,_=>by cases h
 |⟨k',u',e',z',n',x'⟩::r,h,hv=>by
  simp only[cq] at h;simp only[aY] at hv;split at h
  ·rename_i e;split at h
   ·rename_i e';rw[ai e] at hv;omega
   ·cases h
  ·rename_i e;rw[aa e] at hv;exact Dl h hv
section
variable {V V' :Vl} {D D' :Nat->Nat} {w w' :World} {bx:List Bx} {vc:List Vc} {nid:Nat} {m:Mem} {C:Ctx}
theorem Ja {l1 l2:List Bx} {b:Bx}:(aE V ⟨l1++b::l2,vc⟩).Perm (V.β b.id::aE V ⟨l1++l2,vc⟩):=by
 unfold aE;simp only[List.map_append,aG,List.append_assoc,fh];exact List.perm_middle
theorem SatW.setOb (h:SatW C bx vc nid m V D w) {k:Nat} {b:Bx} {cs:List SV} (hb:dt bx k=some b) (ao:cL nid vc cs) {w' :World} {o:Obj} (ho:gL b.ty (cs.map (aH V)) o)
  (e1:w'.os=w.os) (e2:w'.tape=w.tape) (e3:w'.output=w.output) (e4:w'.heap.size=w.heap.size) (e5:w'.heap[V.β k]? =some o) (e6:∀g,g≠V.β k->w'.heap[g]? =w.heap[g]?):
  SatW C (fS bx k cs) vc nid m V D w' :=by
 obtain⟨rfl,hm⟩:=nG hb;obtain⟨l1,l2,hl,hu⟩:=GG (cs:=cs) hb;have ff:=h.heap.apart;rw[hl] at ff;have en:=(Ja.nodup_iff).1 ff;obtain⟨qw,_⟩:=List.nodup_cons.1 en;have KB:∀g,g∈aE V ⟨l1++l2,vc⟩->w'.heap[g]? =w.heap[g]? :=fun g hg=>
  e6 g (fun e=>qw (e▸hg))
 have hD:D (V.β b.id)=0:=(h.heap.bx b hm).2;have bQ:=h.own (V.β b.id) (by rw[hl];exact Ja.mem_iff.2 (bL ..));have lT:Frm (fun x=>x=V.β b.id) w D w' D:=
  ⟨e1,e2,e3,by rw[e4];exact aA _,fun x _ hx=>⟨e6 x hx,rfl⟩⟩
 have hle:Mem.le ⟨w,D⟩ ⟨w',D⟩:=Mem.le_same h.wf (fun x _=>⟨aA _,fun h0=>e6 x (fun e=>by subst e;omega)⟩);have er:aE V ⟨fS bx b.id cs,vc⟩=aE V ⟨bx,vc⟩:=by
  unfold aE;rw[hu,hl];simp
 rw[hu];rw[hu] at er;refine⟨⟨fun x hx=> ?_,fun x hx=> ?_,by rw[er];exact h.heap.apart,h.heap.uniq⟩,fun x hx=>h.wf x (by rw[e4] at hx;exact hx),h.frm.trans lT (fun x hx=>by subst hx;exact bQ),?_,h.baseB,h.baseV,⟨fun x hx=> ?_,h.ids.2⟩,Mem.le_trans h.le0 hle,h.m0,Mem.le_trans h.mle hle⟩
 ·have cW:x∈l1++l2\/x=⟨b.id,b.ty,cs⟩:=by
   simp only[List.mem_append,List.mem_cons] at hx ⊢;rcases hx with hx |hx |hx
   ·exact .inl (.inl hx)
   ·exact .inr hx
   ·exact .inl (.inr hx)
  rcases cW with cW |rfl
  ·have bg:x∈bx:=by
    rw[hl];simp only[List.mem_append,List.mem_cons] at cW ⊢;rcases cW with h1 |h1
    ·exact .inl h1
    ·exact .inr (.inr h1)
   have hg:V.β x.id∈aE V ⟨l1++l2,vc⟩:=by
    simp only[aE,List.mem_append,List.mem_map] at cW ⊢;exact .inl ⟨x,cW,rfl⟩
   obtain⟨h1,h2⟩:=h.heap.bx x bg;exact⟨by rw[KB _ hg];exact h1,h2⟩
  ·exact⟨⟨o,e5,ho⟩,hD⟩
 ·obtain⟨h1,h2,h3,h4⟩:=h.heap.vc x hx
  exact⟨Ir h1 (fun g hg=>KB g (by
   simp only[aE,List.mem_append,List.mem_filterMap]
   exact .inr ⟨x,hx,hg⟩)),h2,h3,h4⟩
 ·intro x hx;rw[er] at hx;exact h.own x hx
 ·have cW:x∈bx\/x=⟨b.id,b.ty,cs⟩:=by
   rw[hl];simp only[List.mem_append,List.mem_cons] at hx ⊢;rcases hx with hx |hx |hx
   ·exact .inl (.inl hx)
   ·exact .inr hx
   ·exact .inl (.inr (.inr hx))
  rcases cW with cW |rfl
  ·exact h.ids.1 x cW
  ·exact⟨(h.ids.1 b hm).1,ao⟩
theorem SatW.setBx (h:SatW C bx vc nid m V D w) {k:Nat} {b:Bx} {cs:List SV} (hb:dt bx k=some b) (dw:b.ty<gn) (ao:cL nid vc cs):
  SatW C (fS bx k cs) vc nid m V D (w.setRow (V.β k) ⟨cs.map (aH V)⟩):=by
 obtain⟨hk,hm⟩:=nG hb;obtain⟨o,qv,ho⟩:=(h.heap.bx b hm).1;have ho' :=xz dw ho;subst ho';rw[hk] at qv;exact h.setOb hb ao (wS dw) rfl rfl rfl (size_setRow _ _ _) (setRow_heap w _ _ _ _ _ qv) (fun g hg=>setRow_other w _ g _ hg)
theorem HSat.permVc {df:List Vc} (h:HSat V D w ⟨bx,vc⟩) (hp:vc.Perm df):HSat V D w ⟨bx,df⟩:=
 ⟨h.bx,fun b hb=>h.vc b (hp.mem_iff.2 hb),by
  have:(aE V ⟨bx,vc⟩).Perm (aE V ⟨bx,df⟩):=List.Perm.append_left _ (hp.filterMap _)
  exact(this.nodup_iff).1 h.apart,((hp.map _).nodup_iff).1 h.uniq⟩
theorem HSat.tailVc {b:Vc} (h:HSat V D w ⟨bx,b::vc⟩):HSat V D w ⟨bx,vc⟩/\b.id ∉ vc.map (·.id)/\∀g,(V.γ b.id b.ver).blk=some g->g ∉ aE V ⟨bx,vc⟩:=by
 have en:=(Dh.nodup_iff).1 h.apart;have hu:=List.nodup_cons.1 h.uniq;refine⟨⟨h.bx,fun x hx=>h.vc x (bt _ hx),(List.nodup_append.1 en).2.1,hu.2⟩,hu.1,fun g hg bg=> ?_⟩;rw[hg] at en;exact(List.nodup_cons.1 en).1 bg
theorem SatW.updVc (h:SatW C bx vc nid m V D w) {k u n:Nat} {b:Vc} {hd:Hd} {xs:List Value} (hb:cq vc k u=some b) (uK:b.n * b.sz<=n * b.sz)
  (h1:w'.os=w.os) (h2:w'.tape=w.tape) (h3:w'.output=w.output) (h4:w.heap.size<=w'.heap.size)
  (hw:∀g,g<w.heap.size->(V.γ k u).blk≠some g->w'.heap[g]? =w.heap[g]?) (hkp:∀g,(V.γ k u).blk=some g->mw (b.n * b.sz) w.heap[g]? w'.heap[g]?)
  (bQ:w'.ownsRow 0 b.el b.sz hd.val n xs) (yR:∀g,hd.blk=some g->(V.γ k u).blk=some g\/w.heap.size<=g) (jX:∀y∈xs,y.oneCell' =true):
  ∃V',Agree nid vc V V' /\V'.γ k (u+1)=hd/\SatW C bx (gq vc k (fD b n xs)) nid m V' D w' :=by
 obtain⟨jG,hbv,hm⟩:=xH hb;subst jG;subst hbv;refine⟨{V with γ:=fun i v=>if i=b.id/\v=b.ver+1 then hd else V.γ i v},?_,ai ⟨rfl,rfl⟩,?_⟩
 ·intro i hi;refine⟨rfl,fun v hv=>aa ?_⟩;rintro⟨rfl,rfl⟩;have:=Dl hb hv;omega
 have ha:Agree nid vc V {V with γ:=fun i v=>if i=b.id/\v=b.ver+1 then hd else V.γ i v}:=by
  intro i hi;refine⟨rfl,fun v hv=>aa ?_⟩;rintro⟨rfl,rfl⟩;have:=Dl hb hv;omega
 obtain⟨l1,l2,hl,hu⟩:=GF (x:=fD b n xs) hb;have hp:vc.Perm (b::(l1++l2)):=by rw[hl];exact List.perm_middle
 have Fv:(gq vc b.id (fD b n xs)).Perm (fD b n xs::(l1++l2)):=by rw[hu];exact List.perm_middle
 have qf:∀i v,aY vc i v->aY (gq vc b.id (fD b n xs)) i v:=CI hb (by cases b;rfl) (by cases b;exact Nat.le_succ _);obtain⟨ht,hid,hblkb⟩:=(h.heap.permVc hp).tailVc;have pD:=h.heap.vc b hm;have an:=rp h.heap;have Lk:=rp ht;have ym:∀g,g∈aE V ⟨bx,l1++l2⟩->w'.heap[g]? =w.heap[g]? :=fun g hg=>hw g (Lk g hg) (fun e=>hblkb g e hg)
 have qx:∀x∈l1++l2,x∈vc:=fun x hx=>hp.mem_iff.2 (bt _ hx)
 have ui:HSat {V with γ:=fun i v=>if i=b.id/\v=b.ver+1 then hd else V.γ i v} D w' ⟨bx,l1++l2⟩:=
  ht.frame (fun x hx=>⟨rfl,sV ha (h.ids.1 x hx).2⟩) (fun x hx=>(ha x.id (h.ids.2 x (qx x hx))).2 x.ver (qZ h.heap.uniq (qx x hx))) (fun g hg=>⟨ym g hg,rfl⟩)
 have er:aE {V with γ:=fun i v=>if i=b.id/\v=b.ver+1 then hd else V.γ i v} ⟨bx,l1++l2⟩=aE V ⟨bx,l1++l2⟩:=
  xL (fun x hx=>rfl) (fun x hx=>(ha x.id (h.ids.2 x (qx x hx))).2 x.ver (qZ h.heap.uniq (qx x hx)))
 have lJ:(({V with γ:=fun i v=>if i=b.id/\v=b.ver+1 then hd else V.γ i v}:Vl).γ (fD b n xs).id (fD b n xs).ver)=hd:=by
  cases b;exact ai ⟨rfl,rfl⟩
 have hD:∀g,hd.blk=some g->D g<=n * b.sz:=fun g hg=>by
  rcases yR g hg with e |e
  ·exact dk (pD.2.1 g e) uK
  ·rw[h.wf g e];exact aF _
 have JU:∀g,(V.γ b.id b.ver).blk=some g->C.F g\/C.w0.heap.size<=g:=fun g hg=>h.own g (by
  simp only[aE,List.mem_append,List.mem_filterMap]
  exact .inr ⟨b,hm,hg⟩)
 have lT:Frm (fun x=>(V.γ b.id b.ver).blk=some x) w D w' D:=⟨h1,h2,h3,h4,fun x hx hn=>⟨hw x hx hn,rfl⟩⟩
 have hle:Mem.le ⟨w,D⟩ ⟨w',D⟩:=fun x=>⟨aA _,fun h0=>by
  have sG:x<w.heap.size:=by
   rcases Nat.lt_or_ge x w.heap.size with h5 |h5
   ·exact h5
   ·have:=h.wf x h5;dsimp only at h0;omega
  refine⟨sG,?_⟩;by_cases hx:(V.γ b.id b.ver).blk=some x
  ·exact F5 (pD.2.1 x hx) (oE (d:=D x) rfl) (hkp x hx)
  ·exact oE (hw x sG hx)⟩
 have XO:HSat {V with γ:=fun i v=>if i=b.id/\v=b.ver+1 then hd else V.γ i v} D w' ⟨bx,fD b n xs::(l1++l2)⟩:=by
  refine ui.consVc ?_ (by cases b;exact hid) ?_
  ·unfold uP;rw[lJ];cases b;exact⟨bQ,hD,pD.2.2.1,jX⟩
  ·rw[lJ];intro g hg bg;rw[er] at bg;rcases yR g hg with e |e
   ·exact hblkb g e bg
   ·have:=Lk g bg;omega
 refine⟨XO.permVc Fv.symm,fun x hx=>h.wf x (dk h4 hx),h.frm.trans lT JU,fun x hx=> ?_,fun x hx=>h.baseB x hx,fun x hx=> ?_,⟨fun x hx=>⟨(h.ids.1 x hx).1,nD (aA _) (fun i v _=>qf i v) (h.ids.1 x hx).2⟩,fun x hx=> ?_⟩,Mem.le_trans h.le0 hle,h.m0,Mem.le_trans h.mle hle⟩
 ·have cW:x∈aE {V with γ:=fun i v=>if i=b.id/\v=b.ver+1 then hd else V.γ i v} ⟨bx,fD b n xs::(l1++l2)⟩:=by
   have:(aE {V with γ:=fun i v=>if i=b.id/\v=b.ver+1 then hd else V.γ i v} ⟨bx,gq vc b.id (fD b n xs)⟩).Perm _:=List.Perm.append_left _ (Fv.filterMap _);exact this.mem_iff.1 hx
  rcases Cr.1 cW with e |e
  ·rw[lJ] at e;rcases yR x e with e' |e'
   ·exact JU x e'
   ·exact .inr (dk h.frm.size e')
  ·rw[er] at e;refine h.own x ?_;have:(aE V ⟨bx,vc⟩).Perm _:=List.Perm.append_left _ (hp.filterMap _);exact this.mem_iff.2 (Cr.2 (.inr e))
 ·obtain⟨e1,e2,e3⟩:=h.baseV x hx;exact⟨fun v hv=>((ha x.id e2).2 v (Az e3 hv)).trans (e1 v hv),e2,qf _ _ e3⟩
 ·have:=Fv.mem_iff.1 hx;rcases List.mem_cons.1 this with rfl |hx
  ·have:=h.ids.2 b hm;cases b;exact this
  ·exact h.ids.2 x (qx x hx)
end
theorem xd (L:List Nat):∀bx:List Bx,ef L bx=bx.filter fun b=>L.contains b.id
 |[]=>rfl
 |⟨k,t,cs⟩::r=>by
  simp only[ef,List.filter_cons,xd L r]
theorem Am (L:List Nat):∀vc:List Vc,dL L vc=vc.filter fun b=>L.contains b.id
 |[]=>rfl
 |⟨k,u,e,z,n,xs⟩::r=>by
  simp only[dL,List.filter_cons,Am L r]
theorem Ao (L:List Nat):∀bx:List Bx,kh L bx=bx.filter fun b=> !L.contains b.id
 |[]=>rfl
 |⟨k,t,cs⟩::r=>by
  simp only[kh,List.filter_cons,Ao L r];cases L.contains k<;>simp
theorem xj (L:List Nat):∀vc:List Vc,jN L vc=vc.filter fun b=> !L.contains b.id
 |[]=>rfl
 |⟨k,u,e,z,n,xs⟩::r=>by
  simp only[jN,List.filter_cons,xj L r];cases L.contains k<;>simp
theorem uT {α:Type} (p:α->Bool):∀l:List α,(l.filter p++l.filter fun x=> !p x).Perm l
 |[]=>List.Perm.refl _
 |x::r=>by
  simp only[List.filter_cons];cases h:p x with
  |true=>simpa using(uT p r).cons x
  |false=>simpa using List.perm_middle.trans ((uT p r).cons x)
theorem Xp {α:Type} (a b c d:List α):((a++b)++(c++d)).Perm ((a++c)++(b++d)):=by
 simp only[List.append_assoc];refine List.Perm.append_left _ ?_;rw[<- List.append_assoc,<- List.append_assoc];exact List.Perm.append_right _ List.perm_append_comm
section
variable {V:Vl} {D:Nat->Nat} {w:World}
theorem HSat.permBx {bx eU:List Bx} {vc:List Vc} (h:HSat V D w ⟨bx,vc⟩) (hp:bx.Perm eU):HSat V D w ⟨eU,vc⟩:=
 ⟨fun b hb=>h.bx b (hp.mem_iff.2 hb),h.vc,by
  have:(aE V ⟨bx,vc⟩).Perm (aE V ⟨eU,vc⟩):=List.Perm.append_right _ (hp.map _)
  exact(this.nodup_iff).1 h.apart,h.uniq⟩
theorem AG (a b:List Bx) (c d:List Vc):(aE V ⟨a++b,c++d⟩).Perm (aE V ⟨a,c⟩++aE V ⟨b,d⟩):=by
 unfold aE;simp only[List.map_append,List.filterMap_append];exact Xp _ _ _ _
theorem HSat.app {a b:List Bx} {c d:List Vc} (h:HSat V D w ⟨a++b,c++d⟩):HSat V D w ⟨a,c⟩/\HSat V D w ⟨b,d⟩/\∀g,g∈aE V ⟨a,c⟩->g ∉ aE V ⟨b,d⟩:=by
 have hn:=((AG a b c d).nodup_iff).1 h.apart;obtain⟨h1,h2,h3⟩:=List.nodup_append.1 hn;have hu:=h.uniq;simp only[List.map_append] at hu;obtain⟨u1,u2,_⟩:=List.nodup_append.1 hu
 exact⟨⟨fun x hx=>h.bx x (List.mem_append_left _ hx),fun x hx=>h.vc x (List.mem_append_left _ hx),h1,u1⟩,
  ⟨fun x hx=>h.bx x (List.mem_append_right _ hx),fun x hx=>h.vc x (List.mem_append_right _ hx),h2,u2⟩,fun g hg eo=>h3 g hg g eo rfl⟩
theorem HSat.join {a b:List Bx} {c d:List Vc} (h:HSat V D w ⟨a,c⟩) (h' :HSat V D w ⟨b,d⟩) (hd:∀g,g∈aE V ⟨a,c⟩->g ∉ aE V ⟨b,d⟩) (hu:∀x∈c,∀y∈d,x.id≠y.id):HSat V D w ⟨a++b,c++d⟩:=
 ⟨fun x hx=>(List.mem_append.1 hx).elim (h.bx x) (h'.bx x),fun x hx=>(List.mem_append.1 hx).elim (h.vc x) (h'.vc x),((AG a b c d).nodup_iff).2 (List.nodup_append.2 ⟨h.apart,h'.apart,fun g hg g' eo e=>hd g hg (e▸eo)⟩),by
  simp only[List.map_append];refine List.nodup_append.2 ⟨h.uniq,h'.uniq,fun i hi j hj e=> ?_⟩;obtain⟨x,hx,rfl⟩:=List.mem_map.1 hi;obtain⟨y,hy,rfl⟩:=List.mem_map.1 hj
  exact hu x hx y hy e⟩
theorem zY (L:List Nat) {bx:List Bx} {vc:List Vc} (h:HSat V D w ⟨bx,vc⟩):HSat V D w ⟨ef L bx++kh L bx,dL L vc++jN L vc⟩:=by
 rw[xd,Ao,Am,xj];exact(h.permBx (uT _ bx).symm).permVc (uT _ vc).symm
theorem CZ (L:List Nat) (bx:List Bx) (vc:List Vc):(aE V ⟨bx,vc⟩).Perm (aE V ⟨ef L bx,dL L vc⟩++aE V ⟨kh L bx,jN L vc⟩):=by
 refine List.Perm.trans ?_ (AG _ _ _ _);rw[xd,Ao,Am,xj];unfold aE;exact List.Perm.append ((uT _ bx).symm.map _) ((uT _ vc).symm.filterMap _)
/-! Numbers in a call. -/
theorem GW:∀{L:List Nat} {i j:Nat},idxOf L i=some j->L[j]? =some i
 |x::r,i,j,h=>by
  simp only[idxOf] at h;split at h
  ·rename_i e;cases h;simp [e]
  ·simp only[Option.map_eq_some_iff] at h;obtain⟨j',hj,rfl⟩:=h;simpa using GW hj
theorem HA:∀{L:List Nat} {i:Nat},i∈L->∃j,idxOf L i=some j
 |x::r,i,h=>by
  simp only[idxOf];split
  ·exact⟨0,rfl⟩
  ·rename_i e;rcases List.mem_cons.1 h with h |h
   ·exact absurd h.symm e
   ·obtain⟨j,hj⟩:=HA h;exact⟨j+1,by rw[hj];rfl⟩
theorem vh {L:List Nat} {i:Nat} (h:L.contains i=true):L[eZ L 0 i]? =some i/\eZ L 0 i<L.length:=by
 obtain⟨j,hj⟩:=HA (by simpa using h);have:eZ L 0 i=j:=by unfold eZ;rw[hj];rfl
 rw[this];have:=GW hj;exact⟨this,(List.getElem?_eq_some_iff.1 this).1⟩
def im (L:List Nat) (V:Vl):Vl:=⟨fun j=>V.β (L.getD j 0),fun j u=>V.γ (L.getD j 0) u⟩
theorem rM {L:List Nat} {i:Nat} (h:L.contains i=true):(im L V).β (eZ L 0 i)=V.β i:=by
 show V.β (L.getD (eZ L 0 i) 0)=_;rw[List.getD_eq_getElem?_getD,(vh h).1];rfl
theorem vH {L:List Nat} {i:Nat} (h:L.contains i=true) (u:Nat):(im L V).γ (eZ L 0 i) u=V.γ i u:=by
 show V.γ (L.getD (eZ L 0 i) 0) u=_;rw[List.getD_eq_getElem?_getD,(vh h).1];rfl
theorem KH {L:List Nat}:∀{ks:List Nat},zj L ks->((ks.map (eZ L 0)).map fun k=>Value.pointer (some ⟨(im L V).β k,0,none⟩))=ks.map fun k=> .pointer (some ⟨V.β k,0,none⟩)
 |[],_=>rfl
 |k::r,h=>by simp only[aG];rw[rM h.1,KH h.2]
theorem pL {L:List Nat} {s:SV} (h:kR L s):aH (im L V) (ie (eZ L 0) s)=aH V s:=by
 cases s with
 |v x=>rfl
 |box k o=>show Value.pointer _=Value.pointer _;rw[rM h]
 |vec k u=>show Hd.val _=Hd.val _;rw[vH h]
 |vp k u o=>show Value.pointer _=Value.pointer _;rw[vH h]
 |vo k u o z=>show gA _ _ _ _ _=gA _ _ _ _ _;rw[vH h]
 |mp k=>show Value.map _=Value.map _;rw[rM h]
 |mv f k o=>show Value.func _ _ _=Value.func _ _ _;rw[rM h]
 |sl k n c=>show Value.slice _ _ _=Value.slice _ _ _;rw[rM h]
 |cl f ks=>show Value.func _ _ ⟨_⟩=Value.func _ _ ⟨_⟩;rw[KH h]
 |agg cs=>rfl
 |tup l=>cases h
theorem DH {L:List Nat}:∀{l:List SV},ng L l->(l.map (ie (eZ L 0))).map (aH (im L V))=l.map (aH V)
 |[],_=>rfl
 |s::r,h=>by simp only[aG];rw[pL h.1,DH h.2]
theorem TZ {L:List Nat} {s:SV} (h:BX L s):den (im L V) (qo (eZ L 0) s)=den V s:=by
 cases s with
 |agg cs=>show Value.agg _=Value.agg _;rw[DH h]
 |v x=>rfl
 |box k o=>exact pL (s:= .box k o) h
 |vec k u=>exact pL (s:= .vec k u) h
 |vp k u o=>exact pL (s:= .vp k u o) h
 |vo k u o z=>exact pL (s:= .vo k u o z) h
 |mp k=>exact pL (s:= .mp k) h
 |mv f k o=>exact pL (s:= .mv f k o) h
 |sl k n c=>exact pL (s:= .sl k n c) h
 |cl f ks=>exact pL (s:= .cl f ks) h
 |tup l=>cases h
theorem I2 {L:List Nat}:∀{l:List SV},yJ L l->(l.map (qo (eZ L 0))).map (den (im L V))=l.map (den V)
 |[],_=>rfl
 |s::r,h=>by simp only[aG];rw[TZ h.1,I2 h.2]
theorem Hn {l:List Nat} {f g:Nat->Nat} (h:∀x∈l,g (f x)=x) (hl:l.Nodup):(l.map f).Nodup:=by
 have:(l.map f).map g=l:=by
  rw[List.map_map];exact(List.map_congr_left h).trans (List.map_id' l)
 rw[<- this] at hl;exact List.Pairwise.of_map g (fun a b h e=>h (by rw[e])) hl
theorem rb {L:List Nat} {vc:List Vc} {b:Vc} (h:b∈dL L vc):b∈vc/\L.contains b.id=true:=by
 rw[Am,List.mem_filter] at h;exact h
theorem C5 {L:List Nat} {bx:List Bx} {b:Bx} (h:b∈ef L bx):b∈bx/\L.contains b.id=true:=by
 rw[xd,List.mem_filter] at h;exact h
theorem Pt {L:List Nat} {bx:List Bx} {b:Bx} (h:b∈kh L bx):b∈bx/\L.contains b.id=false:=by
 rw[Ao,List.mem_filter] at h;simpa using h
theorem I0 {L:List Nat} {vc:List Vc} {b:Vc} (h:b∈jN L vc):b∈vc/\L.contains b.id=false:=by
 rw[xj,List.mem_filter] at h;simpa using h
theorem IN {L:List Nat}:∀{bx:List Bx},vW L bx->∀b∈bx,ng L b.cs
 |⟨_,_,cs⟩::r,h,b,hb=>by
  rcases List.mem_cons.1 hb with rfl |hb
  ·exact h.1
  ·exact IN h.2 b hb
theorem u9 (ρ:Nat->Nat) (b:Bx):(lA ρ b).id=ρ b.id/\(lA ρ b).ty=b.ty/\(lA ρ b).cs=b.cs.map (ie ρ):=by cases b;exact⟨rfl,rfl,rfl⟩
theorem j9 (ρ:Nat->Nat) (b:Vc):(gm ρ b).id=ρ b.id/\(gm ρ b).ver=b.ver/\(gm ρ b).el=b.el/\(gm ρ b).sz=b.sz/\(gm ρ b).n=b.n/\(gm ρ b).xs=b.xs:=by
 cases b;exact⟨rfl,rfl,rfl,rfl,rfl,rfl⟩
theorem Kf {L:List Nat} {st:LS}:aE (im L V) (dU st L)=aE V ⟨ef L st.bx,dL L st.vc⟩:=by
 unfold aE dU;congr 1
 ·rw[List.map_map];refine List.map_congr_left fun b hb=> ?_
  show(im L V).β (lA _ b).id=_;rw[(u9 _ b).1,rM (C5 hb).2]
 ·rw[List.filterMap_map];refine zO fun b hb=> ?_
  show((im L V).γ (gm _ b).id (gm _ b).ver).blk=_;rw[(j9 _ b).1,(j9 _ b).2.1,vH (rb hb).2]
theorem HSat.into {L:List Nat} {st:LS} (h:HSat V D w ⟨ef L st.bx,dL L st.vc⟩) (bg:vW L (ef L st.bx)):HSat (im L V) D w (dU st L):=by
 refine⟨fun b hb=> ?_,fun b hb=> ?_,by rw[Kf];exact h.apart,?_⟩
 ·obtain⟨x,hx,rfl⟩:=List.mem_map.1 hb;obtain⟨h1,h2⟩:=h.bx x hx;obtain⟨e1,e2,e3⟩:=u9 (eZ L 0) x;unfold zN;rw[e1,e2,e3,rM (C5 hx).2,DH (IN bg x hx)];exact⟨h1,h2⟩
 ·obtain⟨x,hx,rfl⟩:=List.mem_map.1 hb;have h1:=h.vc x hx;obtain⟨e1,e2,e3,e4,e5,e6⟩:=j9 (eZ L 0) x;unfold uP;rw[e1,e2,e3,e4,e5,e6,vH (rb hx).2];exact h1
 ·show(((dL L st.vc).map (gm (eZ L 0))).map (·.id)).Nodup;rw[List.map_map];have:((dL L st.vc).map ((·.id)∘gm (eZ L 0)))=((dL L st.vc).map (·.id)).map (eZ L 0):=by
   rw[List.map_map];exact List.map_congr_left fun b _=>(j9 _ b).1
  rw[this];refine Hn (g:=fun j=>L.getD j 0) (fun i hi=> ?_) h.uniq;obtain⟨b,hb,rfl⟩:=List.mem_map.1 hi;rw[List.getD_eq_getElem?_getD,(vh (rb hb).2).1];rfl
end
theorem Hx {vc:List Vc}:∀{b:Vc},(vc.map (·.id)).Nodup->b∈vc->jV vc b.id=some b:=by
 induction vc with
 |nil=>intro b _ h;cases h
 |cons y r ih=>
  intro b hu h;obtain⟨i',v',e',z',n',x'⟩:=y;simp only[aG,List.nodup_cons] at hu;simp only[jV];rcases List.mem_cons.1 h with rfl |h
  ·rw[ai rfl]
  ·have:¬i' =b.id:=fun e=>hu.1 (by rw[e];exact List.mem_map.2 ⟨b,h,rfl⟩)
   rw[aa this];exact ih hu.2 h
theorem Gz {vc:List Vc} {k u:Nat} {b:Vc} (h:jV vc k=some b) (hv:aY vc k u):u<=b.ver:=by
 induction vc with
 |nil=>cases h
 |cons y r ih=>
  obtain⟨i',v',e',z',n',x'⟩:=y;simp only[jV] at h;simp only[aY] at hv;split at h
  ·rename_i e;cases h;rw[ai e] at hv;exact hv
  ·rename_i e;rw[aa e] at hv;exact ih h hv
theorem Hq:∀{L:List Nat},zg L->L.Nodup
 |[],_=>List.nodup_nil
 |k::r,h=>List.nodup_cons.2 ⟨by have:=h.1;simpa using this,Hq h.2⟩
theorem xG {n:Nat}:∀{L:List Nat},qH n L->∀k∈L,k<n
 |_::_,h,k,hk=>(List.mem_cons.1 hk).elim (fun e=>e▸h.1) (xG h.2 k)
theorem HB:∀{L:List Nat} {i j:Nat},L.Nodup->L[j]? =some i->idxOf L i=some j
 |x::r,i,0,_,h=>by simp at h;subst h;simp [idxOf]
 |x::r,i,j+1,hn,h=>by
  simp only[List.getElem?_cons_succ] at h;obtain⟨h1,h2⟩:=List.nodup_cons.1 hn;simp only[idxOf];rw[aa (fun e=>h1 (by rw[e];exact List.mem_of_getElem? h)),HB h2 h];rfl
theorem HC:∀{bx:List Bx} {j:Nat},(jR bx).contains j=true->∃b∈bx,b.id=j
 |⟨k,t,cs⟩::r,j,h=>by
  simp only[jR,List.contains_cons,Bool.or_eq_true,beq_iff_eq] at h;rcases h with h |h
  ·exact⟨_,bL ..,h.symm⟩
  ·obtain⟨b,hb,e⟩:=HC h;exact⟨b,bt _ hb,e⟩
theorem Da:∀{vc:List Vc} {j:Nat},(ju vc).contains j=true->∃b∈vc,b.id=j
 |⟨k,u,e,z,n,xs⟩::r,j,h=>by
  simp only[ju,List.contains_cons,Bool.or_eq_true,beq_iff_eq] at h;rcases h with h |h
  ·exact⟨_,bL ..,h.symm⟩
  ·obtain⟨b,hb,e⟩:=Da h;exact⟨b,bt _ hb,e⟩
theorem AI {nB nV:List Nat} {len:Nat}:∀{bx:List Bx},wg nB nV len bx->∀b∈bx,(b.id<len->nB.contains b.id=true)/\nw nB nV len b.cs
 |⟨k,t,cs⟩::r,h,b,hb=>by
  rcases List.mem_cons.1 hb with rfl |hb
  ·exact⟨fun hl=>by have:=h.1;dsimp only at hl this;rwa [ai hl] at this,h.2.1⟩
  ·exact AI h.2.2 b hb
theorem AH {nV:List Nat} {len:Nat}:∀{vc:List Vc},we nV len vc->∀b∈vc,b.id<len->nV.contains b.id=true
 |⟨k,u,e,z,n,xs⟩::r,h,b,hb=>by
  rcases List.mem_cons.1 hb with rfl |hb
  ·exact fun hl=>by have:=h.1;dsimp only at hl this;rwa [ai hl] at this
  ·exact AH h.2 b hb
theorem C6 {nid:Nat} {vc:List Vc}:∀{bx:List Bx},vD nid vc bx->∀b∈bx,cL nid vc b.cs
 |⟨_,_,cs⟩::r,h,b,hb=>by
  rcases List.mem_cons.1 hb with rfl |hb
  ·exact h.1
  ·exact C6 h.2 b hb
theorem G3 {L:List Nat} {df:List Vc}:∀{vc:List Vc},yd L df vc->∀b∈vc,L.contains b.id=true->aY df b.id b.ver
 |⟨k,u,e,z,n,xs⟩::r,h,b,hb=>by
  rcases List.mem_cons.1 hb with rfl |hb
  ·exact fun hl=>by have:=h.1;dsimp only at hl;rwa [ai hl] at this
  ·exact G3 h.2 b hb
theorem H7:∀{bx:List Bx} {b:Bx},b∈bx->b.id<jw bx
 |⟨k,t,cs⟩::r,b,hb=>by
  simp only[jw];rcases List.mem_cons.1 hb with rfl |hb
  ·dsimp only;omega
  ·have:=H7 hb;omega
theorem H6:∀{vc:List Vc} {b:Vc},b∈vc->b.id<jv vc
 |⟨k,u,e,z,n,xs⟩::r,b,hb=>by
  simp only[jv];rcases List.mem_cons.1 hb with rfl |hb
  ·dsimp only;omega
  ·have:=H6 hb;omega
theorem Oj {a b:List Vc} {k u:Nat} (ha:aY a k u) (hb:aY b k u):aY (a++b) k u:=by
 induction a with
 |nil=>exact hb
 |cons y r ih=>
  obtain⟨i',v',e',z',n',x'⟩:=y;simp only[fh,aY] at ha ⊢;split
  ·rename_i e;rw[ai e] at ha;exact ha
  ·rename_i e;rw[aa e] at ha;exact ih ha
theorem CJ {a:List Vc} {k u:Nat} (h:∀b∈a,b.id≠k):aY a k u:=by
 induction a with
 |nil=>trivial
 |cons y r ih=>
  obtain⟨i',v',e',z',n',x'⟩:=y;simp only[aY];rw[aa (h _ (bL ..))];exact ih fun b hb=>h b (bt _ hb)
theorem MQ {p:Vc->Bool} {a:List Vc} {k u:Nat} (hu:(a.map (·.id)).Nodup) (h:aY a k u):aY (a.filter p) k u:=by
 induction a with
 |nil=>trivial
 |cons y r ih=>
  simp only[aG,List.nodup_cons] at hu;obtain⟨i',v',e',z',n',x'⟩:=y;simp only[aY] at h;simp only[List.filter_cons];split
  ·simp only[aY];split
   ·rename_i e;rw[ai e] at h;exact h
   ·rename_i e;rw[aa e] at h;exact ih hu.2 h
  ·by_cases e:i' =k
   ·refine CJ fun b hb=> ?_
    rw[<- e];exact fun e' =>hu.1 (by dsimp only;rw[<- e'];exact List.mem_map.2 ⟨b,(List.mem_filter.1 hb).1,rfl⟩)
   ·rw[aa e] at h;exact ih hu.2 h
section
variable {C:Ctx} {st:LS} {V V2:Vl} {D D2:Nat->Nat} {w w2:World} {L:List Nat} {r:SV} {H' :Hp} {m' :Mem}
def gO (st:LS) (L:List Nat) (V V2:Vl):Vl:=
  ⟨fun k=>if k<st.nid then V.β k else V2.β (k - st.nid),
   fun k u=>if k<st.nid then(match jV st.vc k with |some b=>if L.contains k=true/\b.ver<u then V2.γ (eZ L 0 k) u else V.γ k u |none=>V.γ k u) else V2.γ (k - st.nid) u⟩
theorem NT:Agree st.nid st.vc V (gO st L V V2):=by
 intro k hk;refine⟨ai hk,fun u hu=> ?_⟩;show(if k<st.nid then _ else _)=_;rw[ai hk];split
 ·rename_i b hb;rw[aa (fun h=>by have:=Gz hb hu;omega)]
 ·rfl
theorem s9 {j:Nat} (hj:j<L.length):∃k,L[j]? =some k/\k∈L/\dq L st.nid j=k:=by
 refine⟨L[j],List.getElem?_eq_getElem hj,List.getElem_mem hj,?_⟩;unfold dq;rw[List.getElem?_eq_getElem hj];rfl
theorem td {j:Nat} (hj:¬j<L.length):dq L st.nid j=st.nid+j:=by
 unfold dq;rw[List.getElem?_eq_none (by omega)];rfl
theorem Xr (en:L.Nodup) (an:qH st.nid L) (hβ:∀b∈(dU st L).bx,V2.β b.id=(im L V).β b.id) {j:Nat} (hj:j<L.length->(jR (dU st L).bx).contains j=true):
  (gO st L V V2).β (dq L st.nid j)=V2.β j:=by
 by_cases h:j<L.length
 ·obtain⟨k,hk,hm,he⟩:=s9 (st:=st) h;rw[he];obtain⟨b,hb,hbj⟩:=HC (hj h);have L1:=hβ b hb;obtain⟨x,hx,rfl⟩:=List.mem_map.1 hb;rw[(u9 _ x).1] at hbj L1;have hc:=(C5 hx).2;have zm:x.id=k:=by
   have:=(vh hc).1;rw[hbj,hk] at this;exact(Option.some.inj this).symm
  show(if k<st.nid then _ else _)=_;rw[ai (xG an k hm),<- zm,<- rM (V:=V) hc,<- L1,hbj]
 ·rw[td h];show(if st.nid+j<st.nid then _ else _)=_;rw[aa (by omega),Nat.add_sub_cancel_left]
theorem Xq (en:L.Nodup) (an:qH st.nid L) (uh:(st.vc.map (·.id)).Nodup) (hγ:∀b∈(dU st L).vc,∀u,u<=b.ver->V2.γ b.id u=(im L V).γ b.id u) {j:Nat} (hj:j<L.length->(ju (dU st L).vc).contains j=true) (u:Nat):
  (gO st L V V2).γ (dq L st.nid j) u=V2.γ j u:=by
 by_cases h:j<L.length
 ·obtain⟨k,hk,hm,he⟩:=s9 (st:=st) h;rw[he];obtain⟨b,hb,hbj⟩:=Da (hj h);have Fh:=hγ b hb;obtain⟨x,hx,rfl⟩:=List.mem_map.1 hb;rw[(j9 _ x).1] at hbj Fh;rw[(j9 _ x).2.1] at Fh;obtain⟨Fl,hc⟩:=rb hx;have zm:x.id=k:=by
   have:=(vh hc).1;rw[hbj,hk] at this;exact(Option.some.inj this).symm
  show(if k<st.nid then _ else _)=_;rw[ai (xG an k hm),<- zm,Hx uh Fl];dsimp only;by_cases hu:x.ver<u
  ·rw[ai ⟨hc,hu⟩,hbj]
  ·rw[aa (fun h=>hu h.2),<- vH (V:=V) hc,<- Fh u (by omega),hbj]
 ·rw[td h];show(if st.nid+j<st.nid then _ else _)=_;rw[aa (by omega),Nat.add_sub_cancel_left]
structure Bk (st:LS) (L:List Nat) (V V2:Vl):Prop where
 β:∀j,(j<L.length->(jR (dU st L).bx).contains j=true)->(gO st L V V2).β (dq L st.nid j)=V2.β j
 γ:∀j u,(j<L.length->(ju (dU st L).vc).contains j=true)->(gO st L V V2).γ (dq L st.nid j) u=V2.γ j u
theorem ifc {p:Prop} [Decidable p] {q:Prop} (h:if p then q else True):p->q:=fun hp=>by rwa [ai hp] at h
theorem LD (hb:Bk st L V V2):∀{ks:List Nat},zL (jR (dU st L).bx) L.length ks->((ks.map (dq L st.nid)).map fun k=>Value.pointer (some ⟨(gO st L V V2).β k,0,none⟩))=ks.map fun k=> .pointer (some ⟨V2.β k,0,none⟩)
 |[],_=>rfl
 |k::r,h=>by simp only[aG];rw[hb.β k (ifc h.1),LD hb h.2]
theorem qC (hb:Bk st L V V2) {s:SV} (h:lb (jR (dU st L).bx) (ju (dU st L).vc) L.length s):aH (gO st L V V2) (ie (dq L st.nid) s)=aH V2 s:=by
 cases s with
 |v x=>rfl
 |box k o=>show Value.pointer _=Value.pointer _;rw[hb.β k (ifc h)]
 |vec k u=>show Hd.val _=Hd.val _;rw[hb.γ k u (ifc h)]
 |vp k u o=>show Value.pointer _=Value.pointer _;rw[hb.γ k u (ifc h)]
 |vo k u o z=>show gA _ _ _ _ _=gA _ _ _ _ _;rw[hb.γ k u (ifc h)]
 |mp k=>show Value.map _=Value.map _;rw[hb.β k (ifc h)]
 |mv f k o=>show Value.func _ _ _=Value.func _ _ _;rw[hb.β k (ifc h)]
 |sl k n c=>show Value.slice _ _ _=Value.slice _ _ _;rw[hb.β k (ifc h)]
 |cl f ks=>show Value.func _ _ ⟨_⟩=Value.func _ _ ⟨_⟩;rw[LD hb h]
 |agg cs=>rfl
 |tup l=>rfl
theorem E4 (hb:Bk st L V V2):∀{l:List SV},nw (jR (dU st L).bx) (ju (dU st L).vc) L.length l->(l.map (ie (dq L st.nid))).map (aH (gO st L V V2))=l.map (aH V2)
 |[],_=>rfl
 |s::r,h=>by simp only[aG];rw[qC hb h.1,E4 hb h.2]
theorem pg (hb:Bk st L V V2) {s:SV} (h:zM (jR (dU st L).bx) (ju (dU st L).vc) L.length s):fH (gO st L V V2) (vP (dq L st.nid) s)=fH V2 s:=by
 cases s with
 |agg cs=>show Value.agg _=Value.agg _;rw[E4 hb h]
 |v x=>rfl
 |box k o=>exact qC (s:= .box k o) hb h
 |vec k u=>exact qC (s:= .vec k u) hb h
 |vp k u o=>exact qC (s:= .vp k u o) hb h
 |vo k u o z=>exact qC (s:= .vo k u o z) hb h
 |mp k=>exact qC (s:= .mp k) hb h
 |mv f k o=>exact qC (s:= .mv f k o) hb h
 |sl k n c=>exact qC (s:= .sl k n c) hb h
 |cl f ks=>exact qC (s:= .cl f ks) hb h
 |tup l=>rfl
theorem LC (hb:Bk st L V V2):∀{l:List SV},zK (jR (dU st L).bx) (ju (dU st L).vc) L.length l->(l.map (vP (dq L st.nid))).map (fH (gO st L V V2))=l.map (fH V2)
 |[],_=>rfl
 |s::r,h=>by simp only[aG];rw[pg hb h.1,LC hb h.2]
theorem aac (hb:Bk st L V V2) {s:SV} (h:Co (jR (dU st L).bx) (ju (dU st L).vc) L.length s):den (gO st L V V2) (qo (dq L st.nid) s)=den V2 s:=by
 cases s with
 |tup l=>show Value.tuple _=Value.tuple _;rw[LC hb h]
 |v x=>rfl
 |box k o=>exact pg (s:= .box k o) hb h
 |vec k u=>exact pg (s:= .vec k u) hb h
 |vp k u o=>exact pg (s:= .vp k u o) hb h
 |vo k u o z=>exact pg (s:= .vo k u o z) hb h
 |mp k=>exact pg (s:= .mp k) hb h
 |mv f k o=>exact pg (s:= .mv f k o) hb h
 |sl k n c=>exact pg (s:= .sl k n c) hb h
 |cl f ks=>exact pg (s:= .cl f ks) hb h
 |agg cs=>exact pg (s:= .agg cs) hb h
theorem RW (en:L.Nodup) (an:qH st.nid L) (j:Nat):(fun k=>if k<st.nid then eZ L 0 k else k - st.nid) (dq L st.nid j)=j:=by
 by_cases h:j<L.length
 ·obtain⟨k,hk,hm,he⟩:=s9 (st:=st) h;dsimp only;rw[he,ai (xG an k hm)];unfold eZ;rw[HB en hk];rfl
 ·dsimp only;rw[td h,aa (by omega),Nat.add_sub_cancel_left]
theorem HSat.back (hb:Bk st L V V2) (en:L.Nodup) (an:qH st.nid L) (h:HSat V2 D2 w2 H') (oA:wg (jR (dU st L).bx) (ju (dU st L).vc) L.length H'.bx) (L6:we (ju (dU st L).vc) L.length H'.vc):
  HSat (gO st L V V2) D2 w2 ⟨H'.bx.map (lA (dq L st.nid)),H'.vc.map (gm (dq L st.nid))⟩/\
   aE (gO st L V V2) ⟨H'.bx.map (lA (dq L st.nid)),H'.vc.map (gm (dq L st.nid))⟩=aE V2 H' :=by
 have er:aE (gO st L V V2) ⟨H'.bx.map (lA (dq L st.nid)),H'.vc.map (gm (dq L st.nid))⟩=aE V2 H' :=by
  unfold aE;congr 1
  ·rw[List.map_map];refine List.map_congr_left fun b hm=> ?_
   show(gO st L V V2).β (lA _ b).id=_;rw[(u9 _ b).1,hb.β _ (AI oA b hm).1]
  ·rw[List.filterMap_map];refine zO fun b hm=> ?_
   show((gO st L V V2).γ (gm _ b).id (gm _ b).ver).blk=_;rw[(j9 _ b).1,(j9 _ b).2.1,hb.γ _ _ (AH L6 b hm)]
 refine⟨⟨fun b hm=> ?_,fun b hm=> ?_,by rw[er];exact h.apart,?_⟩,er⟩
 ·obtain⟨x,hx,rfl⟩:=List.mem_map.1 hm;obtain⟨e1,e2,e3⟩:=u9 (dq L st.nid) x;obtain⟨h1,h2⟩:=h.bx x hx;unfold zN;rw[e1,e2,e3,hb.β _ (AI oA x hx).1,E4 hb (AI oA x hx).2];exact⟨h1,h2⟩
 ·obtain⟨x,hx,rfl⟩:=List.mem_map.1 hm;obtain⟨e1,e2,e3,e4,e5,e6⟩:=j9 (dq L st.nid) x;have h1:=h.vc x hx;unfold uP;rw[e1,e2,e3,e4,e5,e6,hb.γ _ _ (AH L6 x hx)];exact h1
 ·dsimp only;rw[List.map_map];have:(H'.vc.map ((·.id)∘gm (dq L st.nid)))=(H'.vc.map (·.id)).map (dq L st.nid):=by
   rw[List.map_map];exact List.map_congr_left fun b _=>(j9 _ b).1
  rw[this];exact Hn (g:=fun k=>if k<st.nid then eZ L 0 k else k - st.nid) (fun j _=>RW en an j) h.uniq
theorem SatW.call (h:SatW C st.bx st.vc st.nid st.m V D w) (bg:EL st L []) (FI:Eh st L r H' m')
  (sq:Wf w2 D2) (hs2:HSat V2 D2 w2 H') (hβ:∀b∈(dU st L).bx,V2.β b.id=(im L V).β b.id) (hγ:∀b∈(dU st L).vc,∀u,u<=b.ver->V2.γ b.id u=(im L V).γ b.id u)
  (lT:Frm (· ∈aE (im L V) (dU st L)) w D w2 D2) (lJ:∀b∈aE V2 H',b∈aE (im L V) (dU st L)\/w.heap.size<=b) (hle:Mem.le ⟨w,D⟩ ⟨w2,D2⟩) (aQ:st.m.le m') (aJ:m'.le ⟨w2,D2⟩):
  ∃V3,Agree st.nid st.vc V V3/\den V3 (qo (dq L st.nid) r)=den V2 r/\SatW C (rE st L H' m').bx (rE st L H' m').vc (rE st L H' m').nid m' V3 D2 w2/\
   ∀k u,k<st.nid->aY st.vc k u->aY (rE st L H' m').vc k u:=by
 obtain⟨en,an,_,_⟩:=bg;have en:=Hq en;obtain⟨c1,c2,c3,c4,c5,c6⟩:=FI;have uh:=h.heap.uniq;have hb:Bk st L V V2:=⟨fun j hj=>Xr en an hβ hj,fun j u hj=>Xq en an uh hγ hj u⟩;obtain⟨Ft,er⟩:=hs2.back hb en an c2 c3;have uj:=zY L h.heap;obtain⟨hp,hd,hdis⟩:=uj.app;have fx:Agree st.nid st.vc V (gO st L V V2):=NT;have BC:aE (im L V) (dU st L)=aE V ⟨ef L st.bx,dL L st.vc⟩:=Kf;have oC:∀b∈kh L st.bx,b∈st.bx:=fun b hb=>(Pt hb).1
 have zr:∀b∈jN L st.vc,b∈st.vc:=fun b hb=>(I0 hb).1
 have Lt:aE (gO st L V V2) ⟨kh L st.bx,jN L st.vc⟩=aE V ⟨kh L st.bx,jN L st.vc⟩:=
  xL (fun b hm=>(fx b.id (h.ids.1 b (oC b hm)).1).1) (fun b hm=>(fx b.id (h.ids.2 b (zr b hm))).2 b.ver (qZ uh (zr b hm)))
 have av:=rp hd;have uF:HSat (gO st L V V2) D2 w2 ⟨kh L st.bx,jN L st.vc⟩:=
  hd.frame (fun b hm=>⟨(fx b.id (h.ids.1 b (oC b hm)).1).1,sV fx (h.ids.1 b (oC b hm)).2⟩) (fun b hm=>(fx b.id (h.ids.2 b (zr b hm))).2 b.ver (qZ uh (zr b hm)))
   (fun g hg=>lT.same g (av g hg) (fun hx=>hdis g (BC▸hx) hg))
 have qy:HSat (gO st L V V2) D2 w2 ⟨H'.bx.map (lA (dq L st.nid))++kh L st.bx,H'.vc.map (gm (dq L st.nid))++jN L st.vc⟩:=by
  refine Ft.join uF (fun g hg eo=> ?_) (fun x hx y hy=> ?_)
  ·rw[er] at hg;rw[Lt] at eo;rcases lJ g hg with e |e
   ·exact hdis g (BC▸e) eo
   ·have:=av g eo;omega
  ·obtain⟨z,hz,rfl⟩:=List.mem_map.1 hx;rw[(j9 _ z).1];obtain⟨zk,wC⟩:=I0 hy;by_cases hl:z.id<L.length
   ·obtain⟨k,_,hkm,he⟩:=s9 (st:=st) hl;rw[he];rintro rfl;have:L.contains y.id=true:=by simpa using hkm
    rw[this] at wC;cases wC
   ·rw[td hl];have:=h.ids.2 y zk;omega
 have qf:∀k u,k<st.nid->aY st.vc k u->aY (rE st L H' m').vc k u:=by
  intro k u hk hv;show aY (H'.vc.map (gm (dq L st.nid))++jN L st.vc) k u;refine Oj ?_ (by rw[xj];exact MQ uh hv);by_cases hkL:L.contains k=true
  ·cases iG:jV st.vc k with
   |none=>
    refine CJ fun b cN e=> ?_
    obtain⟨z,hz,rfl⟩:=List.mem_map.1 cN;rw[(j9 _ z).1] at e;by_cases hl:z.id<L.length
    ·obtain⟨k',pA,_,he⟩:=s9 (st:=st) hl;rw[he] at e;subst e;obtain⟨y,hy,hyz⟩:=Da (AH c3 z hz hl);obtain⟨x,hx,rfl⟩:=List.mem_map.1 hy;rw[(j9 _ x).1] at hyz;obtain⟨Fl,hc⟩:=rb hx;have:=(vh hc).1;rw[hyz,pA] at this;have zm:x.id=k' :=(Option.some.inj this).symm;have:=Hx uh Fl;rw[zm,iG] at this;cases this
    ·rw[td hl] at e;omega
   |some b=>
    have cN:b∈st.vc/\b.id=k:=by
     clear hv;revert iG;generalize st.vc=l
     intro iG;induction l with
     |nil=>cases iG
     |cons y r ih=>
      obtain⟨i',v',e',z',n',x'⟩:=y;simp only[jV] at iG;split at iG
      ·rename_i e;cases iG;exact⟨bL ..,e⟩
      ·exact⟨bt _ (ih iG).1,(ih iG).2⟩
    have h6:=G3 c6 b cN.1 (by rw[cN.2];exact hkL);rw[cN.2] at h6;exact Az h6 (Gz iG hv)
  ·refine CJ fun b cN e=> ?_
   obtain⟨z,hz,rfl⟩:=List.mem_map.1 cN;rw[(j9 _ z).1] at e;by_cases hl:z.id<L.length
   ·obtain⟨k',_,hm,he⟩:=s9 (st:=st) hl;rw[he] at e;subst e;exact hkL (by simpa using hm)
   ·rw[td hl] at e;omega
 have Lq:∀j,j<max (jw H'.bx) (jv H'.vc)->dq L st.nid j<st.nid+max (jw H'.bx) (jv H'.vc):=by
  intro j hj;by_cases hl:j<L.length
  ·obtain⟨k,_,hm,he⟩:=s9 (st:=st) hl;rw[he];have:=xG an k hm;omega
  ·rw[td hl];omega
 refine⟨gO st L V V2,fx,aac hb c1,⟨qy,sq,h.frm.trans lT (fun x hx=>h.own x ((CZ L st.bx st.vc).mem_iff.2 (List.mem_append_left _ (BC▸hx)))),fun x hx=> ?_,fun b cN=> ?_,fun b cN=> ?_,⟨fun b cN=> ?_,fun b cN=> ?_⟩,Mem.le_trans h.le0 hle,Mem.le_trans h.m0 aQ,aJ⟩,qf⟩
 ·have cW:=(AG _ _ _ _).mem_iff.1 hx;rcases List.mem_append.1 cW with cW |cW
  ·rw[er] at cW;rcases lJ x cW with e |e
   ·exact h.own x ((CZ L st.bx st.vc).mem_iff.2 (List.mem_append_left _ (BC▸e)))
   ·exact .inr (dk h.frm.size e)
  ·rw[Lt] at cW;exact h.own x ((CZ L st.bx st.vc).mem_iff.2 (List.mem_append_right _ cW))
 ·obtain⟨e1,e2⟩:=h.baseB b cN;exact⟨((fx b.id e2).1).trans e1,dm e2 (Nat.le_add_right _ _)⟩
 ·obtain⟨e1,e2,e3⟩:=h.baseV b cN;exact⟨fun u hu=>((fx b.id e2).2 u (Az e3 hu)).trans (e1 u hu),dm e2 (Nat.le_add_right _ _),qf _ _ e2 e3⟩
 ·rcases List.mem_append.1 cN with cN |cN
  ·refine⟨?_,C6 c5 b cN⟩;obtain⟨x,hx,rfl⟩:=List.mem_map.1 cN;rw[(u9 _ x).1];exact Lq _ (dm (H7 hx) (Nat.le_max_left _ _))
  ·exact⟨dm (h.ids.1 b (oC b cN)).1 (Nat.le_add_right _ _),nD (Nat.le_add_right _ _) qf (h.ids.1 b (oC b cN)).2⟩
 ·rcases List.mem_append.1 cN with cN |cN
  ·obtain⟨x,hx,rfl⟩:=List.mem_map.1 cN;rw[(j9 _ x).1];exact Lq _ (dm (H6 hx) (Nat.le_max_right _ _))
  ·exact dm (h.ids.2 b (zr b cN)) (Nat.le_add_right _ _)
end
end Go.Proofs.YtmdokbohofchgaaGreatDoor.E

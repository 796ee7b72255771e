/- Several texts in one. -/
import Derived.WalkKit
import Derived.Below
import Derived.Deep.Draws
import Derived.Maps.AppendAt
import Derived.Laws.Strings
import Derived.Laws.StructEq
import Derived.Laws.Shifts
import Derived.Laws.Cover1
import Derived.Laws.Cells
import Derived.Laws.Slices
import Derived.Laws.DeepStrings4
import Derived.Laws.IdiomStrings
import Derived.Lib.Strings
import Derived.MapKept
import Derived.Deep.AppendSrc
set_option linter.unusedSimpArgs false
set_option linter.unusedVariables false
set_option maxHeartbeats 4000000
set_option maxRecDepth 20000
namespace Go.Proofs.YtimddhkipjedcaaGreatDoor.E
open Go
theorem dC {a b:Nat} (h:Nat.ble a b=true):a<=b:=Nat.le_of_ble_eq_true h
theorem av (n:Nat):n<=n:=Nat.le_refl n
theorem aI {α:Type _} {as bs:List α}:(as++bs).length=as.length+bs.length:=List.length_append
theorem aL {α:Type _} {a:α} {as:List α}:(a::as).length=as.length+1:=rfl
theorem bg {α:Type _}:([]:List α).length=0:=rfl
theorem af {c:Prop} {h:Decidable c} (Mo:¬c) {α:Sort _} {t e:α}:(ite c t e)=e:=if_neg Mo
theorem ah {c:Prop} {h:Decidable c} (hc:c) {α:Sort _} {t e:α}:(ite c t e)=t:=if_pos hc
theorem bu {p:Prop} [Decidable p]:(decide p=true)=p:=decide_eq_true_eq
theorem bR {α:Type _} (y:α) {a:α} {l:List α}:a∈l->a∈y::l:=List.mem_cons_of_mem y
theorem b6 {α:Type _} {a:α} {l:List α}:a∈a::l:=List.mem_cons_self ..
theorem aD (n:Nat):0<=n:=Nat.zero_le n
theorem ao (h:Decidable True): @decide True h=true:=decide_true h
theorem ar (h:Decidable False): @decide False h=false:=decide_false h
theorem cX {n m k:Nat} (h:n<=m) (h2:m<=k):n<=k:=Nat.le_trans h h2
theorem fj {α:Type _} {i:Nat} {l:List α} (h:l.length<=i):l.take i=l:=List.take_of_length_le h
theorem eP {n m k:Nat} (h:n<m) (h2:m<=k):n<k:=Nat.lt_of_lt_of_le h h2
theorem bJ {α β:Type _} {f:α->β} {a:α} {l:List α}:(a::l).map f=f a::l.map f:=List.map_cons
theorem dY {α:Type _} {a b:α}:(some a=some b)=(a=b):=Option.some.injEq a b
theorem dW {α:Type _} {a:α} {as bs:List α}:(a::as)++bs=a::(as++bs):=List.cons_append
theorem dG {α:Type _} {i:Nat} {l:List α}:(l.drop i).length=l.length - i:=List.length_drop
theorem dr {p:Prop} [Decidable p] (h:¬p):decide p=false:=decide_eq_false h
theorem eH {p:Prop} [Decidable p] (h:p):decide p=true:=decide_eq_true h
theorem iq {α:Type _} {a:α}:[a].length=1:=List.length_singleton
theorem aG (a b:Bool):((a&&b)=true)=(a=true/\b=true):=Bool.and_eq_true a b
inductive A {γ:Type} (k:γ) (α:Type) where
 |mk (a:α)
inductive SV where
 |v (x:Value)
 |box (k off:Nat)
 |vec (k ver:Nat)
 |vp (k ver off:Nat)
 |mp (k:Nat)
 |mv (f:FuncId) (k off:Nat)
 |agg (cs:List SV)
 |tup (vs:List SV)
abbrev bX:=List (Nat×Bool)
structure Bx where
 id:Nat
 ty:TypeId
 cs:List SV
def oV:Nat:=1000000
structure Vc where
 id:Nat
 ver:Nat
 el:TypeId
 sz:Nat
 n:Nat
 xs:List Value
structure Mem where
 w:World
 D:Nat->Nat
structure Hp where
 bx:List Bx
 vc:List Vc
inductive GB where
 |lit (b:Bool)
 |sym (b:Bool)
structure Gd where
 i:Nat
 slot:Nat
 p:bX
 b:GB
structure Ev where
 t:Nat
 p:bX
 s:SV
structure LS where
 env:List Ev
 rho:List Gd
 bx:List Bx
 vc:List Vc
 nid:Nat
 m:Mem
def bs (l:List UInt8):ByteArray:=⟨l.toArray⟩
def tl (s:ByteArray):List UInt8:=s.data.toList
theorem Ay (l:List UInt8):tl (bs l)=l:=by simp [tl,bs]
theorem kG (s:ByteArray):bs (tl s)=s:=by simp [tl,bs]
theorem Qu (l:List UInt8):ByteArray.mk l.toArray=bs l:=rfl
theorem Au {a b:List UInt8} (h:bs a=bs b):a=b:=by have:=congrArg tl h;simpa [Ay] using this
def GB.val:GB->Bool | .lit b=>b | .sym b=>b
def qD:bX->bX->Bool
 |[],[]=>true
 |(j,w)::p,(k,u)::q=>if j=k then(if w=u then qD p q else false) else false
 |_,_=>false
def oy:bX->bX->Bool
 |p,[]=>qD p []
 |p,x::q=>if qD p (x::q)=true then true else oy p q
def gi:List Ev->Nat->bX->Option SV
 |[],_,_=>none
 |⟨t',p',s⟩::r,t,p=>if t' =t then(if oy p' p=true then some s else none) else gi r t p
def gP:List Gd->Nat->Option Gd
 |[],_=>none
 |⟨i',t',p',b'⟩::r,i=>if i' =i then some ⟨i',t',p',b'⟩ else gP r i
def AR:List Gd->Nat->Option Gd
 |[],_=>none
 |⟨i',t',p',b'⟩::r,i=>if t' =i then some ⟨i',t',p',b'⟩ else AR r i
def iD:List Bx->Nat->Option Bx
 |[],_=>none
 |⟨k',t',ck⟩::r,i=>if k' =i then some ⟨k',t',ck⟩ else iD r i
def eV:List Vc->Nat->Nat->Option Vc
 |[],_,_=>none
 |⟨k',u',e',z',n',x'⟩::r,i,u=>if k' =i then(if u' =u then some ⟨k',u',e',z',n',x'⟩ else none) else eV r i u
def o7 (rho:List Gd) (j:Nat) (w:Bool):Bool:=match gP rho j with |some g=>(if w=true then g.b.val else !g.b.val) |none=>false
def cI (rho:List Gd):bX->Bool
 |[]=>true
 |(j,w)::p=>o7 rho j w&&cI rho p
def yo:Option Gd->Bool->Bool
 |some ⟨_,_,_,.lit true⟩,false=>true
 |some ⟨_,_,_,.lit false⟩,true=>true
 |_,_=>false
def wG (rho:List Gd):bX->Bool
 |[]=>false
 |(j,w)::p=>if yo (gP rho j) w=true then true else wG rho p
def qb (st:LS) (p:bX) (B:Prop):Prop:=cI st.rho p=true->B
def cU (st:LS) (p:bX):Operand->Option SV
 | .tmp t=>gi st.env t p
 | .const x=>some (.v x)
 | .func f=>some (.v (.func (.func f) #[] #[]))
 | .global g=>some (.v (.pointer (some ⟨g,0,none⟩)))
def aQ {α:Type} {K:α->Prop} (x:A K (Option α)):Prop:=match x with | .mk (some s)=>K s | .mk none=>False
/-! Types, as the program's tables have them. -/
def eU (P:Program) (t:TypeId):Option (Option Nat):=
 match P.underlying t with
 |some (.struct _) |some (.array _ _)=>(P.info? t).map fun i=>some i.size
 |some _=>some none
 |none=>none
def bZ (P:Program) (t:TypeId):Nat:=((P.info? t).map (·.size)).getD 0
def oD (P:Program) (t:TypeId):Nat:=((P.info? t).map (·.bytes)).getD 0
def fC (P:Program) (t:TypeId):Option (List SV):=((P.info? t).bind (·.zero)).map fun z=>z.cells.toList.map .v
def dc (P:Program) (s:TypeId) (f:Nat):Option (Nat×Option Nat×Nat):=
 match P.underlying s with
 |some (.struct fs)=>(fs[f]?).bind fun x=>if 0<bZ P x.type then(eU P x.type).map fun g=>(x.offset,g,bZ P x.type) else none
 |_=>none
def iU (P:Program) (t:TypeId):Option TypeId:=
 match P.underlying t with
 |some (.slice e)=>some e
 |_=>none
inductive CvK where |int (k:IntKind) |same |b2s |no
def rl (P:Program) (src dst:TypeId):CvK:=
 match P.underlying src,P.underlying dst with
 |some (.int _),some (.int k)=> .int k
 |some .string,some .string=> .same
 |some (.slice e),some .string=>(match P.underlying e with |some (.int .u8)=> .b2s |_=> .no)
 |_,_=> .no
/-! Values. -/
def aF (n:Int):Prop:= -9223372036854775808<=n/\n<=9223372036854775807
def arith {k:IntKind} {u:Prop->Prop} {K:SV->Prop} (x:A (k,u,K) Int):Prop:=
 match k,x with
 | .i64,.mk n=>u (aF n)/\K (.v (.int .i64 n))
 |k,.mk n=>K (.v (.int k (k.wrap n)))
def jO {op:BinOp} {k:IntKind} {u:Prop->Prop} {K:SV->Prop} (x:A (op,k,u,K) (Int×Int)):Prop:=
 match op,x with
 | .add,.mk (a,b)=>arith (.mk (k:=(k,u,K)) (a+b))
 | .sub,.mk (a,b)=>arith (.mk (k:=(k,u,K)) (a - b))
 | .mul,.mk (a,b)=>arith (.mk (k:=(k,u,K)) (a * b))
 | .quo,.mk (a,b)=>u (b≠0)/\arith (.mk (k:=(k,u,K)) (a.tdiv b))
 | .rem,.mk (a,b)=>u (b≠0)/\K (.v (.int k (a.tmod b)))
 | .and,.mk (a,b)=>K (.v (.int k (bits .and k a b)))
 | .or,.mk (a,b)=>K (.v (.int k (bits .or k a b)))
 | .xor,.mk (a,b)=>K (.v (.int k (bits .xor k a b)))
 | .andNot,.mk (a,b)=>K (.v (.int k (bits .andNot k a b)))
 | .eql,.mk (a,b)=>K (.v (.bool (decide (a=b))))
 | .neq,.mk (a,b)=>K (.v (.bool (!decide (a=b))))
 | .lss,.mk (a,b)=>K (.v (.bool (decide (a<b))))
 | .leq,.mk (a,b)=>K (.v (.bool (decide (a<=b))))
 | .gtr,.mk (a,b)=>K (.v (.bool (decide (b<a))))
 | .geq,.mk (a,b)=>K (.v (.bool (decide (b<=a))))
 | .shl,.mk (a,b)=>u (0<=b/\b<=k.bits)/\K (.v (.int k (k.wrap (a * 2 ^ b.toNat))))
 | .shr,.mk (a,b)=>u (0<=b/\b<=k.bits)/\K (.v (.int k (a / 2 ^ b.toNat)))
def sj {op:BinOp} {u:Prop->Prop} {K:SV->Prop} (x:A (op,u,K) (List UInt8×List UInt8)):Prop:=
 match op,x with
 | .add,.mk (a,b)=>u (a.length+b.length<=9223372036854775807)/\K (.v (.string (bs (a++b))))
 | .eql,.mk (a,b)=>K (.v (.bool (decide (a=b))))
 | .neq,.mk (a,b)=>K (.v (.bool (!decide (a=b))))
 | .lss,.mk (a,b)=>K (.v (.bool (Op.bytesLess a b)))
 | .geq,.mk (a,b)=>K (.v (.bool (!Op.bytesLess a b)))
 |_,_=>False
def nX:SV->SV->Option Bool
 | .v (.int k a),.v (.int k' b)=>if k=k' then some (decide (a=b)) else none
 | .v (.string a),.v (.string b)=>some (decide (tl a=tl b))
 | .v (.bool a),.v (.bool b)=>some (a==b)
 |_,_=>none
def ix:List SV->List SV->Option Bool
 |[],[]=>some true
 |a::x,b::y=>(nX a b).bind fun e=>(ix x y).map fun r=>e&&r
 |_,_=>none
def lQ:SV->Option (List SV)
 | .agg cs=>some cs
 | .v (.agg ⟨l⟩)=>some (l.map .v)
 | .tup _=>none
 | .v (.tuple _)=>none
 |s=>some [s]
def pz:SV->Option (List SV)
 | .agg cs=>some cs
 | .v (.agg ⟨l⟩)=>some (l.map .v)
 |_=>none
def oq:SV->SV->Bool
 | .v (.int k _),.v (.int k' _)=>decide (k=k')
 | .v (.string _),.v (.string _)=>true
 | .v (.bool _),.v (.bool _)=>true
 |_,_=>false
def jw:List SV->List SV->Bool
 |[],[]=>true
 |z::zs,x::xs=>oq z x&&jw zs xs
 |_,_=>false
def wU (z:Option (List SV)) (xs:List SV):Bool:=
 match z with
 |some zs=>jw zs xs
 |none=>false
def vC (P:Program) (t:TypeId):Prop:=
 ∀(xs ys:List Value) (b:Bool) (w:World) (o o' :Operand) (op:BinOp),ix (xs.map .v) (ys.map .v)=some b->wU (fC P t) (xs.map .v)=true->
  (eqGuard op t o o' (.agg xs.toArray) (.agg ys.toArray)).run P w= .ok () w/\(Op.equal t (.agg xs.toArray) (.agg ys.toArray)).run P w= .ok b w
def qO {op:BinOp} {K:SV->Prop} (x:A (op,K) Bool):Prop:=
 match op,x with
 | .eql,.mk b=>K (.v (.bool b))
 | .neq,.mk b=>K (.v (.bool (!b)))
 |_,_=>False
def qN {P:Program} {op:BinOp} {t:TypeId} {u:Prop->Prop} {K:SV->Prop} (x:A (P,op,t,u,K) (SV×SV)):Prop:=
 match x with
 | .mk (.v (.int k a),.v (.int k' b))=>(op= .shl\/op= .shr\/k=k')/\jO (.mk (k:=(op,k,u,K)) (a,b))
 | .mk (.v (.string a),.v (.string b))=>sj (.mk (k:=(op,u,K)) (tl a,tl b))
 | .mk (.v (.bool a),.v (.bool b))=>P.underlying t=some .bool/\qO (.mk (k:=(op,K)) (a==b))
 | .mk (.agg xs,y)=>vC P t/\wU (fC P t) xs=true/\aQ (.mk (k:=fun b=>qO (.mk (k:=(op,K)) b)) ((pz y).bind fun ys=>ix xs ys))
 | .mk (.v (.agg xs),y)=>vC P t/\wU (fC P t) (xs.toList.map .v)=true/\aQ (.mk (k:=fun b=>qO (.mk (k:=(op,K)) b)) ((pz y).bind fun ys=>ix (xs.toList.map .v) ys))
 |_=>False
def cO (a:Option Addr) (o:Nat):Value:= .pointer (a.map (·.add o))
def wg (x:Value) (o:Nat):Value:=match x with | .pointer a=>cO a o |x=>x
def KB (x:Value):Prop:=∃a,x= .pointer (some a)
def vq:Value->Bool
 | .pointer none | .nilIface | .nilFunc=>false
 | .func (.func _) _ _=>true
 | .func _ _ _=>false
 |_=>true
def Rd (m:Mem) (x:Value) (cs:List Value):Prop:=
 ∃a,x= .pointer (some a)/\a.spot=none/\∀j,j<cs.length->m.w.cell? (a.add j)=cs[j]? /\a.off+j<m.D a.block
def aiI (a:Option Addr) (n:Nat) (i:Int):Prop:=0<=i/\i<n/\a≠none
def aX (m:Mem) (a:Option Addr) (n sz:Nat) (xs:List Value):Prop:=
 xs.length=n * sz/\(0<n->∃ad,a=some ad/\ad.spot=none/\∀j,j<n * sz->m.w.cell? (ad.add j)=xs[j]? /\ad.off+j<m.D ad.block)
def LP (a:Option Addr) (c l h sz:Nat):Value:= .slice (if c=l then a else a.map (·.add (l * sz))) (h - l) (c - l)
def j0 (l:List UInt8):List Value:=l.map fun b=> .int .u8 b.toNat
def tJ:SV->Option SV
 | .v x=>some (.v x)
 | .box k o=>some (.box k o)
 | .vec k u=>some (.vec k u)
 | .vp k u o=>some (.vp k u o)
 | .mp k=>some (.mp k)
 | .mv f k o=>some (.mv f k o)
 | .agg _=>none
 | .tup _=>none
def wz (cs:List SV) (off:Nat):Option Nat->Option SV
 |none=>(cs[off]?).bind tJ
 |some n=>if off+n<=cs.length then some (.agg ((cs.drop off).take n)) else none
def lG (cs:List SV) (off:Nat):List SV->List SV
 |[]=>cs
 |c::r=>lG (cs.set off c) (off+1) r
inductive PM where |and |or |gen
def CX:Operand->Operand->PM
 |_,.const (.bool false)=> .and
 | .const (.bool true),_=> .or
 |_,_=> .gen
def vd {md:PM} {K:SV->Prop} (x:A (md,K) (Bool×SV×SV)):Prop:=
 match md,x with
 | .and,.mk (c,.v (.bool a),.v (.bool false))=>K (.v (.bool (c&&a)))
 | .or,.mk (c,.v (.bool true),.v (.bool b))=>K (.v (.bool (c||b)))
 | .gen,.mk (c,.v (.bool a),.v (.bool b))=>K (.v (.bool (bif c then a else b)))
 |_,_=>False
def rH (o:Option SV) (d:Int):Option Int:=
 match o with
 |none=>some d
 |some (.v (.int _ n))=>some n
 |_=>none
def yv (st:LS) (p:bX) (o:Option Operand):Option (Option SV):=
 match o with
 |none=>some none
 |some x=>(cU st p x).map some
def wo (P:Program) (t:TypeId) (st:LS) (p:bX):List (Nat×Operand)->List SV->Option (List SV)
 |[],cs=>some cs
 |(i,x)::r,cs=>(dc P t i).bind fun fo=>((cU st p x).bind lQ).bind fun l=>
   if l.length=fo.2.2 then(if fo.1+l.length<=cs.length then wo P t st p r (lG cs fo.1 l) else none) else none
def oc (P:Program) (t:TypeId):Bool:=
 match P.underlying t with
 |some (.struct fs)=>fs.toList.all fun x=>(P.info? x.type).isSome
 |_=>false
def vj {u:Prop->Prop} {K:SV->Prop} (x:A (u,K) SV):Prop:=
 match x with
 | .mk (.v x)=>u (vq x=true)/\K (.v x)
 | .mk (.box k o)=>K (.box k o)
 |_=>False
def vD {op:UnOp} {u:Prop->Prop} {K:SV->Prop} (x:A (op,u,K) SV):Prop:=
 match op,x with
 | .not,.mk (.v (.bool b))=>K (.v (.bool (!b)))
 | .neg,.mk (.v (.int k n))=>arith (.mk (k:=(k,u,K)) (0 - n))
 |_,_=>False
def Hf (v:Value):Prop:=v= .nilIface\/∃t x,v= .iface t x
def rO:Value->Bool
 | .nilIface=>true
 |_=>false
def Gn (P:Program) (t:TypeId):Bool:=
 match P.underlying t with
 |some (.interface _)=>true
 |_=>false
def wA {P:Program} {op:BinOp} {t:TypeId} {u:Prop->Prop} {K:SV->Prop} (x:A (P,op,t,u,K) SV):Prop:=
 match x with
 | .mk (.v v)=>Gn P t=true/\u (Hf v)/\qO (.mk (k:=(op,K)) (rO v))
 |_=>False
def rS {u:Prop->Prop} {K:SV->Prop} (x:A (u,K) (LS×CvK×SV)):Prop:=
 match x with
 | .mk (_,.int k,.v (.int _ n))=>K (.v (.int k (k.wrap n)))
 | .mk (_,.same,.v (.string s))=>K (.v (.string s))
 | .mk (st,.b2s,.vec k v)=>aQ (.mk (k:=fun b:Vc=>∃l,u (b.sz=1/\b.xs=j0 l)/\K (.v (.string (bs l)))) (eV st.vc k v))
 | .mk (st,.b2s,.v (.slice a n _))=>∃l,u (aX st.m a n 1 (j0 l))/\K (.v (.string (bs l)))
 |_=>False
def tP {u:Prop->Prop} {K:SV->Prop} (x:A (u,K) (LS×SV×Nat)):Prop:=
 match x with
 | .mk (_,.box k o,f)=>K (.box k (o+f))
 | .mk (st,.vp k v o,f)=>aQ (.mk (k:=fun b:Vc=>u (o<b.xs.length)/\K (.vp k v (o+f))) (eV st.vc k v))
 | .mk (_,.v x,f)=>u (KB x)/\K (.v (wg x f))
 |_=>False
def vn {P:Program} {u:Prop->Prop} {K:SV->Prop} (x:A (P,u,K) (LS×TypeId×SV×SV)):Prop:=
 match x with
 | .mk (_,e,.v (.slice a n _),.v (.int _ i))=>0<bZ P e/\u (aiI a n i)/\K (.v (cO a (i.toNat * bZ P e)))
 | .mk (st,e,.vec k v,.v (.int _ i))=>aQ (.mk (k:=fun b:Vc=>0<bZ P e/\u (0<=i/\i<b.n/\b.sz=bZ P e)/\K (.vp k v (i.toNat * bZ P e))) (eV st.vc k v))
 |_=>False
def xd {P:Program} {t:TypeId} {u:Prop->Prop} {K:SV->Prop} (x:A (P,t,u,K) (SV×SV)):Prop:=
 match x with
 | .mk (.v (.string s),.v (.int _ i))=>P.underlying t=some .string/\u (0<=i/\i<(tl s).length)/\K (.v (.int .u8 ((tl s).getD i.toNat 0).toNat))
 |_=>False
def Lg {s:List UInt8} {u:Prop->Prop} {K:SV->Prop} (x:A (s,u,K) (Int×Int)):Prop:=
 match x with
 | .mk (l,h)=>u (0<=l/\l<=h/\h<=s.length)/\K (.v (.string (bs ((s.take h.toNat).drop l.toNat))))
def vE {P:Program} {t:TypeId} {u:Prop->Prop} {K:SV->Prop} (x:A (P,t,u,K) (SV×Option SV×Option SV)):Prop:=
 match x with
 | .mk (.v (.string s),lo,hi)=>P.underlying t=some .string/\
   aQ (.mk (k:=fun l:Int=>aQ (.mk (k:=fun h:Int=>Lg (.mk (k:=(tl s,u,K)) (l,h))) (rH hi (tl s).length))) (rH lo 0))
 | .mk (.v (.slice a n c),lo,hi)=>aQ (.mk (k:=fun l:Int=>aQ (.mk (k:=fun h:Int=>aQ (.mk (k:=fun e:TypeId=>
   0<bZ P e/\u (0<=l/\l<=h/\h<=c)/\K (.v (LP a c l.toNat h.toNat (bZ P e)))) (iU P t))) (rH hi n))) (rH lo 0))
 |_=>False
def yN {m:Mem} {x:Value} {u:Prop->Prop} {K:SV->Prop} (ag:A (m,x,u,K) (Option Nat)):Prop:=
 match ag with
 | .mk none=>∃c,u (Rd m x [c])/\K (.v c)
 | .mk (some n)=>∃cs,u (Rd m x cs/\cs.length=n)/\K (.v (.agg ⟨cs⟩))
def yu {b:Vc} {o:Nat} {u:Prop->Prop} {K:SV->Prop} (ag:A (b,o,u,K) (Option Nat)):Prop:=
 match ag with
 | .mk none=>u (o<b.xs.length)/\K (.v (b.xs.getD o undef))
 | .mk (some n)=>0<n/\u (o+n<=b.xs.length)/\K (.v (.agg ⟨(b.xs.drop o).take n⟩))
def pN {P:Program} {t:TypeId} {u:Prop->Prop} {K:SV->Prop} (x:A (P,t,u,K) (LS×SV)):Prop:=
 match x with
 | .mk (st,.box k o)=>aQ (.mk (k:=fun b:Bx=>(b.ty<oV)/\aQ (.mk (k:=fun ag:Option Nat=>aQ (.mk (k:=K) (wz b.cs o ag))) (eU P t))) (iD st.bx k))
 | .mk (st,.vp k v o)=>aQ (.mk (k:=fun b:Vc=>aQ (.mk (k:=fun ag:Option Nat=>yu (.mk (k:=(b,o,u,K)) ag)) (eU P t))) (eV st.vc k v))
 | .mk (st,.v x)=>aQ (.mk (k:=fun ag:Option Nat=>yN (.mk (k:=(st.m,x,u,K)) ag)) (eU P t))
 |_=>False
def nY:SV->Option SV
 | .v x=>some (.v x)
 | .box k o=>some (.box k o)
 | .vec k u=>some (.vec k u)
 | .vp k u o=>some (.vp k u o)
 | .mp k=>some (.mp k)
 | .mv f k o=>some (.mv f k o)
 | .agg cs=>some (.agg cs)
 | .tup _=>none
def vo {K:SV->Prop} (x:A K (SV×Nat)):Prop:=
 match x with
 | .mk (.tup l,i)=>aQ (.mk (k:=K) (l[i]?.bind nY))
 | .mk (.v (.tuple ⟨l⟩),i)=>aQ (.mk (k:=K) (l[i]?.map .v))
 |_=>False
def tO {P:Program} {t:TypeId} {K:SV->Prop} (x:A (P,t,K) (LS×SV)):Prop:=
 match x with
 | .mk (_,.v (.string s))=>P.underlying t=some .string/\K (.v (.int .i64 (tl s).length))
 | .mk (_,.v (.slice _ n _))=>aQ (.mk (k:=fun _:TypeId=>K (.v (.int .i64 n))) (iU P t))
 | .mk (st,.vec k v)=>aQ (.mk (k:=fun _:TypeId=>aQ (.mk (k:=fun b:Vc=>K (.v (.int .i64 b.n))) (eV st.vc k v))) (iU P t))
 |_=>False
def wL {K:SV->Prop} (x:A K (SV×SV)):Prop:=
 match x with
 | .mk (.v (.int k a),.v (.int _ b))=>K (.v (.int k (if b<a then b else a)))
 |_=>False
def wM {K:SV->Prop} (x:A K (SV×SV)):Prop:=
 match x with
 | .mk (.v (.int k a),.v (.int _ b))=>K (.v (.int k (if a<b then b else a)))
 |_=>False
def mx (a b:Int):Int:=if a<b then b else a
def wB {K:SV->Prop} (x:A K (SV×SV×SV×SV)):Prop:=
 match x with
 | .mk (.v (.int k a),.v (.int _ b),.v (.int _ c),.v (.int _ d))=>K (.v (.int k (mx (mx (mx a b) c) d)))
 |_=>False
def vb {p:bX} {a b:Operand} {st:LS} {g:Gd} {K:SV->Prop} (x:A (p,a,b,st,g,K) PM):Prop:=
 match g,x with
 |⟨i,_,q,.lit true⟩,_=>oy q p=true/\aQ (.mk (k:=K) (cU st ((i,true)::q) a))
 |⟨i,_,q,.lit false⟩,_=>oy q p=true/\aQ (.mk (k:=K) (cU st ((i,false)::q) b))
 |⟨i,_,q,.sym c⟩,.mk md=>oy q p=true/\
   aQ (.mk (k:=fun x:SV=>aQ (.mk (k:=fun y:SV=>vd (.mk (k:=(md,K)) (c,x,y))) (cU st ((i,false)::q) b))) (cU st ((i,true)::q) a))
open Classical in
noncomputable def mP:List Value->Value->Option Value
 |k::v::r,s=>if k=s then some v else mP r s
 |_,_=>none
open Classical in
noncomputable def wN:List Value->Value->Value->List Value
 |k::v::r,s,x=>if k=s then k::x::r else k::v::wN r s x
 |_,s,x=>[s,x]
def DP:Option Value->Bool
 |some (.bool b)=>b
 |_=>false
def js (P:Program) (t:TypeId):Nat×Option Value:=
 match P.underlying t with
 |some (.map k e)=>(match P.underlying k,P.underlying e with
  |some .string,some .bool=>(1000000,none)
  |some .string,_=>(1000002,some (((P.info? e).bind (·.zero)).getD undef))
  |_,some .bool=>(1000001,none)
  |_,_=>(0,none))
 |_=>(0,none)
def gW (g:Nat) (v:Value):Prop:=if g=1000001 then ∃s n,v= .agg ⟨[.string s,.int .i64 n]⟩ else ∃s,v= .string s
def lF (g:Nat) (v:Value):Prop:=if g=1000002 then True else ∃b,v= .bool b
open Classical in
noncomputable def xi:List MapEntry->Value->Nat->Option (Nat×Value)
 |[],_,_=>none
 |e::es,s,i=>if e.key=s then some (i,e.val) else xi es s (i+1)
def wH (P:Program) (t:TypeId):Prop:=
 oV<=(js P t).1/\∃k e,P.underlying t=some (.map k e)/\
  (∀w key em n,gW (js P t).1 key->(Instr.checkKey em (n+2) k key).run P w= .ok () w)/\
  (∀w key es,gW (js P t).1 key->(∀x∈es,gW (js P t).1 x.key)->(Instr.findKey k key es).run P w= .ok (xi es key 0) w)/\
  (∀w,(zeroValue e).run P w= .ok ((js P t).2.getD (.bool false)) w)
def plain:SV->Option Value
 | .v x=>some x
 |_=>none
def nq:List SV->Option (List Value)
 |[]=>some []
 |s::r=>(plain s).bind fun x=>(nq r).map (x:: ·)
def pJ:SV->Option Value
 | .v x=>some x
 | .agg cs=>(nq cs).map fun l=> .agg ⟨l⟩
 |_=>none
def vm {l:List Value} {key:Value} {K:SV->Prop} (x:A (l,key,K) (Bool×Option Value)):Prop:=
 match x with
 | .mk (false,none)=>K (.v (.bool (DP (mP l key))))
 | .mk (false,some z)=>(∀v,mP l key=some v->K (.v v))/\(mP l key=none->K (.v z))
 | .mk (true,some z)=>(∀v,mP l key=some v->K (.tup [.v v,.v (.bool true)]))/\(mP l key=none->K (.tup [.v z,.v (.bool false)]))
 |_=>False
def vk {P:Program} {t:TypeId} {c:Bool} {K:SV->Prop} (x:A (P,t,c,K) (LS×SV×Option Value)):Prop:=
 match x with
 | .mk (st,.mp k,some key)=>aQ (.mk (k:=fun b:Bx=>(b.ty==(js P t).1)=true/\wH P t/\gW b.ty key/\aQ (.mk (k:=fun l:List Value=>vm (.mk (k:=(l,key,K)) (c,(js P t).2))) (nq b.cs))) (iD st.bx k))
 |_=>False
def qOp {P:Program} {op:Op} {K:SV->Prop} (x:A (P,op,K) (LS×bX)):Prop:=
 match op,x with
 | .move x,.mk (st,p) | .assign x,.mk (st,p)=>aQ (.mk (k:=K) (cU st p x))
 | .pick (.tmp t) a b,.mk (st,p)=>aQ (.mk (k:=fun g:Gd=>vb (.mk (k:=(p,a,b,st,g,K)) (CX a b))) (AR st.rho t))
 | .nilCheck x,.mk (st,p)=>aQ (.mk (k:=fun s:SV=>vj (.mk (k:=(qb st p,K)) s)) (cU st p x))
 | .binOp op t x (.const .nilIface) _,.mk (st,p)=>aQ (.mk (k:=fun a:SV=>wA (.mk (k:=(P,op,t,qb st p,K)) a)) (cU st p x))
 | .binOp op t x y _,.mk (st,p)=>aQ (.mk (k:=fun a:SV=>aQ (.mk (k:=fun b:SV=>qN (.mk (k:=(P,op,t,qb st p,K)) (a,b))) (cU st p y))) (cU st p x))
 | .unOp op _ x,.mk (st,p)=>aQ (.mk (k:=fun s:SV=>vD (.mk (k:=(op,qb st p,K)) s)) (cU st p x))
 | .convert src dst x,.mk (st,p)=>aQ (.mk (k:=fun s:SV=>rS (.mk (k:=(qb st p,K)) (st,rl P src dst,s))) (cU st p x))
 | .fieldAddr s x f,.mk (st,p)=>aQ (.mk (k:=fun a:SV=>aQ (.mk (k:=fun fo:Nat×Option Nat×Nat=>tP (.mk (k:=(qb st p,K)) (st,a,fo.1))) (dc P s f))) (cU st p x))
 | .field s x f,.mk (st,p)=>aQ (.mk (k:=fun cs:List SV=>aQ (.mk (k:=fun fo:Nat×Option Nat×Nat=>aQ (.mk (k:=K) (wz cs fo.1 fo.2.1))) (dc P s f))) ((cU st p x).bind pz))
 | .indexAddr t x i,.mk (st,p)=>aQ (.mk (k:=fun a:SV=>aQ (.mk (k:=fun i:SV=>aQ (.mk (k:=fun e:TypeId=>vn (.mk (k:=(P,qb st p,K)) (st,e,a,i))) (iU P t))) (cU st p i))) (cU st p x))
 | .index t x i,.mk (st,p)=>aQ (.mk (k:=fun a:SV=>aQ (.mk (k:=fun i:SV=>xd (.mk (k:=(P,t,qb st p,K)) (a,i))) (cU st p i))) (cU st p x))
 | .slice t x lo hi none,.mk (st,p)=>aQ (.mk (k:=fun a:SV=>aQ (.mk (k:=fun lo:Option SV=>aQ (.mk (k:=fun hi:Option SV=>vE (.mk (k:=(P,t,qb st p,K)) (a,lo,hi))) (yv st p hi))) (yv st p lo))) (cU st p x))
 | .load t a,.mk (st,p)=>aQ (.mk (k:=fun a:SV=>pN (.mk (k:=(P,t,qb st p,K)) (st,a))) (cU st p a))
 | .extract x i,.mk (st,p)=>aQ (.mk (k:=fun a:SV=>vo (.mk (k:=K) (a,i))) (cU st p x))
 | .build t parts,.mk (st,p)=>oc P t=true/\aQ (.mk (k:=fun z:List SV=>aQ (.mk (k:=fun cs:List SV=>K (.agg cs)) (wo P t st p parts.toList z))) (fC P t))
 | .call {callee:= .builtin .len,args:=⟨[x]⟩,argTypes:=⟨[t]⟩},.mk (st,p)=>aQ (.mk (k:=fun a:SV=>tO (.mk (k:=(P,t,K)) (st,a))) (cU st p x))
 | .call {callee:= .builtin .min,args:=⟨[x,y]⟩,..},.mk (st,p)=>aQ (.mk (k:=fun a:SV=>aQ (.mk (k:=fun b:SV=>wL (.mk (k:=K) (a,b))) (cU st p y))) (cU st p x))
 | .lookup t x i c,.mk (st,p)=>aQ (.mk (k:=fun a:SV=>aQ (.mk (k:=fun i:SV=>vk (.mk (k:=(P,t,c,K)) (st,a,pJ i))) (cU st p i))) (cU st p x))
 | .call {callee:= .builtin .max,args:=⟨[x,y]⟩,..},.mk (st,p)=>aQ (.mk (k:=fun a:SV=>aQ (.mk (k:=fun b:SV=>wM (.mk (k:=K) (a,b))) (cU st p y))) (cU st p x))
 | .call {callee:= .builtin .max,args:=⟨[x,y,z,u]⟩,..},.mk (st,p)=>aQ (.mk (k:=fun a:SV=>aQ (.mk (k:=fun b:SV=>aQ (.mk (k:=fun c:SV=>aQ (.mk (k:=fun d:SV=>wB (.mk (k:=K) (a,b,c,d))) (cU st p u))) (cU st p z))) (cU st p y))) (cU st p x))
 |_,_=>False
structure Hd where
 a:Option Addr
 n:Nat
 c:Nat
def Hd.val (h:Hd):Value:= .slice h.a h.n h.c
structure Vl where
 β:Nat->Nat
 γ:Nat->Nat->Hd
def bL (V:Vl):SV->Value
 | .v x=>x
 | .box k o=> .pointer (some ⟨V.β k,o,none⟩)
 | .vec k u=>(V.γ k u).val
 | .vp k u o=> .pointer ((V.γ k u).a.map (·.add o))
 | .mp k=> .map (some (V.β k))
 | .mv f k o=> .func (.func f) ⟨[.pointer (some ⟨V.β k,o,none⟩)]⟩ ⟨[]⟩
 |_=>undef
def nM (V:Vl):SV->Value
 | .agg cs=> .agg ⟨cs.map (bL V)⟩
 |s=>bL V s
def den (V:Vl):SV->Value
 | .tup l=> .tuple ⟨l.map (nM V)⟩
 |s=>nM V s
def tr (d:Nat) (o o' :Option Obj):Prop:=
 match o with
 |some (.cells c _ _)=>∃c' t' f',o' =some (.cells c' t' f')/\∀j,j<d->c'[j]? =c[j]?
 |o=>o' =o
def Mem.le (m m' :Mem):Prop:=∀b,m.D b<=m'.D b/\(0<m.D b->b<m.w.heap.size/\tr (m.D b) m.w.heap[b]? m'.w.heap[b]?)
def Hd.blk (h:Hd):Option Nat:=h.a.map (·.block)
def ot (l:List (Value×Value)):List Value:=l.flatMap fun x=>[x.1,x.2]
def nD (ty:TypeId) (vs:List Value) (o:Obj):Prop:=
 if ty<oV then o= .cells ⟨vs⟩ ty (0,0)
 else ∃es qj l,o= .map es qj/\vs=ot l/\es.toList.map (fun e=>(e.key,e.val))=l/\∀x∈l,gW ty x.1/\lF ty x.2
theorem ae4 (s:ByteArray):gW 1000000 (.string s)=True:=eq_true (by unfold gW;rw[af (by decide)];exact⟨s,rfl⟩)
theorem Tr (s:ByteArray) (n:Int):gW 1000001 (.agg ⟨[.string s,.int .i64 n]⟩)=True:=eq_true (by unfold gW;rw[ah rfl];exact⟨s,n,rfl⟩)
theorem ae3 (s:ByteArray):gW 1000002 (.string s)=True:=eq_true (by unfold gW;rw[af (by decide)];exact⟨s,rfl⟩)
theorem aex (b:Bool):lF 1000000 (.bool b)=True:=eq_true (by unfold lF;rw[af (by decide)];exact⟨b,rfl⟩)
theorem aew (b:Bool):lF 1000001 (.bool b)=True:=eq_true (by unfold lF;rw[af (by decide)];exact⟨b,rfl⟩)
theorem aev (v:Value):lF 1000002 v=True:=eq_true (by unfold lF;rw[ah rfl];trivial)
def Ep (V:Vl) (D:Nat->Nat) (w:World) (b:Bx):Prop:=
 (∃o,w.heap[V.β b.id]? =some o/\nD b.ty (b.cs.map (bL V)) o)/\D (V.β b.id)=0
def zt (V:Vl) (D:Nat->Nat) (w:World) (b:Vc):Prop:=
 w.ownsRow 0 b.el b.sz (V.γ b.id b.ver).val b.n b.xs/\(∀g,(V.γ b.id b.ver).blk=some g->D g<=b.n * b.sz)/\0<b.sz/\∀u∈b.xs,u.oneCell' =true
def br (V:Vl) (H:Hp):List Nat:=H.bx.map (fun b=>V.β b.id)++H.vc.filterMap fun b=>(V.γ b.id b.ver).blk
structure HSat (V:Vl) (D:Nat->Nat) (w:World) (H:Hp):Prop where
 bx:∀b∈H.bx,Ep V D w b
 vc:∀b∈H.vc,zt V D w b
 apart:(br V H).Nodup
 uniq:(H.vc.map (·.id)).Nodup
structure Frm (F:Nat->Prop) (w:World) (D:Nat->Nat) (w' :World) (D' :Nat->Nat):Prop where
 os:w'.os=w.os
 tape:w'.tape=w.tape
 output:w'.output=w.output
 size:w.heap.size<=w'.heap.size
 same:∀b,b<w.heap.size->¬F b->w'.heap[b]? =w.heap[b]? /\D' b=D b
def Wf (w:World) (D:Nat->Nat):Prop:=∀b,w.heap.size<=b->D b=0
def FnH (P:Program) (f:FuncId) (args:List SV) (H:Hp) (m:Mem) (R:SV->Hp->Mem->Prop):Prop:=
 ∀(V:Vl) (w:World) (D:Nat->Nat),Wf w D->m.le ⟨w,D⟩->HSat V D w H->
  Calls P f ⟨args.map (den V)⟩ w fun e w' =>∃(r:SV) (V' :Vl) (D' :Nat->Nat) (H' :Hp) (m' :Mem),
   e= .returned (den V' r)/\Wf w' D' /\HSat V' D' w' H' /\(∀b∈H.bx,V'.β b.id=V.β b.id)/\(∀b∈H.vc,∀u,u<=b.ver->V'.γ b.id u=V.γ b.id u)/\
   Frm (· ∈br V H) w D w' D' /\(∀b∈br V' H',b∈br V H\/w.heap.size<=b)/\
   Mem.le ⟨w,D⟩ ⟨w',D'⟩/\m.le m' /\m'.le ⟨w',D'⟩/\R r H' m'
structure Ctx where
 w0:World
 D0:Nat->Nat
 F:Nat->Prop
 H0:Hp
 V0:Vl
 m0:Mem
def gz (rho:List Gd) (p:bX):Prop:=∀x∈p,∃g,gP rho x.1=some g
def cG:List Vc->Nat->Nat->Prop
 |[],_,_=>True
 |⟨k',u',_,_,_,_⟩::r,k,u=>if k' =k then u<=u' else cG r k u
def mf (nid:Nat) (vc:List Vc):SV->Prop
 | .v _=>True
 | .box k _=>k<nid
 | .vec k u=>k<nid/\cG vc k u
 | .vp k u _=>k<nid/\cG vc k u
 | .mp k=>k<nid
 | .mv _ k _=>k<nid
 | .agg _=>True
 | .tup _=>True
def fO (nid:Nat) (vc:List Vc):List SV->Prop
 |[]=>True
 |s::r=>mf nid vc s/\fO nid vc r
def okB (nid:Nat) (vc:List Vc):SV->Prop
 | .agg cs=>fO nid vc cs
 |s=>mf nid vc s
def yP (nid:Nat) (vc:List Vc):List SV->Prop
 |[]=>True
 |s::r=>okB nid vc s/\yP nid vc r
def jA (nid:Nat) (vc:List Vc):SV->Prop
 | .tup l=>yP nid vc l
 |s=>okB nid vc s
structure SatF (n:Nat) (env:List Ev) (rho:List Gd) (a:Act) (V:Vl):Prop where
 defers:a.defers=[]
 size:a.tmps.size=n
 pth:∀e∈env,gz rho e.p
 env:∀t p s,gz rho p->gi env t p=some s->cI rho p=true->a.tmps[t]? =some (den V s)
 rho:∀g∈rho,gP rho g.i=some g/\gz rho g.p/\a.tmps[g.slot]? =some (if cI rho g.p=true then .bool g.b.val else undef)
structure SatW (C:Ctx) (bx:List Bx) (vc:List Vc) (nid:Nat) (m:Mem) (V:Vl) (D:Nat->Nat) (w:World):Prop where
 heap:HSat V D w ⟨bx,vc⟩
 wf:Wf w D
 frm:Frm C.F C.w0 C.D0 w D
 own:∀b∈br V ⟨bx,vc⟩,C.F b\/C.w0.heap.size<=b
 baseB:∀b∈C.H0.bx,V.β b.id=C.V0.β b.id/\b.id<nid
 baseV:∀b∈C.H0.vc,(∀u,u<=b.ver->V.γ b.id u=C.V0.γ b.id u)/\b.id<nid/\cG vc b.id b.ver
 ids:(∀b∈bx,b.id<nid/\fO nid vc b.cs)/\∀b∈vc,b.id<nid
 le0:Mem.le ⟨C.w0,C.D0⟩ ⟨w,D⟩
 m0:C.m0.le m
 mle:m.le ⟨w,D⟩
structure Sat (C:Ctx) (n:Nat) (st:LS) (a:Act) (V:Vl) (D:Nat->Nat) (w:World):Prop where
 f:SatF n st.env st.rho a V
 ids:∀e∈st.env,jA st.nid st.vc e.s
 w:SatW C st.bx st.vc st.nid st.m V D w
theorem Sat.env {C:Ctx} {n:Nat} {st:LS} {a:Act} {V:Vl} {D:Nat->Nat} {w:World} (h:Sat C n st a V D w):∀t p s,gz st.rho p->gi st.env t p=some s->cI st.rho p=true->a.tmps[t]? =some (den V s):=h.f.env
theorem Sat.rho {C:Ctx} {n:Nat} {st:LS} {a:Act} {V:Vl} {D:Nat->Nat} {w:World} (h:Sat C n st a V D w):∀g∈st.rho,gP st.rho g.i=some g/\gz st.rho g.p/\a.tmps[g.slot]? =some (if cI st.rho g.p=true then .bool g.b.val else undef):=h.f.rho
theorem Sat.heap {C:Ctx} {n:Nat} {st:LS} {a:Act} {V:Vl} {D:Nat->Nat} {w:World} (h:Sat C n st a V D w):HSat V D w ⟨st.bx,st.vc⟩:=h.w.heap
theorem Sat.mle {C:Ctx} {n:Nat} {st:LS} {a:Act} {V:Vl} {D:Nat->Nat} {w:World} (h:Sat C n st a V D w):st.m.le ⟨w,D⟩:=h.w.mle
def kp (C:Ctx) (n:Nat) (st:LS) (a:Act) (w:World):Prop:=st.rho=[]/\∃V D,Sat C n st a V D w
def WP (P:Program) (n:Nat) (c:Code) (Q:Exit->LS->Prop) (st:LS):Prop:=
 ∀(C:Ctx) (a:Act) (w:World),kp C n st a w->c.wp P (fun e a' w' =>∃ak,kp C n ak a' w' /\Q e ak) a w
def kA {P:Program} {n:Nat} {c:Code} {Q:Exit->LS->Prop} (x:A (P,n,c,Q) LS):Prop:=match x with | .mk st=>WP P n c Q st
def HL {P:Program} {f:FuncId} {R:SV->Hp->Mem->Prop} (x:A (P,f,R) (List SV×Hp×Mem)):Prop:=match x with | .mk (args,H,m)=>FnH P f args H m R
/-! Operations that act. -/
def xT:List SV->Option (List Value)
 |[]=>some []
 |s::r=>(pJ s).bind fun x=>(xT r).map (x:: ·)
def kr:List SV->Bool
 |[]=>true
 | .v x::r=>x.oneCell' &&kr r
 | .box _ _::r=>kr r
 | .vec _ _::r=>kr r
 | .vp _ _ _::r=>kr r
 | .mp _::r=>kr r
 | .mv _ _ _::r=>kr r
 | .agg _::_=>false
 | .tup _::_=>false
def lg:List Bx->Nat->List SV->List Bx
 |[],_,_=>[]
 |⟨k',t',ck⟩::r,k,cs=>if k' =k then⟨k',t',cs⟩::r else⟨k',t',ck⟩::lg r k cs
def pZ:List Vc->Nat->Vc->List Vc
 |[],_,_=>[]
 |⟨k',u',e',z',n',x'⟩::r,k,x=>if k' =k then x::r else⟨k',u',e',z',n',x'⟩::pZ r k x
def Lb (xs:List Value) (off:Nat):List Value->List Value
 |[]=>xs
 |c::r=>Lb (xs.set off c) (off+1) r
def Gy {st:LS} {K:Value->LS->Prop} (x:A (st,K) Vc):Prop:=
 match x with
 | .mk b=>∀(a:Option Addr) (c:Nat) (m1:Mem),st.m.le m1->b.n<=c->aX m1 a b.n b.sz b.xs->K (.slice a b.n c) ⟨st.env,st.rho,st.bx,st.vc,st.nid,m1⟩
def oS:List SV->(List SV->LS->Prop)->LS->Prop
 |[],K,st=>K [] st
 | .vec k u::r,K,st=>aQ (.mk (k:=fun b:Vc=>Gy (.mk (k:=(st,fun v ak=>oS r (fun r' lV=>K (.v v::r') lV) ak)) b)) (eV st.vc k u))
 | .v x::r,K,st=>oS r (fun r' ak=>K (.v x::r') ak) st
 | .box k o::r,K,st=>oS r (fun r' ak=>K (.box k o::r') ak) st
 | .vp k u o::r,K,st=>oS r (fun r' ak=>K (.vp k u o::r') ak) st
 | .mp k::r,K,st=>oS r (fun r' ak=>K (.mp k::r') ak) st
 | .mv f k o::r,K,st=>oS r (fun r' ak=>K (.mv f k o::r') ak) st
 | .agg cs::r,K,st=>oS r (fun r' ak=>K (.agg cs::r') ak) st
 | .tup cs::r,K,st=>oS r (fun r' ak=>K (.tup cs::r') ak) st
def mR {K:List SV->LS->Prop} (x:A K (LS×List SV)):Prop:=match x with | .mk (st,l)=>oS l K st
def CW:List SV->(List SV->LS->Prop)->LS->Prop
 |[],K,st=>K [] st
 | .agg cs::r,K,st=>oS cs (fun ck ak=>CW r (fun r' lV=>K (.agg ck::r') lV) ak) st
 |s::r,K,st=>oS [s] (fun s' ak=>CW r (fun r' lV=>K (s' ++r') lV) ak) st
def o4 {K:List SV->LS->Prop} (x:A K (LS×List SV)):Prop:=match x with | .mk (st,l)=>CW l K st
def AL (acc:List Nat) (k:Nat):List Nat:=if acc.contains k=true then acc else acc++[k]
def ll (acc:List Nat):List SV->List Nat
 |[]=>acc
 | .box k _::r=>ll (AL acc k) r
 | .vec k _::r=>ll (AL acc k) r
 | .vp k _ _::r=>ll (AL acc k) r
 | .mp k::r=>ll (AL acc k) r
 | .mv _ k _::r=>ll (AL acc k) r
 | .v _::r=>ll acc r
 | .agg _::r=>ll acc r
 | .tup _::r=>ll acc r
def cellsOf:Option Bx->List SV
 |some b=>b.cs
 |none=>[]
def o5 (acc:List Nat):List SV->List Nat
 |[]=>acc
 | .agg cs::r=>o5 (ll acc cs) r
 |s::r=>o5 (ll acc [s]) r
def AV (bx:List Bx):List Nat->List Nat->List Nat
 |acc,[]=>acc
 |acc,k::r=>AV bx (ll acc (cellsOf (iD bx k))) r
def uN (bx:List Bx) (l:List Nat):List Nat:=AV bx (AV bx l l) (AV bx l l)
def idxOf:List Nat->Nat->Option Nat
 |[],_=>none
 |j::r,i=>if j=i then some 0 else(idxOf r i).map (· +1)
def jz (L:List Nat) (base:Nat) (i:Nat):Nat:=((idxOf L i).map fun j=>j).getD (base+i)
def fD (L:List Nat) (base:Nat) (j:Nat):Nat:=(L[j]?).getD (base+j)
def nF (ρ:Nat->Nat):SV->SV
 | .box k o=> .box (ρ k) o
 | .vec k u=> .vec (ρ k) u
 | .vp k u o=> .vp (ρ k) u o
 | .mp k=> .mp (ρ k)
 | .mv f k o=> .mv f (ρ k) o
 | .v x=> .v x
 | .agg cs=> .agg cs
 | .tup cs=> .tup cs
def AM (ρ:Nat->Nat):SV->SV
 | .agg cs=> .agg (cs.map (nF ρ))
 |s=>nF ρ s
def vh (ρ:Nat->Nat):SV->SV
 | .tup l=> .tup (l.map (AM ρ))
 |s=>AM ρ s
def pM (ρ:Nat->Nat):Bx->Bx |⟨k,t,cs⟩=>⟨ρ k,t,cs.map (nF ρ)⟩
def kh (ρ:Nat->Nat):Vc->Vc |⟨k,u,e,z,n,xs⟩=>⟨ρ k,u,e,z,n,xs⟩
def nH:List Vc->Nat->Option Vc
 |[],_=>none
 |⟨k',u',e',z',n',x'⟩::r,i=>if k' =i then some ⟨k',u',e',z',n',x'⟩ else nH r i
def gI (L:List Nat):List Bx->List Bx
 |[]=>[]
 |⟨k',t',ck⟩::r=>if L.contains k' =true then⟨k',t',ck⟩::gI L r else gI L r
def fY (L:List Nat):List Vc->List Vc
 |[]=>[]
 |⟨k',u',e',z',n',x'⟩::r=>if L.contains k' =true then⟨k',u',e',z',n',x'⟩::fY L r else fY L r
def nU (L:List Nat):List Bx->List Bx
 |[]=>[]
 |⟨k',t',ck⟩::r=>if L.contains k' =true then nU L r else⟨k',t',ck⟩::nU L r
def ns (L:List Nat):List Vc->List Vc
 |[]=>[]
 |⟨k',u',e',z',n',x'⟩::r=>if L.contains k' =true then ns L r else⟨k',u',e',z',n',x'⟩::ns L r
def oe:List Bx->Nat |[]=>0 |⟨k,_,_⟩::r=>max (k+1) (oe r)
def od:List Vc->Nat |[]=>0 |⟨k,_,_,_,_,_⟩::r=>max (k+1) (od r)
structure Cfg where
 own:FuncId->Bool
 pure:FuncId->Option (Mem->List Value->Option (Prop×Value))
def wu (st:LS) (L:List Nat) (H' :Hp) (m' :Mem):LS:=
 ⟨st.env,st.rho,H'.bx.map (pM (fD L st.nid))++nU L st.bx,H'.vc.map (kh (fD L st.nid))++ns L st.vc,st.nid+max (oe H'.bx) (od H'.vc),m'⟩
def DN:List Nat->Prop
 |[]=>True
 |k::r=>r.contains k=false/\DN r
def vG (n:Nat):List Nat->Prop
 |[]=>True
 |k::r=>k<n/\vG n r
def sM (L:List Nat):SV->Prop
 | .v _=>True
 | .box k _=>L.contains k=true
 | .vec k _=>L.contains k=true
 | .vp k _ _=>L.contains k=true
 | .mp k=>L.contains k=true
 | .mv _ k _=>L.contains k=true
 | .agg _=>True
 | .tup _=>False
def yR (L:List Nat):List SV->Prop
 |[]=>True
 |s::r=>sM L s/\yR L r
def Hc (L:List Nat):SV->Prop
 | .agg cs=>yR L cs
 |s=>sM L s
def Dq (L:List Nat):List SV->Prop
 |[]=>True
 |s::r=>Hc L s/\Dq L r
def AU (L:List Nat):List Bx->Prop
 |[]=>True
 |⟨_,_,cs⟩::r=>yR L cs/\AU L r
def Lj (st:LS) (L:List Nat) (args:List SV):Prop:=DN L/\vG st.nid L/\Dq L args/\AU L (gI L st.bx)
def sY (nB nV:List Nat) (len:Nat):SV->Prop
 | .v _=>True
 | .box j _=>if j<len then nB.contains j=true else True
 | .vec j _=>if j<len then nV.contains j=true else True
 | .vp j _ _=>if j<len then nV.contains j=true else True
 | .mp j=>if j<len then nB.contains j=true else True
 | .mv _ j _=>if j<len then nB.contains j=true else True
 | .agg _=>True
 | .tup _=>True
def zq (nB nV:List Nat) (len:Nat):List SV->Prop
 |[]=>True
 |s::r=>sY nB nV len s/\zq nB nV len r
def En (nB nV:List Nat) (len:Nat):SV->Prop
 | .agg cs=>zq nB nV len cs
 |s=>sY nB nV len s
def Em (nB nV:List Nat) (len:Nat):List SV->Prop
 |[]=>True
 |s::r=>En nB nV len s/\Em nB nV len r
def HJ (nB nV:List Nat) (len:Nat):SV->Prop
 | .tup l=>Em nB nV len l
 |s=>En nB nV len s
def A4 (nB nV:List Nat) (len:Nat):List Bx->Prop
 |[]=>True
 |⟨k,_,cs⟩::r=>(if k<len then nB.contains k=true else True)/\zq nB nV len cs/\A4 nB nV len r
def A3 (nV:List Nat) (len:Nat):List Vc->Prop
 |[]=>True
 |⟨k,_,_,_,_,_⟩::r=>(if k<len then nV.contains k=true else True)/\A3 nV len r
def AD (nid:Nat) (vc:List Vc):List Bx->Prop
 |[]=>True
 |⟨_,_,cs⟩::r=>fO nid vc cs/\AD nid vc r
def CS (L:List Nat) (fh:List Vc):List Vc->Prop
 |[]=>True
 |⟨k,u,_,_,_,_⟩::r=>(if L.contains k=true then cG fh k u else True)/\CS L fh r
def n7:List Bx->List Nat
 |[]=>[]
 |⟨k,_,_⟩::r=>k::n7 r
def mO:List Vc->List Nat
 |[]=>[]
 |⟨k,_,_,_,_,_⟩::r=>k::mO r
def gO (st:LS) (L:List Nat):Hp:=⟨(gI L st.bx).map (pM (jz L 0)),(fY L st.vc).map (kh (jz L 0))⟩
def RY {L:List Nat} {r:SV} {H' :Hp} (x:A (L,r,H') (LS×LS×Hp)):Prop:=
 match x with
 | .mk (st,ak,Hi)=>HJ (n7 Hi.bx) (mO Hi.vc) L.length r/\A4 (n7 Hi.bx) (mO Hi.vc) L.length H'.bx/\A3 (mO Hi.vc) L.length H'.vc/\
   jA ak.nid ak.vc (vh (fD L st.nid) r)/\AD ak.nid ak.vc (H'.bx.map (pM (fD L st.nid)))/\CS L (H'.vc.map (kh (fD L st.nid))) st.vc
def J6 (st:LS) (L:List Nat) (r:SV) (H' :Hp) (m' :Mem):Prop:=RY (.mk (k:=(L,r,H')) (st,wu st L H' m',gO st L))
def KW {P:Program} {f:FuncId} {st:LS} {args:List SV} {K:SV->LS->Prop} (x:A (P,f,st,args,K) (List Nat)):Prop:=
 match x with
 | .mk L=>Lj st L args/\HL (.mk (k:=(P,f,fun r H' m' =>J6 st L r H' m' /\K (vh (fD L st.nid) r) (wu st L H' m')))
   (args.map (vh (jz L 0)),gO st L,st.m))
def Dg {P:Program} {f:FuncId} {K:SV->LS->Prop} (x:A (P,f,K) (LS×List SV)):Prop:=
 match x with
 | .mk (st,args)=>KW (.mk (k:=(P,f,st,args,K)) (uN st.bx (o5 [] args)))
def Df {P:Program} {f:FuncId} {st:LS} {args:List SV} {K:SV->LS->Prop} (x:A (P,f,st,args,K) Bool):Prop:=
 match x with
 | .mk true=>Dg (.mk (k:=(P,f,K)) (st,args))
 | .mk false=>o4 (.mk (k:=fun jb ak=>Dg (.mk (k:=(P,f,K)) (ak,jb))) (st,args))
def vi (st:LS) (p:bX):List Operand->Option (List SV)
 |[]=>some []
 |x::r=>(cU st p x).bind fun s=>(vi st p r).map (s:: ·)
def pK (sz:Nat) (st:LS) (p:bX):List (Nat×Operand)->List SV->Option (List SV)
 |[],cs=>some cs
 |(i,x)::r,cs=>((cU st p x).bind lQ).bind fun l=>if l.length=sz then(if i * sz+sz<=cs.length then pK sz st p r (lG cs (i * sz) l) else none) else none
def uW (sz:Nat) (st:LS) (p:bX):Nat->List (Nat×Operand)->Option (List SV)
 |_,[]=>some []
 |i,(j,x)::r=>if j=i then((cU st p x).bind lQ).bind fun l=>if l.length=sz then(uW sz st p (i+1) r).map (l++ ·) else none else none
def CI (sz:Nat) (st:LS) (p:bX) (parts:List (Nat×Operand)) (len:Nat) (z:List SV):Option (List SV)->Option (List SV)
 |some cs=>if cs.length=len * sz then some cs else pK sz st p parts (List.replicate len z).flatten
 |none=>pK sz st p parts (List.replicate len z).flatten
def oa:Vc->Nat->List Value->Vc |⟨k,u,e,z,_,_⟩,n,xs=>⟨k,u+1,e,z,n,xs⟩
def room (n xE:Nat):Prop:=n * xE<=140737488355328/\n<=maxLen
def wx {P:Program} {tx:TypeId} {sz:Nat} {K:Nat->List Value->Prop} (x:A (P,tx,sz,K) (LS×SV)):Prop:=
 match x with
 | .mk (st,.vec k u)=>aQ (.mk (k:=fun _:TypeId=>aQ (.mk (k:=fun b:Vc=>b.sz=sz/\K b.n b.xs) (eV st.vc k u))) (iU P tx))
 | .mk (st,.v (.slice a n _))=>aQ (.mk (k:=fun _:TypeId=>∃xs,aX st.m a n sz xs/\(∀u∈xs,u.oneCell' =true)/\K n xs) (iU P tx))
 | .mk (_,.v (.string s))=>P.underlying tx=some .string/\sz=1/\K (tl s).length (j0 (tl s))
 |_=>False
def AS {P:Program} {e tx:TypeId} {y:SV} {K:SV->LS->Prop} (x:A (P,e,tx,y,K) (LS×SV)):Prop:=
 match x with
 | .mk (st,.vec k u)=>aQ (.mk (k:=fun b:Vc=>b.sz=bZ P e/\b.el=e/\0<bZ P e/\aQ (.mk (k:=fun z:List SV=>z.length=bZ P e/\wx (.mk (k:=(P,tx,bZ P e,fun n xs=>room (b.n+n) (oD P e)/\
   K (.vec k (u+1)) ⟨st.env,st.rho,st.bx,pZ st.vc k (oa b (b.n+n) (b.xs++xs)),st.nid,st.m⟩)) (st,y))) (fC P e))) (eV st.vc k u))
 | .mk (st,.v (.slice none 0 0))=>0<bZ P e/\aQ (.mk (k:=fun z:List SV=>z.length=bZ P e/\wx (.mk (k:=(P,tx,bZ P e,fun n xs=>room n (oD P e)/\
   K (.vec st.nid 0) ⟨st.env,st.rho,st.bx,⟨st.nid,0,e,bZ P e,n,xs⟩::st.vc,st.nid+1,st.m⟩)) (st,y))) (fC P e))
 |_=>False
def GG {sz:Nat} {cs:List SV} {K:SV->LS->Prop} (x:A (sz,cs,K) (LS×SV)):Prop:=
 match x with
 | .mk (st,.box k o)=>aQ (.mk (k:=fun b:Bx=>b.ty<oV/\0<sz/\cs.length=sz/\kr cs=true/\fO st.nid st.vc cs/\o+cs.length<=b.cs.length/\K (.v undef) ⟨st.env,st.rho,lg st.bx k (lG b.cs o cs),st.vc,st.nid,st.m⟩) (iD st.bx k))
 |_=>False
def G8 {P:Program} {e:TypeId} {z:List Value} {K:SV->LS->Prop} (x:A (P,e,z,K) (LS×SV×SV)):Prop:=
 match x with
 | .mk (st,.v (.int _ l),.v (.int _ cp))=>0<=l/\l<=cp/\room cp.toNat (oD P e)/\z.length=bZ P e/\0<bZ P e/\kr (z.map .v)=true/\
   K (.vec st.nid 0) ⟨st.env,st.rho,st.bx,⟨st.nid,0,e,bZ P e,l.toNat,(List.replicate l.toNat z).flatten⟩::st.vc,st.nid+1,st.m⟩
 |_=>False
def jv (P:Program) (f:FuncId):Bool:=
 match P.funcs[f]? with
 |some fn=> !(fn.name== "runtime.NumGoroutine")&&fn.body.isSome
 |none=>false
def C5 {c:Cfg} {P:Program} {l:List SV} {K:SV->LS->Prop} (x:A (c,P,l,K) (LS×SV)):Prop:=
 match x with
 | .mk (st,.v (.func (.func f) ⟨[]⟩ ⟨[]⟩))=>jv P f=true/\Df (.mk (k:=(P,f,st,l,K)) (c.own f))
 | .mk (st,.mv f k o)=>jv P f=true/\Df (.mk (k:=(P,f,st,.box k o::l,K)) (c.own f))
 |_=>False
def G7 {f:FuncId} {K:SV->LS->Prop} (x:A (f,K) (LS×SV)):Prop:=
 match x with
 | .mk (st,.box k o)=>K (.mv f k o) st
 |_=>False
def GH {P:Program} {t:TypeId} {K:SV->LS->Prop} (x:A (P,t,K) (LS×SV×Option Value×Option Value)):Prop:=
 match x with
 | .mk (st,.mp k,some key,some v)=>aQ (.mk (k:=fun b:Bx=>(b.ty==(js P t).1)=true/\wH P t/\gW b.ty key/\lF b.ty v/\aQ (.mk (k:=fun l:List Value=>K (.v undef) ⟨st.env,st.rho,lg st.bx k ((wN l key v).map .v),st.vc,st.nid,st.m⟩) (nq b.cs))) (iD st.bx k))
 |_=>False
def ph {c:Cfg} {P:Program} {op:Op} {K:SV->LS->Prop} (x:A (c,P,op,K) (LS×bX)):Prop:=
 match op,x with
 | .alloc t,.mk (st,_)=>aQ (.mk (k:=fun cs:List SV=>t<oV/\fO st.nid st.vc cs/\K (.box st.nid 0) ⟨st.env,st.rho,⟨st.nid,t,cs⟩::st.bx,st.vc,st.nid+1,st.m⟩) (fC P t))
 | .box t x,.mk (st,p)=>aQ (.mk (k:=fun cs:List SV=>t<oV/\fO st.nid st.vc cs/\K (.box st.nid 0) ⟨st.env,st.rho,⟨st.nid,t,cs⟩::st.bx,st.vc,st.nid+1,st.m⟩) ((cU st p x).bind lQ))
 | .store t a x,.mk (st,p)=>aQ (.mk (k:=fun a:SV=>aQ (.mk (k:=fun cs:List SV=>GG (.mk (k:=(bZ P t,cs,K)) (st,a))) ((cU st p x).bind lQ))) (cU st p a))
 | .buildSlice t len parts,.mk (st,p)=>aQ (.mk (k:=fun e:TypeId=>aQ (.mk (k:=fun z:List SV=>z.length=bZ P e/\0<bZ P e/\len * bZ P e<=16777216/\
   aQ (.mk (k:=fun cs:List SV=>mR (.mk (k:=fun ck ak=>aQ (.mk (k:=fun l:List Value=>kr ck=true/\
    K (.vec ak.nid 0) ⟨ak.env,ak.rho,ak.bx,⟨ak.nid,0,e,bZ P e,len,l⟩::ak.vc,ak.nid+1,ak.m⟩) (nq ck))) (st,cs)))
    (CI (bZ P e) st p parts.toList len z (uW (bZ P e) st p 0 parts.toList)))) (fC P e))) (iU P t))
 | .call {callee:= .builtin .append,args:=⟨[s,x]⟩,argTypes:=⟨[t,tx]⟩},.mk (st,p)=>
   aQ (.mk (k:=fun s:SV=>aQ (.mk (k:=fun y:SV=>aQ (.mk (k:=fun e:TypeId=>AS (.mk (k:=(P,e,tx,y,K)) (st,s))) (iU P t))) (cU st p x))) (cU st p s))
 | .makeSlice t l cp,.mk (st,p)=>aQ (.mk (k:=fun l:SV=>aQ (.mk (k:=fun cp:SV=>aQ (.mk (k:=fun e:TypeId=>aQ (.mk (k:=fun z:List Value=>G8 (.mk (k:=(P,e,z,K)) (st,l,cp))) ((fC P e).bind nq))) (iU P t))) (cU st p cp))) (cU st p l))
 | .makeMap t none,.mk (st,_)=>wH P t/\K (.mp st.nid) ⟨st.env,st.rho,⟨st.nid,(js P t).1,[]⟩::st.bx,st.vc,st.nid+1,st.m⟩
 | .makeFunc (.func f) ⟨[r]⟩ ⟨[]⟩,.mk (st,p)=>aQ (.mk (k:=fun s:SV=>G7 (.mk (k:=(f,K)) (st,s))) (cU st p r))
 | .mapUpdate t m k x,.mk (st,p)=>aQ (.mk (k:=fun a:SV=>aQ (.mk (k:=fun i:SV=>aQ (.mk (k:=fun y:SV=>GH (.mk (k:=(P,t,K)) (st,a,pJ i,pJ y))) (cU st p x))) (cU st p k))) (cU st p m))
 | .call {callee:= .value f,args,..},.mk (st,p)=>aQ (.mk (k:=fun l:List SV=>aQ (.mk (k:=fun f:SV=>C5 (.mk (k:=(c,P,l,K)) (st,f))) (cU st p f))) (vi st p args.toList))
 |_,_=>False
inductive OpK where
 |qt
 |pu (F:Mem->List Value->Option (Prop×Value))
 |ac
def pk:Option (Mem->List Value->Option (Prop×Value))->OpK
 |some F=> .pu F
 |none=> .ac
def im (c:Cfg):Op->OpK
 | .move _ | .assign _ | .pick .. | .nilCheck _ | .binOp .. | .unOp .. | .convert .. | .fieldAddr .. | .field .. | .indexAddr .. | .index .. | .slice .. | .load .. | .extract .. | .build .. | .lookup .. => .qt
 | .call {callee:= .builtin .len,..}=> .qt
 | .call {callee:= .builtin .min,..}=> .qt
 | .call {callee:= .builtin .max,..}=> .qt
 | .call {callee:= .value (.func f),..}=>pk (c.pure f)
 |_=> .ac
def z6:Op->List Operand
 | .call {args,..}=>args.toList
 |_=>[]
def Ku {F:List Value->Option (Prop×Value)} {u:Prop->Prop} {K:SV->Prop} (x:A (F,u,K) (Option (List SV))):Prop:=
 match x with
 | .mk l=>aQ (.mk (k:=fun y:Prop×Value=>u y.1/\K (.v y.2)) ((l.bind xT).bind F))
/-! A region, in the order of the text. -/
def lZ:List Gd->Nat->Bool->List Gd
 |[],_,_=>[]
 |⟨i',t',p',b'⟩::r,j,x=>if i' =j then⟨i',t',p',.lit x⟩::lZ r j x else⟨i',t',p',b'⟩::lZ r j x
def rW {j:Nat} {w:Bool} {dead live:LS->Prop} (x:A (j,w,dead,live) (LS×Gd)):Prop:=
 match w,x with
 |true,.mk (st,⟨_,t,q,.sym b⟩)=>
   (b=true->live ⟨⟨t,q,.v (.bool true)⟩::st.env,lZ st.rho j true,st.bx,st.vc,st.nid,st.m⟩)/\
   (b=false->dead ⟨⟨t,q,.v (.bool false)⟩::st.env,lZ st.rho j false,st.bx,st.vc,st.nid,st.m⟩)
 |false,.mk (st,⟨_,t,q,.sym b⟩)=>
   (b=false->live ⟨⟨t,q,.v (.bool false)⟩::st.env,lZ st.rho j false,st.bx,st.vc,st.nid,st.m⟩)/\
   (b=true->dead ⟨⟨t,q,.v (.bool true)⟩::st.env,lZ st.rho j true,st.bx,st.vc,st.nid,st.m⟩)
 |true,.mk (st,⟨_,_,_,.lit true⟩)=>live st
 |false,.mk (st,⟨_,_,_,.lit false⟩)=>live st
 |true,.mk (st,⟨_,_,_,.lit false⟩)=>dead st
 |false,.mk (st,⟨_,_,_,.lit true⟩)=>dead st
def F3:bX->(LS->Prop)->(LS->Prop)->LS->Prop
 |[],_,live,st=>live st
 |(j,w)::p,dead,live,st=>F3 p dead (fun ak=>aQ (.mk (k:=fun g:Gd=>rW (.mk (k:=(j,w,dead,live)) (ak,g))) (gP ak.rho j))) st
def Gv {dead live:LS->Prop} (x:A (dead,live) (LS×bX)):Prop:=match x with | .mk (st,p)=>F3 p dead live st
def put (st:LS) (d:Option Nat) (p:bX) (s:SV):LS:=
 match d with
 |some d=>⟨⟨d,p,s⟩::st.env,st.rho,st.bx,st.vc,st.nid,st.m⟩
 |none=>st
def mL (st:LS) (i:Nat) (d:Option Nat) (p:bX) (mv:Bool) (s:SV):LS:=
 match mv,d,s with
 |true,some d,.v (.bool b)=>⟨st.env,⟨i,d,p,.sym b⟩::st.rho,st.bx,st.vc,st.nid,st.m⟩
 |_,_,_=>st
def oP:Op->Bool
 | .move _=>true
 |_=>false
def pathOf (st:LS):Option (Nat×Bool)->Option bX
 |none=>some []
 |some (j,w)=>(gP st.rho j).map fun g=>(j,w)::g.p
def mM (st:LS) (i:Nat) (d:Option Nat) (p:bX) (mv:Bool):LS:=
 match mv,d with
 |true,some d=>⟨st.env,⟨i,d,p,.sym false⟩::st.rho,st.bx,st.vc,st.nid,st.m⟩
 |_,_=>st
def yw {c:Cfg} {P:Program} {i:Nat} {o:Oper} {K:LS->Prop} {q:OpK} {dead:Bool} (x:A (c,P,i,o,K,q,dead) (LS×bX)):Prop:=
 match dead,q,x with
 |true,_,.mk (st,p)=>K (mM (put st o.dst p (.v undef)) i o.dst p (oP o.op))
 |false,.qt,.mk (st,p)=>qOp (.mk (k:=(P,o.op,fun s=>jA st.nid st.vc s/\K (mL (put st o.dst p s) i o.dst p (oP o.op) s))) (st,p))
 |false,.pu F,.mk (st,p)=>Ku (.mk (k:=(F st.m,qb st p,fun s=>K (put st o.dst p s))) (vi st p (z6 o.op)))
 |false,.ac,.mk (st,p)=>Gv (.mk (k:=(fun ak=>K (put ak o.dst p (.v undef)),fun ak=>ph (.mk (k:=(c,P,o.op,fun s lV=>jA lV.nid lV.vc s/\K (put lV o.dst p s))) (ak,p)))) (st,p))
def kK:List Gd->Option Nat->Bool
 |[],_=>false
 |_::_,none=>false
 |⟨_,t',_,_⟩::r,some d=>if t' =d then true else kK r (some d)
def Dm {c:Cfg} {P:Program} {i:Nat} {o:Oper} {K:LS->Prop} {st:LS} {p:bX} (x:A (c,P,i,o,K,st,p) (OpK×Bool×Bool)):Prop:=
 match x with
 | .mk (q,dead,false)=>yw (.mk (k:=(c,P,i,o,K,q,dead)) (st,p))
 | .mk (_,_,true)=>False
def one {c:Cfg} {P:Program} {i:Nat} {o:Oper} {K:LS->Prop} (x:A (c,P,i,o,K) (LS×bX)):Prop:=
 match x with
 | .mk (st,p)=>Dm (.mk (k:=(c,P,i,o,K,st,p)) (im c o.op,wG st.rho p,kK st.rho o.dst))
def jr:List Nat->Nat->Bool
 |[],_=>false
 |y::r,x=>if y=x then true else jr r x
def nW:List Nat->List Ev->List Ev
 |_,[]=>[]
 |dead,⟨t,[],s⟩::r=>if jr dead t=true then nW dead r else⟨t,[],s⟩::nW dead r
 |dead,⟨t,_::_,_⟩::r=>nW (t::dead) r
def clean (st:LS):LS:=⟨nW [] st.env,[],st.bx,st.vc,st.nid,st.m⟩
def Dk (c:Cfg) (P:Program):List Oper->Nat->(LS->Prop)->LS->Prop
 |[],_,K,st=>K (clean st)
 |o::r,i,K,st=>aQ (.mk (k:=fun p:bX=>one (.mk (k:=(c,P,i,o,fun ak=>Dk c P r (i+1) K ak)) (st,p))) (pathOf st o.guard))
def A7 {c:Cfg} {P:Program} {i:Nat} {l:List Oper} {K:LS->Prop} (x:A (c,P,i,l,K) LS):Prop:=match x with | .mk st=>Dk c P l i K st
/-! Code. -/
def tv:SV->Option Bool
 | .v (.bool b)=>some b
 |_=>none
def mS:Code->Bool
 | .ret | .exit _ | .goto _ | .loop _=>false
 | .seq a b=>mS a&&mS b
 | .cond _ a b=>mS a||mS b
 |_=>true
def kf (K:LS->Prop) (Q:Exit->LS->Prop):Exit->LS->Prop
 | .normal,st=>K st
 |e,st=>Q e st
def C6 (l:Nat) (J:LS->Prop) (Q:Exit->LS->Prop):Exit->LS->Prop
 | .goto l',st=>l' =l/\J st
 |e,st=>Q e st
def qy (id:Nat) (Q:Exit->LS->Prop):Exit->LS->Prop
 | .exit id',st=>if id' =id then Q .normal st else Q (.exit id') st
 |e,st=>Q e st
def nE (c:Cfg) (P:Program) (n:Nat):Code->(Exit->LS->Prop)->LS->Prop
 | .skip,Q,st=>Q .normal st
 | .region _ ⟨ops⟩ false,Q,st=>A7 (.mk (k:=(c,P,0,ops,Q .normal)) st)
 | .seq (.cond x a b) rest,Q,st=>
  match mS a&&mS b with
  |true=>kA (.mk (k:=(P,n,.seq (.cond x a b) rest,Q)) st)
  |false=>aQ (.mk (k:=fun t:Bool=>(t=true->nE c P n a (kf (nE c P n rest Q) Q) st)/\(t=false->nE c P n b (kf (nE c P n rest Q) Q) st)) ((cU st [] x).bind tv))
 | .seq a b,Q,st=>nE c P n a (kf (nE c P n b Q) Q) st
 | .cond x a b,Q,st=>aQ (.mk (k:=fun t:Bool=>(t=true->nE c P n a Q st)/\(t=false->nE c P n b Q st)) ((cU st [] x).bind tv))
 | .block id a,Q,st=>nE c P n a (qy id Q) st
 | .exit id,Q,st=>Q (.exit id) st
 | .ret,Q,st=>Q .ret st
 | .label _,Q,st=>Q .normal st
 | .goto l,Q,st=>Q (.goto l) st
 |x,Q,st=>kA (.mk (k:=(P,n,x,Q)) st)
def ed {c:Cfg} {P:Program} {n:Nat} {x:Code} {Q:Exit->LS->Prop} (y:A (c,P,n,x,Q) LS):Prop:=match y with | .mk st=>nE c P n x Q st
def LJ {c:Cfg} {P:Program} {n:Nat} {t e:Code} {Q:Exit->LS->Prop} {st:LS} (y:A (c,P,n,t,e,Q,st) Bool):Prop:=
 match y with
 | .mk b=>(b=true->ed (.mk (k:=(c,P,n,t,Q)) st))/\(b=false->ed (.mk (k:=(c,P,n,e,Q)) st))
/-! Results, loops, joins. -/
def yt:List SV->SV
 |[x]=>x
 |l=> .tup l
def Gx (P:Program) (st:LS) (t:TypeId):Option SV->Option SV
 |some (.box k o)=>(iD st.bx k).bind fun b=>if b.ty<oV then(eU P t).bind fun ag=>wz b.cs o ag else none
 |_=>none
def p7 (P:Program) (st:LS):List ResultVar->Option (List SV)
 |[]=>some []
 | .tmp t::r=>((gi st.env t []).bind nY).bind fun s=>(p7 P st r).map (s:: ·)
 | .cell a t::r=>((Gx P st t (gi st.env a [])).bind nY).bind fun s=>(p7 P st r).map (s:: ·)
def Ly {st:LS} {l:List SV} {R:SV->Hp->Mem->Prop} (x:A (st,l,R) (List Nat)):Prop:=
 match x with
 | .mk L=>R (yt l) ⟨gI L st.bx,fY L st.vc⟩ st.m
def A0 (P:Program) (res:List ResultVar) (vr:List Nat) (R:SV->Hp->Mem->Prop):Exit->LS->Prop
 | .ret,st=>aQ (.mk (k:=fun l:List SV=>Ly (.mk (k:=(st,l,R)) (uN st.bx (o5 vr l)))) (p7 P st res))
 | .normal,st=>aQ (.mk (k:=fun l:List SV=>Ly (.mk (k:=(st,l,R)) (uN st.bx (o5 vr l)))) (p7 P st res))
 |_,_=>False
def vz (i:Nat):List SV->List Ev
 |[]=>[]
 |s::r=>⟨i,[],s⟩::vz (i+1) r
def AW (H:Hp):List Nat:=H.bx.map (·.id)++H.vc.map (·.id)
def DF (args:List SV) (H:Hp) (m:Mem):LS:=⟨vz 0 args,[],H.bx,H.vc,max (oe H.bx) (od H.vc),m⟩
/-! What a function starts from; the head of a loop. -/
def Dn (nid:Nat) (vc:List Vc):List SV->Prop
 |[]=>True
 |s::r=>jA nid vc s/\Dn nid vc r
def FY (args:List SV) (H:Hp):Prop:=Dn (max (oe H.bx) (od H.vc)) H.vc args/\AD (max (oe H.bx) (od H.vc)) H.vc H.bx
def Dp (nid:Nat) (vc:List Vc):List Ev->Prop
 |[]=>True
 |⟨_,_,s⟩::r=>jA nid vc s/\Dp nid vc r
def AP (nid:Nat) (vc:List Vc):List Bx->Prop
 |[]=>True
 |⟨k,_,cs⟩::r=>k<nid/\fO nid vc cs/\AP nid vc r
def AO (nid:Nat):List Vc->Prop
 |[]=>True
 |⟨k,_,_,_,_,_⟩::r=>k<nid/\AO nid r
def p8 (st:LS):Prop:=Dp st.nid st.vc st.env/\AP st.nid st.vc st.bx/\AO st.nid st.vc
def AQ (st:LS):List Ev->Prop
 |[]=>True
 |⟨t,p,s⟩::r=>gi st.env t []=some s/\p=[]/\AQ st r
def sK (st:LS):List Bx->Prop
 |[]=>True
 |⟨k,t,cs⟩::r=>iD st.bx k=some ⟨k,t,cs⟩/\iD r k=none/\sK st r
def sJ (st:LS):List Vc->Prop
 |[]=>True
 |⟨k,u,e,z,n,xs⟩::r=>nH st.vc k=some ⟨k,u,e,z,n,xs⟩/\nH r k=none/\sJ st r
def ae (m m' :Mem):Prop:=m=m' \/m.le m'
theorem aa8 (m:Mem):ae m m=True:=eq_true (.inl rfl)
def Match (st ak:LS):Prop:=AQ st ak.env/\ak.rho=[]/\sK st ak.bx/\sJ st ak.vc/\ae ak.m st.m
section
variable {c:Cfg} {P:Program} {n i:Nat}
theorem acn {K:LS->Prop} {st:LS}:A7 (.mk (k:=(c,P,i,[],K)) st)=K (clean st):=rfl
theorem Z1 {K:LS->Prop} {st:LS} {o:Oper} {r:List Oper}:A7 (.mk (k:=(c,P,i,o::r,K)) st)=
  aQ (.mk (k:=fun p:bX=>one (.mk (k:=(c,P,i,o,fun ak=>A7 (.mk (k:=(c,P,i+1,r,K)) ak))) (st,p))) (pathOf st o.guard)):=rfl
theorem aaO {K:List SV->LS->Prop} {st:LS}:mR (.mk (k:=K) (st,[]))=K [] st:=rfl
theorem aaN {K:List SV->LS->Prop} {st:LS} {k u:Nat} {r:List SV}:mR (.mk (k:=K) (st,.vec k u::r))=
  aQ (.mk (k:=fun b:Vc=>Gy (.mk (k:=(st,fun v ak=>mR (.mk (k:=fun r' lV=>K (.v v::r') lV) (ak,r)))) b)) (eV st.vc k u)):=rfl
theorem aeR {K:List SV->LS->Prop} {st:LS} {x:Value} {r:List SV}:mR (.mk (k:=K) (st,.v x::r))=mR (.mk (k:=fun r' ak=>K (.v x::r') ak) (st,r)):=rfl
theorem aaP {K:List SV->LS->Prop} {st:LS} {k u:Nat} {r:List SV}:mR (.mk (k:=K) (st,.box k u::r))=mR (.mk (k:=fun r' ak=>K (.box k u::r') ak) (st,r)):=rfl
theorem acL {K:List SV->LS->Prop} {st:LS} {k u o:Nat} {r:List SV}:mR (.mk (k:=K) (st,.vp k u o::r))=mR (.mk (k:=fun r' ak=>K (.vp k u o::r') ak) (st,r)):=rfl
theorem acN {K:List SV->LS->Prop} {st:LS} {k:Nat} {r:List SV}:mR (.mk (k:=K) (st,.mp k::r))=mR (.mk (k:=fun r' ak=>K (.mp k::r') ak) (st,r)):=rfl
theorem acM {K:List SV->LS->Prop} {st:LS} {f:FuncId} {k o:Nat} {r:List SV}:mR (.mk (k:=K) (st,.mv f k o::r))=mR (.mk (k:=fun r' ak=>K (.mv f k o::r') ak) (st,r)):=rfl
theorem acK {K:List SV->LS->Prop} {st:LS} {k:Nat} {r:List SV}:o4 (.mk (k:=K) (st,.mp k::r))=o4 (.mk (k:=fun r' ak=>K (.mp k::r') ak) (st,r)):=rfl
theorem acJ {K:List SV->LS->Prop} {st:LS} {f:FuncId} {k o:Nat} {r:List SV}:o4 (.mk (k:=K) (st,.mv f k o::r))=o4 (.mk (k:=fun r' ak=>K (.mv f k o::r') ak) (st,r)):=rfl
theorem aaK {K:List SV->LS->Prop} {st:LS}:o4 (.mk (k:=K) (st,[]))=K [] st:=rfl
theorem aaM {K:List SV->LS->Prop} {st:LS} {cs r:List SV}:o4 (.mk (k:=K) (st,.agg cs::r))=
  mR (.mk (k:=fun ck ak=>o4 (.mk (k:=fun r' lV=>K (.agg ck::r') lV) (ak,r))) (st,cs)):=rfl
theorem aeQ {K:List SV->LS->Prop} {st:LS} {x:Value} {r:List SV}:o4 (.mk (k:=K) (st,.v x::r))=o4 (.mk (k:=fun r' ak=>K (.v x::r') ak) (st,r)):=rfl
theorem aaL {K:List SV->LS->Prop} {st:LS} {k u:Nat} {r:List SV}:o4 (.mk (k:=K) (st,.box k u::r))=o4 (.mk (k:=fun r' ak=>K (.box k u::r') ak) (st,r)):=rfl
theorem aaJ {K:List SV->LS->Prop} {st:LS} {k u:Nat} {r:List SV}:o4 (.mk (k:=K) (st,.vec k u::r))=
  aQ (.mk (k:=fun b:Vc=>Gy (.mk (k:=(st,fun v ak=>o4 (.mk (k:=fun r' lV=>K (.v v::r') lV) (ak,r)))) b)) (eV st.vc k u)):=rfl
theorem Zw {dead live:LS->Prop} {st:LS}:Gv (.mk (k:=(dead,live)) (st,[]))=live st:=rfl
theorem Yp {dead live:LS->Prop} {st:LS} {j:Nat} {w:Bool} {p:bX}:Gv (.mk (k:=(dead,live)) (st,(j,w)::p))=
  Gv (.mk (k:=(dead,fun ak=>aQ (.mk (k:=fun g:Gd=>rW (.mk (k:=(j,w,dead,live)) (ak,g))) (gP ak.rho j)))) (st,p)):=rfl
variable {Q:Exit->LS->Prop} {st:LS}
theorem Z2:ed (.mk (k:=(c,P,n,.skip,Q)) st)=Q .normal st:=rfl
theorem XD {id:Nat} {l:List Oper}:ed (.mk (k:=(c,P,n,.region id ⟨l⟩ false,Q)) st)=A7 (.mk (k:=(c,P,0,l,Q .normal)) st):=rfl
theorem aae {id:Nat} {l:Array Oper}:ed (.mk (k:=(c,P,n,.region id l true,Q)) st)=kA (.mk (k:=(P,n,.region id l true,Q)) st):=by cases l;rfl
theorem aab {x:Operand} {t e rest:Code} (h:(mS t&&mS e)=true):ed (.mk (k:=(c,P,n,.seq (.cond x t e) rest,Q)) st)=kA (.mk (k:=(P,n,.seq (.cond x t e) rest,Q)) st):=by
 simp only[ed,nE,h]
theorem aeu {x:Operand} {t e rest:Code} (h:(mS t&&mS e)=false):ed (.mk (k:=(c,P,n,.seq (.cond x t e) rest,Q)) st)=
  aQ (.mk (k:=fun b:Bool=>LJ (.mk (k:=(c,P,n,t,e,kf (fun ak=>ed (.mk (k:=(c,P,n,rest,Q)) ak)) Q,st)) b)) ((cU st [] x).bind tv)):=by
 simp only[ed,nE,h];rfl
theorem Z4 {id:Nat} {l:Array Oper} {d:Bool} {b:Code}:ed (.mk (k:=(c,P,n,.seq (.region id l d) b,Q)) st)=ed (.mk (k:=(c,P,n,.region id l d,kf (fun ak=>ed (.mk (k:=(c,P,n,b,Q)) ak)) Q)) st):=rfl
theorem Z8 {id:Nat} {a b:Code}:ed (.mk (k:=(c,P,n,.seq (.block id a) b,Q)) st)=ed (.mk (k:=(c,P,n,.block id a,kf (fun ak=>ed (.mk (k:=(c,P,n,b,Q)) ak)) Q)) st):=rfl
theorem Z3 {x y b:Code}:ed (.mk (k:=(c,P,n,.seq (.seq x y) b,Q)) st)=ed (.mk (k:=(c,P,n,.seq x y,kf (fun ak=>ed (.mk (k:=(c,P,n,b,Q)) ak)) Q)) st):=rfl
theorem Z7 {x b:Code}:ed (.mk (k:=(c,P,n,.seq (.loop x) b,Q)) st)=kA (.mk (k:=(P,n,.loop x,kf (fun ak=>ed (.mk (k:=(c,P,n,b,Q)) ak)) Q)) st):=rfl
theorem Z5 {x b:Code}:ed (.mk (k:=(c,P,n,.seq (.scope x) b,Q)) st)=kA (.mk (k:=(P,n,.scope x,kf (fun ak=>ed (.mk (k:=(c,P,n,b,Q)) ak)) Q)) st):=rfl
theorem Z6 {b:Code}:ed (.mk (k:=(c,P,n,.seq .skip b,Q)) st)=ed (.mk (k:=(c,P,n,b,Q)) st):=rfl
theorem aaf {x:Operand} {t e:Code}:ed (.mk (k:=(c,P,n,.cond x t e,Q)) st)=
  aQ (.mk (k:=fun b:Bool=>LJ (.mk (k:=(c,P,n,t,e,Q,st)) b)) ((cU st [] x).bind tv)):=rfl
theorem YK {id:Nat} {a:Code}:ed (.mk (k:=(c,P,n,.block id a,Q)) st)=ed (.mk (k:=(c,P,n,a,qy id Q)) st):=rfl
theorem aaa {a:Code}:ed (.mk (k:=(c,P,n,.loop a,Q)) st)=kA (.mk (k:=(P,n,.loop a,Q)) st):=rfl
theorem YI {a:Code}:ed (.mk (k:=(c,P,n,.scope a,Q)) st)=kA (.mk (k:=(P,n,.scope a,Q)) st):=rfl
theorem aad {id:Nat}:ed (.mk (k:=(c,P,n,.exit id,Q)) st)=Q (.exit id) st:=rfl
theorem YJ {l:Nat}:ed (.mk (k:=(c,P,n,.label l,Q)) st)=Q .normal st:=rfl
theorem aac {l:Nat}:ed (.mk (k:=(c,P,n,.goto l,Q)) st)=Q (.goto l) st:=rfl
theorem Z9 {l:Nat} {b:Code}:ed (.mk (k:=(c,P,n,.seq (.label l) b,Q)) st)=ed (.mk (k:=(c,P,n,b,Q)) st):=rfl
theorem aco:ed (.mk (k:=(c,P,n,.ret,Q)) st)=Q .ret st:=rfl
end
attribute [go_sem] GB.val.eq_1 GB.val.eq_2 oV.eq_1 qD.eq_1 qD.eq_2 qD.eq_3 oy.eq_1 oy.eq_2 gi.eq_1 gi.eq_2 gP.eq_1 gP.eq_2 AR.eq_1 AR.eq_2 iD.eq_1 iD.eq_2 eV.eq_1 eV.eq_2 o7.eq_1 cI.eq_1 cI.eq_2 yo.eq_1 yo.eq_2 yo.eq_3 wG.eq_1 wG.eq_2 qb.eq_1 cU.eq_1 cU.eq_2 cU.eq_3 cU.eq_4 aQ.eq_1 aQ.eq_2 arith.eq_1 arith.eq_2 jO.eq_1 jO.eq_2 jO.eq_3 jO.eq_4 jO.eq_5 jO.eq_6 jO.eq_7 jO.eq_8 jO.eq_9 jO.eq_10 jO.eq_11 jO.eq_12 jO.eq_13 jO.eq_14 jO.eq_15 jO.eq_16 jO.eq_17 sj.eq_1 sj.eq_2 sj.eq_3 sj.eq_4 sj.eq_5 sj.eq_6 nX.eq_1 nX.eq_2 nX.eq_3 nX.eq_4 ix.eq_1 ix.eq_2 ix.eq_3 oq.eq_1 oq.eq_2 oq.eq_3 oq.eq_4 jw.eq_1 jw.eq_2 jw.eq_3 wU.eq_1 wU.eq_2 lQ.eq_1 lQ.eq_2 lQ.eq_3 lQ.eq_4 lQ.eq_5 pz.eq_1 pz.eq_2 pz.eq_3 qO.eq_1 qO.eq_2 qO.eq_3 qN.eq_1 qN.eq_2 qN.eq_3 qN.eq_4 qN.eq_5 qN.eq_6 wg.eq_1 wg.eq_2 vq.eq_1 vq.eq_2 vq.eq_3 vq.eq_4 vq.eq_5 vq.eq_6 tJ.eq_1 tJ.eq_2 tJ.eq_3 tJ.eq_4 tJ.eq_5 tJ.eq_6 tJ.eq_7 tJ.eq_8 wz.eq_1 wz.eq_2 lG.eq_1 lG.eq_2 CX.eq_1 CX.eq_2 CX.eq_3 vd.eq_1 vd.eq_2 vd.eq_3 vd.eq_4 rH.eq_1 rH.eq_2 rH.eq_3 yv.eq_1 yv.eq_2 wo.eq_1 wo.eq_2 vj.eq_1 vj.eq_2 vj.eq_3 vD.eq_1 vD.eq_2 vD.eq_3 wA.eq_1 wA.eq_2 rO.eq_1 rO.eq_2 C6.eq_1 C6.eq_2 rS.eq_1 rS.eq_2 rS.eq_3 rS.eq_4 rS.eq_5 tP.eq_1 tP.eq_2 tP.eq_3 tP.eq_4 vn.eq_1 vn.eq_2 vn.eq_3 xd.eq_1 xd.eq_2 Lg.eq_1 vE.eq_1 vE.eq_2 vE.eq_3 yN.eq_1 yN.eq_2 yu.eq_1 yu.eq_2 vm.eq_1 vm.eq_2 vm.eq_3 vm.eq_4 vk.eq_1 vk.eq_2 pN.eq_1 pN.eq_2 pN.eq_3 pN.eq_4 nY.eq_1 nY.eq_2 nY.eq_3 nY.eq_4 nY.eq_5 nY.eq_6 nY.eq_7 nY.eq_8 vo.eq_1 vo.eq_2 vo.eq_3 tO.eq_1 tO.eq_2 tO.eq_3 tO.eq_4 wL.eq_1 wL.eq_2 wM.eq_1 wM.eq_2 wB.eq_1 wB.eq_2 vb.eq_1 vb.eq_2 vb.eq_3 qOp.eq_1 qOp.eq_2 qOp.eq_3 qOp.eq_4 qOp.eq_5 qOp.eq_6 qOp.eq_7 qOp.eq_8 qOp.eq_9 qOp.eq_10 qOp.eq_11 qOp.eq_12 qOp.eq_13 qOp.eq_14 qOp.eq_15 qOp.eq_16 qOp.eq_17 qOp.eq_18 qOp.eq_19 qOp.eq_20 qOp.eq_21 qOp.eq_22 plain.eq_1 plain.eq_2 nq.eq_1 nq.eq_2 pJ.eq_1 pJ.eq_2 pJ.eq_3 xT.eq_1 xT.eq_2 kr.eq_1 kr.eq_2 kr.eq_3 kr.eq_4 kr.eq_5 kr.eq_6 kr.eq_7 kr.eq_8 kr.eq_9 lg.eq_1 lg.eq_2 pZ.eq_1 pZ.eq_2 Lb.eq_1 Lb.eq_2 Gy.eq_1 AL.eq_1 ll.eq_1 ll.eq_2 ll.eq_3 ll.eq_4 ll.eq_5 ll.eq_6 ll.eq_7 ll.eq_8 ll.eq_9 cellsOf.eq_1 cellsOf.eq_2 o5.eq_1 o5.eq_2 o5.eq_3 AV.eq_1 AV.eq_2 uN.eq_1 idxOf.eq_1 idxOf.eq_2 jz.eq_1 fD.eq_1 nF.eq_1 nF.eq_2 nF.eq_3 nF.eq_4 nF.eq_5 nF.eq_6 nF.eq_7 nF.eq_8 AM.eq_1 AM.eq_2 vh.eq_1 vh.eq_2 pM.eq_1 kh.eq_1 nH.eq_1 nH.eq_2 gI.eq_1 gI.eq_2 fY.eq_1 fY.eq_2 nU.eq_1 nU.eq_2 ns.eq_1 ns.eq_2 oe.eq_1 oe.eq_2 od.eq_1 od.eq_2 wu.eq_1 DN.eq_1 DN.eq_2 vG.eq_1 vG.eq_2 sM.eq_1 sM.eq_2 sM.eq_3 sM.eq_4 sM.eq_5 sM.eq_6 sM.eq_7 sM.eq_8 yR.eq_1 yR.eq_2 Hc.eq_1 Hc.eq_2 Dq.eq_1 Dq.eq_2 AU.eq_1 AU.eq_2 Lj.eq_1 sY.eq_1 sY.eq_2 sY.eq_3 sY.eq_4 sY.eq_5 sY.eq_6 sY.eq_7 sY.eq_8 zq.eq_1 zq.eq_2 En.eq_1 En.eq_2 Em.eq_1 Em.eq_2 HJ.eq_1 HJ.eq_2 A4.eq_1 A4.eq_2 A3.eq_1 A3.eq_2 AD.eq_1 AD.eq_2 CS.eq_1 CS.eq_2 n7.eq_1 n7.eq_2 mO.eq_1 mO.eq_2 gO.eq_1 RY.eq_1 J6.eq_1 cG.eq_1 cG.eq_2 mf.eq_1 mf.eq_2 mf.eq_3 mf.eq_4 mf.eq_5 mf.eq_6 mf.eq_7 mf.eq_8 fO.eq_1 fO.eq_2 okB.eq_1 okB.eq_2 yP.eq_1 yP.eq_2 jA.eq_1 jA.eq_2 KW.eq_1 Dg.eq_1 Df.eq_1 Df.eq_2 vi.eq_1 vi.eq_2 pK.eq_1 pK.eq_2 uW.eq_1 uW.eq_2 CI.eq_1 CI.eq_2 oa.eq_1 wx.eq_1 wx.eq_2 wx.eq_3 wx.eq_4 AS.eq_1 AS.eq_2 AS.eq_3 GG.eq_1 GG.eq_2 G8.eq_1 G8.eq_2 GH.eq_1 GH.eq_2 G7.eq_1 G7.eq_2 C5.eq_1 C5.eq_2 C5.eq_3 ph.eq_1 ph.eq_2 ph.eq_3 ph.eq_4 ph.eq_5 ph.eq_6 ph.eq_7 ph.eq_8 ph.eq_9 ph.eq_10 ph.eq_11 pk.eq_1 pk.eq_2 im.eq_1 im.eq_2 im.eq_3 im.eq_4 im.eq_5 im.eq_6 im.eq_7 im.eq_8 im.eq_9 im.eq_10 im.eq_11 im.eq_12 im.eq_13 im.eq_14 im.eq_15 im.eq_16 im.eq_17 im.eq_18 im.eq_19 im.eq_20 im.eq_21 z6.eq_1 z6.eq_2 Ku.eq_1 lZ.eq_1 lZ.eq_2 rW.eq_1 rW.eq_2 rW.eq_3 rW.eq_4 rW.eq_5 rW.eq_6 put.eq_1 put.eq_2 mL.eq_1 mL.eq_2 mM.eq_1 mM.eq_2 oP.eq_1 oP.eq_2 kK.eq_1 kK.eq_2 kK.eq_3 pathOf.eq_1 pathOf.eq_2 yw.eq_1 yw.eq_2 yw.eq_3 yw.eq_4 Dm.eq_1 Dm.eq_2 one.eq_1 jr.eq_1 jr.eq_2 nW.eq_1 nW.eq_2 nW.eq_3 clean.eq_1 tv.eq_1 tv.eq_2 mS.eq_1 mS.eq_2 mS.eq_3 mS.eq_4 mS.eq_5 mS.eq_6 mS.eq_7 kf.eq_1 kf.eq_2 qy.eq_1 qy.eq_2 LJ.eq_1 yt.eq_1 yt.eq_2 Gx.eq_1 Gx.eq_2 p7.eq_1 p7.eq_2 p7.eq_3 Ly.eq_1 A0.eq_1 A0.eq_2 A0.eq_3 vz.eq_1 vz.eq_2 AW.eq_1 DF.eq_1 Dn.eq_1 Dn.eq_2 FY.eq_1 Dp.eq_1 Dp.eq_2 AP.eq_1 AP.eq_2 AO.eq_1 AO.eq_2 p8.eq_1 AQ.eq_1 AQ.eq_2 sK.eq_1 sK.eq_2 sJ.eq_1 sJ.eq_2 Match.eq_1 acn Z1 aaO aaN aeR aaP acL acN acM acK acJ aaK aaM aeQ aaL aaJ Zw Yp Z2 XD aae aab aeu Z4 Z8 Z3 Z7 Z5 Z6 aaf YK aaa YI aad aco aa8 YJ aac Z9 ae4 Tr ae3 aex aew aev
theorem fq (V:Vl) (x:Value):den V (.v x)=x:=rfl
theorem Ah (V:Vl) (k o:Nat):den V (.box k o)= .pointer (some ⟨V.β k,o,none⟩):=rfl
theorem JX (V:Vl) (cs:List SV):den V (.agg cs)= .agg ⟨cs.map (bL V)⟩:=rfl
theorem ad5 (V:Vl) (cs:List SV):den V (.tup cs)= .tuple ⟨cs.map (nM V)⟩:=rfl
theorem AE (V:Vl) (l:List Value):(l.map SV.v).map (bL V)=l:=by
 induction l with
 |nil=>rfl
 |cons x l ih=>simp only[bJ,ih];rfl
theorem Ez {V:Vl} {s:SV} {cs:List SV} (h:lQ s=some cs):(den V s).cells=⟨cs.map (bL V)⟩:=by
 cases s with
 |agg l=>simp only[lQ,dY] at h;subst h;rfl
 |tup l=>simp [lQ] at h
 |v x=>
  cases x with
  |agg a=>obtain⟨l⟩:=a;simp only[lQ,dY] at h;subst h;simp only[AE];rfl
  |tuple a=>simp [lQ] at h
  |_=>simp only[lQ,dY] at h;subst h;rfl
 |_=>simp only[lQ,dY] at h;subst h;rfl
/-! Paths. -/
theorem FK {rho:List Gd} {j:Nat} {w:Bool} {g:Gd} (h:gP rho j=some g):o7 rho j w=(if w=true then g.b.val else !g.b.val):=by
 unfold o7;rw[h]
theorem Gm {rho:List Gd} {i:Nat} {g:Gd} (h:gP rho i=some g):g.i=i/\g∈rho:=by
 induction rho with
 |nil=>cases h
 |cons x r ih=>
  obtain⟨i',t',p',b'⟩:=x;simp only[gP] at h;split at h
  ·rename_i e;cases h;exact⟨e,b6 ..⟩
  ·exact⟨(ih h).1,bR _ (ih h).2⟩
theorem Jg:∀{p q:bX},qD p q=true->p=q
 |[],[],_=>rfl
 |(j,w)::p,(k,u)::q,h=>by
  simp only[qD] at h;split at h
  ·split at h
   ·rename_i e e';subst e;subst e';rw[Jg h]
   ·cases h
  ·cases h
 |[],_::_,h=>by simp [qD] at h
 |_::_,[],h=>by simp [qD] at h
theorem PS {p:bX}:∀{q:bX},oy p q=true->∃r,q=r++p
 |[],h=>⟨[],by simp only[oy] at h;rw[Jg h];rfl⟩
 |x::q,h=>by
  simp only[oy] at h;split at h
  ·rename_i e;exact⟨[],by rw[Jg e];rfl⟩
  ·obtain⟨r,hr⟩:=PS h;exact⟨x::r,by rw[hr];rfl⟩
theorem Pq {rho:List Gd}:∀{p q:bX},cI rho (p++q)=(cI rho p&&cI rho q)
 |[],q=>by simp [cI]
 |(j,w)::p,q=>by simp [cI,Pq (p:=p),Bool.and_assoc]
theorem E6 {rho:List Gd} {p q:bX} (h:oy p q=true) (hq:cI rho q=true):cI rho p=true:=by
 obtain⟨r,rfl⟩:=PS h;rw[Pq,aG] at hq;exact hq.2
theorem rG {rho:List Gd}:gz rho []:=fun _ h=>by cases h
theorem E4 {rho:List Gd}:∀{p:bX},wG rho p=true->cI rho p=false
 |[],h=>by simp [wG] at h
 |(j,w)::p,h=>by
  simp only[wG] at h;split at h
  ·rename_i e;simp only[cI,Bool.and_eq_false_iff];refine .inl ?_;cases hg:gP rho j with
   |none=>rw[hg] at e;cases w<;>simp [yo] at e
   |some g=>
    rw[hg] at e;rw[FK hg];obtain⟨i',t',p',b'⟩:=g;cases b' with
    |lit b=>cases b<;>cases w<;>simp_all [yo,GB.val]
    |sym b=>cases w<;>simp [yo] at e
  ·simp only[cI,Bool.and_eq_false_iff];exact .inr (E4 h)
section
variable {C:Ctx} {n:Nat} {st:LS} {a:Act} {V:Vl} {D:Nat->Nat} {w:World} {P:Program}
theorem dL (hS:Sat C n st a V D w) {p:bX} (hp:gz st.rho p) (hc:cI st.rho p=true) {x:Operand} {s:SV} (h:cU st p x=some s):a.eval x=den V s:=by
 cases x with
 |tmp t=>
  have:=hS.env t p s hp h hc;simp [Act.eval,this]
 |const v=>simp only[cU,dY] at h;subst h;rfl
 |func f=>simp only[cU,dY] at h;subst h;rfl
 |global g=>simp only[cU,dY] at h;subst h;rfl
theorem uS {l:List Bx} {k:Nat} {b:Bx} (h:iD l k=some b):b.id=k/\b∈l:=by
 induction l with
 |nil=>cases h
 |cons x r ih=>
  obtain⟨i',t',p'⟩:=x;simp only[iD] at h;split at h
  ·rename_i e;cases h;exact⟨e,b6 ..⟩
  ·exact⟨(ih h).1,bR _ (ih h).2⟩
theorem Cn {l:List Vc} {k u:Nat} {b:Vc} (h:eV l k u=some b):b.id=k/\b.ver=u/\b∈l:=by
 induction l with
 |nil=>cases h
 |cons x r ih=>
  obtain⟨i',u',e',z',n',x'⟩:=x;simp only[eV] at h;split at h
  ·rename_i e;split at h
   ·rename_i e';cases h;exact⟨e,e',b6 ..⟩
   ·cases h
  ·exact⟨(ih h).1,(ih h).2.1,bR _ (ih h).2.2⟩
end
def Yl (c:Bool) (P:Program) (x:Sem Value) (w:World) (v:Value):Prop:=c=true->x.run P w= .ok v w
section
variable {P:Program} {c:Bool} {w:World}
abbrev U (c:Bool):Prop->Prop:=fun B=>c=true->B
theorem Bw {k:IntKind} {V:Vl} {K:SV->Prop} {n:Int} (h:arith (.mk (k:=(k,U c,K)) n)):
  ∃s,K s/\(c=true->den V s= .int k (k.wrap n)):=by
 cases k;case i64=>
  simp only[arith] at h;refine⟨_,h.2,fun hc=> ?_⟩;have hb:=h.1 hc;rw[fq];have:IntKind.i64.wrap n=n:=by
   rw[IntKind.wrap_i64];unfold aF at hb;omega
  rw[this]
 all_goals exact⟨_,h,fun _=>rfl⟩
theorem YD {op:BinOp} {k k' :IntKind} {x y:Int} {t:TypeId} {o o' :Operand} {V:Vl} {K:SV->Prop} (hk:op= .shl\/op= .shr\/k=k') (h:jO (.mk (k:=(op,k,U c,K)) (x,y))):
  ∃s,K s/\Yl c P (do eqGuard op t o o' (.int k x) (.int k' y);binOp op t (.int k x) (.int k' y)) w (den V s):=by
 by_cases hs:op= .shl\/op= .shr
 ·rcases hs with rfl |rfl
  ·simp only[jO] at h;refine⟨_,h.2,fun hc=> ?_⟩;simp [go_sem,shift_shl _ _ _ _ (h.1 hc).1 (h.1 hc).2,fq]
  ·simp only[jO] at h;refine⟨_,h.2,fun hc=> ?_⟩;simp [go_sem,shift_shr _ _ _ _ (h.1 hc).1 (h.1 hc).2,fq]
 ·have iR:k=k' :=by
   rcases hk with h1 |h1 |h1
   ·exact absurd (.inl h1) hs
   ·exact absurd (.inr h1) hs
   ·exact h1
  subst iR;cases op<;>simp only[jO] at h;case shl=>exact absurd (.inl rfl) hs
  case shr=>exact absurd (.inr rfl) hs
  case add=>obtain⟨s,h1,h2⟩:=Bw (V:=V) h;exact⟨s,h1,fun hc=>by rw[h2 hc];simp [go_sem,Op.intArith]⟩
  case sub=>obtain⟨s,h1,h2⟩:=Bw (V:=V) h;exact⟨s,h1,fun hc=>by rw[h2 hc];simp [go_sem,Op.intArith]⟩
  case mul=>obtain⟨s,h1,h2⟩:=Bw (V:=V) h;exact⟨s,h1,fun hc=>by rw[h2 hc];simp [go_sem,Op.intArith]⟩
  case quo=>obtain⟨s,h1,h2⟩:=Bw (V:=V) h.2;exact⟨s,h1,fun hc=>by rw[h2 hc];simp [go_sem,Op.intDiv,h.1 hc]⟩
  case rem=>exact⟨_,h.2,fun hc=>by simp [go_sem,Op.intDiv,h.1 hc,fq]⟩
  case eql=>exact⟨_,h,fun _=>by simp [go_sem,fq];rfl⟩
  case neq=>exact⟨_,h,fun _=>by simp [go_sem,fq,bne];rfl⟩
  all_goals exact⟨_,h,fun _=>by simp [go_sem,fq]⟩
end
theorem ZH (x y:ByteArray):x++y=bs (tl x++tl y):=by
 obtain⟨a⟩:=x;obtain⟨b⟩:=y;obtain⟨a⟩:=a;obtain⟨b⟩:=b;exact ByteArray.mk_append_mk a b
theorem zM (x:ByteArray):x.toList=tl x:=ByteArray.toList_eq x
theorem Ao (x:ByteArray):(tl x).length=x.size:=by unfold tl ByteArray.size;exact Array.length_toList
theorem SJ (x y:List UInt8):(x==y)=decide (x=y):=by
 rw[Bool.eq_iff_iff];simp only[beq_iff_eq,bu]
theorem aO {α:Type} {K:α->Prop} {x:Option α} (h:aQ (.mk (k:=K) x)):∃s,x=some s/\K s:=by
 cases x with
 |none=>exact h.elim
 |some s=>exact⟨s,rfl,h⟩
section
variable {P:Program} {c:Bool} {w:World}
theorem YB {op:BinOp} {x y:ByteArray} {t:TypeId} {o o' :Operand} {V:Vl} {K:SV->Prop} (h:sj (.mk (k:=(op,U c,K)) (tl x,tl y))):
  ∃s,K s/\Yl c P (do eqGuard op t o o' (.string x) (.string y);binOp op t (.string x) (.string y)) w (den V s):=by
 cases op<;>simp only[sj] at h;case add=>
  refine⟨_,h.2,fun hc=> ?_⟩;have hl:=h.1 hc;rw[Ao,Ao] at hl;have:¬((x.size+y.size:Nat):Int)>IntKind.i64.max:=by rw[IntKind.max_i64];omega
  simp only[go_sem,binOp,Op.stringOp,Sem.run_bind,Sem.run_pure,Result.andThen_ok];rw[af this];rw[ZH,fq];rfl
 case eql=>exact⟨_,h,fun _=>by simp [go_sem,fq,zM,SJ]⟩
 case neq=>exact⟨_,h,fun _=>by simp [go_sem,fq,zM,SJ]⟩
 case lss=>exact⟨_,h,fun _=>by simp [go_sem,fq,zM]⟩
 case geq=>exact⟨_,h,fun _=>by simp [binOp,Op.stringOp,go_sem,fq,zM]⟩
theorem Yz {V:Vl} {x y:SV} {b:Bool} (h:nX x y=some b):nX (.v (bL V x)) (.v (bL V y))=some b:=by
 unfold nX at h;split at h<;>first |exact h |cases h
theorem abt {V:Vl} {z x:SV} (h:oq z x=true):oq z (.v (bL V x))=true:=by
 unfold oq at h;split at h<;>first |exact h |cases h
theorem QR {V:Vl}:∀{z x:List SV},jw z x=true->jw z ((x.map (bL V)).map .v)=true
 |[],[],h=>h
 |z::zs,x::xs,h=>by
  simp only[jw,aG] at h;simp only[bJ,jw,abt h.1,QR h.2,Bool.and_self]
 |[],_::_,h=>by simp [jw] at h
 |_::_,[],h=>by simp [jw] at h
theorem abr {V:Vl} {z:Option (List SV)} {x:List SV} (h:wU z x=true):wU z ((x.map (bL V)).map .v)=true:=by
 cases z with
 |none=>cases h
 |some z=>exact QR h
theorem NA {V:Vl}:∀{x y:List SV} {b:Bool},ix x y=some b->ix ((x.map (bL V)).map .v) ((y.map (bL V)).map .v)=some b
 |[],[],_,h=>h
 |x::xs,y::ys,b,h=>by
  simp only[ix,Option.bind_eq_some_iff,Option.map_eq_some_iff] at h;obtain⟨e,he,r,hr,rfl⟩:=h;simp only[bJ,ix,Yz he,NA hr,Option.bind_some,Option.map_some]
 |[],_::_,_,h=>by simp [ix] at h
 |_::_,[],_,h=>by simp [ix] at h
theorem Iz {op:BinOp} {b:Bool} {K:SV->Prop} {V:Vl} (h:qO (.mk (k:=(op,K)) b)):
  ∃s,K s/\((op= .eql/\den V s= .bool b)\/(op= .neq/\den V s= .bool (!b))):=by
 cases op<;>simp only[qO] at h;case eql=>exact⟨_,h,.inl ⟨rfl,rfl⟩⟩
 case neq=>exact⟨_,h,.inr ⟨rfl,rfl⟩⟩
theorem No {V:Vl} {y:SV} {ys:List SV} (h:pz y=some ys):den V y= .agg ⟨ys.map (bL V)⟩:=by
 cases y with
 |agg l=>simp only[pz,dY] at h;subst h;rfl
 |v x=>
  cases x with
  |agg a=>obtain⟨l⟩:=a;simp only[pz,dY] at h;subst h;rw[AE];rfl
  |_=>simp [pz] at h
 |_=>simp [pz] at h
theorem Ny {op:BinOp} {t:TypeId} {o o' :Operand} {V:Vl} {K:SV->Prop} {xs:List SV} {y:SV} {xv:Value} (hxv:xv= .agg ⟨xs.map (bL V)⟩) 
  (he:vC P t) (hl:wU (fC P t) xs=true) (h:aQ (.mk (k:=fun b=>qO (.mk (k:=(op,K)) b)) ((pz y).bind fun ys=>ix xs ys))):
  ∃s,K s/\Yl c P (do eqGuard op t o o' xv (den V y);binOp op t xv (den V y)) w (den V s):=by
 obtain⟨b,hb,hK⟩:=aO h;simp only[Option.bind_eq_some_iff] at hb;obtain⟨ys,hys,hb⟩:=hb;have hyv:den V y= .agg ⟨ys.map (bL V)⟩:=No hys;have hE:=fun op=>he (xs.map (bL V)) (ys.map (bL V)) b w o o' op (NA hb) (abr hl)
 obtain⟨s,hs,hh⟩:=Iz (V:=V) hK;refine⟨s,hs,fun hc=> ?_⟩;rw[hxv,hyv];rcases hh with ⟨rfl,hr⟩ |⟨rfl,hr⟩
 ·rw[hr];simp only[Sem.run_bind,(hE .eql).1,Result.andThen_ok,binOp,(hE .eql).2,Sem.run_pure]
 ·rw[hr];simp only[Sem.run_bind,(hE .neq).1,Result.andThen_ok,binOp,(hE .neq).2,Sem.run_pure]
theorem run_equal_bool {t:TypeId} (x y:Bool) (h:P.underlying t=some .bool):(Op.equal t (.bool x) (.bool y)).run P w= .ok (x==y) w:=by
 have hd:∀d:Nat,(Op.equalIn (d+1) t (.bool x) (.bool y)).run P w= .ok (x==y) w:=fun d=>by
  simp only[Op.equalIn,Sem.run_bind,run_underlying h,Result.andThen_ok,Sem.run_pure]
 exact hd 9999
theorem M6 {t:TypeId} {v:Value} (h:Gn P t=true) (hv:Hf v):(Op.equal t v .nilIface).run P w= .ok (rO v) w:=by
 unfold Gn at h;split at h
 ·rename_i ms hu;have hd:∀d:Nat,(Op.equalIn (d+1) t v .nilIface).run P w= .ok (rO v) w:=fun d=>by
   rcases hv with rfl |⟨ty,x,rfl⟩<;>simp only[Op.equalIn,Sem.run_bind,run_underlying hu,Result.andThen_ok,Sem.run_pure,rO]
  exact hd 9999
 ·cases h
theorem Xk {op:BinOp} {x:SV} {t:TypeId} {o:Operand} {V:Vl} {K:SV->Prop} (h:wA (.mk (k:=(P,op,t,U c,K)) x)):
  ∃s,K s/\Yl c P (do eqGuard op t o (.const .nilIface) (den V x) .nilIface;binOp op t (den V x) .nilIface) w (den V s):=by
 unfold wA at h;split at h
 ·rename_i v e;cases e;obtain⟨h1,h2,h3⟩:=h;obtain⟨s,hs,hh⟩:=Iz (V:=V) h3;refine⟨s,hs,fun hc=> ?_⟩;have hv:=h2 hc;have hg:∀op,(eqGuard op t o (.const .nilIface) v .nilIface).run P w= .ok () w:=fun op=>by
   unfold eqGuard;rcases hv with rfl |⟨ty,x,rfl⟩<;>cases op<;>simp
  have ng:binOp .eql t v .nilIface=(do let b <- Op.equal t v .nilIface;pure (.bool b)):=by
   rcases hv with rfl |⟨ty,x,rfl⟩<;>rfl
  have D6:binOp .neq t v .nilIface=(do let b <- Op.equal t v .nilIface;pure (.bool (!b))):=by
   rcases hv with rfl |⟨ty,x,rfl⟩<;>rfl
  rcases hh with ⟨rfl,hr⟩ |⟨rfl,hr⟩
  ·rw[hr];simp only[Sem.run_bind,fq,hg,Result.andThen_ok,ng,M6 h1 hv,Sem.run_pure]
  ·rw[hr];simp only[Sem.run_bind,fq,hg,Result.andThen_ok,D6,M6 h1 hv,Sem.run_pure]
 ·cases h
theorem YC {op:BinOp} {x y:SV} {t:TypeId} {o o' :Operand} {V:Vl} {K:SV->Prop} (h:qN (.mk (k:=(P,op,t,U c,K)) (x,y))):
  ∃s,K s/\Yl c P (do eqGuard op t o o' (den V x) (den V y);binOp op t (den V x) (den V y)) w (den V s):=by
 unfold qN at h;split at h
 ·rename_i k a k' b e;cases e;exact YD h.1 h.2
 ·rename_i a b e;cases e;exact YB h
 ·rename_i a b e;cases e;obtain⟨s,hs,hh⟩:=Iz (V:=V) h.2;refine⟨s,hs,fun hc=> ?_⟩;rcases hh with ⟨rfl,hr⟩ |⟨rfl,hr⟩
  ·rw[hr];simp only[Sem.run_bind,eqGuard_at_bool,fq,Sem.run_pure,Result.andThen_ok,binOp,run_equal_bool a b h.1]
  ·rw[hr];simp only[Sem.run_bind,eqGuard_at_bool,fq,Sem.run_pure,Result.andThen_ok,binOp,run_equal_bool a b h.1]
 ·rename_i xs y e;cases e;exact Ny rfl h.1 h.2.1 h.2.2
 ·rename_i xs y e;cases e;obtain⟨l⟩:=xs;refine Ny (xs:=l.map .v) (by rw[AE];rfl) h.1 h.2.1 h.2.2
 ·cases h
end
section
variable {P:Program} {w:World}
theorem Ci {t:TypeId} (h:0<bZ P t):(sizeOf t).run P w= .ok (bZ P t) w:=by
 unfold bZ at h ⊢;cases hi:P.info? t with
 |none=>rw[hi] at h;simp at h
 |some i=>simp [sizeOf,typeInfo,hi]
theorem Nc {t:TypeId} (h:eU P t=some none):(isAgg t).run P w= .ok false w:=by
 unfold eU at h;split at h
 ·simp at h
 ·simp at h
 ·rename_i d h1 h2 hd;simp only[isAgg,Sem.run_bind,run_underlying hd,Result.andThen_ok];rfl
 ·cases h
theorem Et {t:TypeId} {n:Nat} (h:eU P t=some (some n)):(isAgg t).run P w= .ok true w/\(sizeOf t).run P w= .ok n w:=by
 unfold eU at h;split at h
 ·rename_i fs hd;simp only[Option.map_eq_some_iff,dY] at h;obtain⟨i,hi,rfl⟩:=h;exact⟨by simp [isAgg,run_underlying hd],by simp [sizeOf,typeInfo,hi]⟩
 ·rename_i fs k hd;simp only[Option.map_eq_some_iff,dY] at h;obtain⟨i,hi,rfl⟩:=h;exact⟨by simp [isAgg,run_underlying hd],by simp [sizeOf,typeInfo,hi]⟩
 ·cases h
 ·cases h
theorem zu {t:TypeId} {ad:Addr} {ag:Option Nat} {cs:List Value} {v:Value} (h:eU P t=some ag) (hc:∀j u,cs[j]? =some u->w.cell? (ad.add j)=some u)
  (hv:match ag with |none=>cs=[v] |some n=>cs.length=n/\v= .agg ⟨cs⟩):(loadVar t ad).run P w= .ok v w:=by
 cases ag with
 |none=>
  subst hv;have h0:=hc 0 v rfl;rw[Addr.add_zero'] at h0;simp only[loadVar,Sem.run_bind,Nc h,Result.andThen_ok,Bool.false_eq_true,if_false];rw[run_load];simp [h0]
 |some n=>
  obtain⟨hl,rfl⟩:=hv;simp only[loadVar,Sem.run_bind,(Et h).1,(Et h).2,Result.andThen_ok,if_true];subst hl;rw[run_loadCells_list w ad cs hc];rfl
theorem O2 {D:Nat} {o o' :Option Obj} {c:Array Value} {t:TypeId} {f:Nat×Nat} (h:tr D o o') (ho:o=some (.cells c t f)):∃c' t' f',o' =some (.cells c' t' f')/\∀j,j<D->c'[j]? =c[j]? :=by
 subst ho;exact h
theorem EP {m:Mem} {D:Nat->Nat} (hle:m.le ⟨w,D⟩) {ad:Addr} {v:Value} (hs:ad.spot=none) (hd:ad.off<m.D ad.block) (h:m.w.cell? ad=some v):w.cell? ad=some v:=by
 obtain⟨_,hk⟩:=hle ad.block;obtain⟨_,hk⟩:=hk (by omega);unfold World.cell? at h ⊢;split at h
 ·rename_i c t f hc;obtain⟨c',t',f',ho,hj⟩:=O2 hk hc;dsimp only at ho;rw[ho];simp only[hs,Option.isSome_none,Bool.false_eq_true,if_false] at h ⊢;rw[hj _ hd];exact h
 ·cases h
theorem mA (ad:Addr) (j:Nat) (h:ad.spot=none):(ad.add j).block=ad.block/\(ad.add j).off=ad.off+j/\(ad.add j).spot=none:=by
 unfold Addr.add;split
 ·rename_i e;subst e;exact⟨rfl,rfl,h⟩
 ·exact⟨rfl,rfl,rfl⟩
theorem Uz {m:Mem} {D:Nat->Nat} (hle:m.le ⟨w,D⟩) {x:Value} {cs:List Value} (h:Rd m x cs):∃ad,x= .pointer (some ad)/\∀j u,cs[j]? =some u->w.cell? (ad.add j)=some u:=by
 obtain⟨ad,hx,hs,hc⟩:=h;refine⟨ad,hx,fun j u hu=> ?_⟩;have hj:j<cs.length:=(List.getElem?_eq_some_iff.1 hu).1;obtain⟨h1,h2⟩:=hc j hj;obtain⟨e1,e2,e3⟩:=mA ad j hs;exact EP hle e3 (by rw[e1,e2];exact h2) (h1.trans hu)
theorem TV {m:Mem} {D:Nat->Nat} (hle:m.le ⟨w,D⟩) {x:Option Addr} {n sz:Nat} {cs:List Value} (h:aX m x n sz cs) (hn:0<n):∃ad,x=some ad/\∀j u,cs[j]? =some u->w.cell? (ad.add j)=some u:=by
 obtain⟨hl,h⟩:=h;obtain⟨ad,hx,hs,hc⟩:=h hn;refine⟨ad,hx,fun j u hu=> ?_⟩;have hj:j<cs.length:=(List.getElem?_eq_some_iff.1 hu).1;obtain⟨h1,h2⟩:=hc j (by omega);obtain⟨e1,e2,e3⟩:=mA ad j hs;exact EP hle e3 (by rw[e1,e2];exact h2) (h1.trans hu)
theorem kV {x:Sem Value} {v:Value} {w' :World} (h:x.run P w= .ok v w'):(do pure (Next.value (<- x)):Sem Next).run P w= .ok (.value v) w' :=by
 simp [h]
theorem Ov {V:Vl} {cs:List SV} {off:Nat} {ag:Option Nat} {s:SV} (h:wz cs off ag=some s):
  match ag with |none=>(cs.map (bL V))[off]? =some (den V s) |some n=>den V s= .agg ⟨((cs.map (bL V)).drop off).take n⟩/\off+n<=cs.length:=by
 cases ag with
 |none=>
  obtain⟨x,hx,hs⟩:=Option.bind_eq_some_iff.1 h;dsimp only;rw[List.getElem?_map,hx];cases x<;>simp only[tJ,dY] at hs<;>first |(subst hs;rfl) |cases hs
 |some n=>
  simp only[wz] at h;split at h
  ·rename_i hl;simp only[dY] at h;subst h;exact⟨by rw[JX,List.map_take,List.map_drop],hl⟩
  ·cases h
end
theorem aa4 {rho:List Gd} {t:Nat} {g:Gd} (h:AR rho t=some g):g.slot=t/\g∈rho:=by
 induction rho with
 |nil=>cases h
 |cons x r ih=>
  obtain⟨i',t',p',b'⟩:=x;simp only[AR] at h;split at h
  ·rename_i e;cases h;exact⟨e,b6 ..⟩
  ·exact⟨(ih h).1,bR _ (ih h).2⟩
theorem vS {α β:Type} {o:Option α} {f:α->Option β} {y:β} (h:o.bind f=some y):∃x,o=some x/\f x=some y:=Option.bind_eq_some_iff.1 h
def Run (P:Program) (c:Bool) (x:Sem Next) (w:World) (v:Value):Prop:=c=true->x.run P w= .ok (.value v) w
theorem Yl.run {P:Program} {c:Bool} {x:Sem Value} {w:World} {v:Value} (h:Yl c P x w v):Run P c (do pure (.value (<- x))) w v:=fun hc=>kV (h hc)
section
variable {C:Ctx} {n:Nat} {st:LS} {a:Act} {V:Vl} {D:Nat->Nat} {w:World} {P:Program} {p:bX} {K:SV->Prop} {c:Bool}
theorem XV {s:SV} (h:vj (.mk (k:=(U c,K)) s)):∃r,K r/\den V r=den V s/\(c=true->vq (den V s)=true):=by
 unfold vj at h;split at h
 ·rename_i x e;cases e;exact⟨_,h.2,rfl,fun hc=>h.1 hc⟩
 ·rename_i k o e;cases e;exact⟨_,h,rfl,fun _=>rfl⟩
 ·cases h
theorem abC {o:Oper} {x:Operand} (ho:o.op= .nilCheck x) (h:vq (a.eval x)=true):(execOp a.eval o).run P w= .ok (.value (a.eval x)) w:=by
 unfold execOp;simp only[ho];revert h;generalize a.eval x=v
 intro h;cases v with
 |pointer q=>cases q with
  |none=>cases h
  |some q=>rfl
 |nilIface=>cases h
 |nilFunc=>cases h
 |func f b d=>cases f<;>first |rfl |cases h
 |_=>rfl
theorem Y0 {op:UnOp} {s:SV} (h:vD (.mk (k:=(op,U c,K)) s)):∃r,K r/\Yl c P (Op.unary op (den V s)) w (den V r):=by
 unfold vD at h;split at h
 ·rename_i b e;cases e;exact⟨_,h,fun _=>rfl⟩
 ·rename_i k m e;cases e;obtain⟨r,h1,h2⟩:=Bw (V:=V) h;exact⟨r,h1,fun hc=>by rw[h2 hc];rfl⟩
 ·cases h
theorem aoK {l:List UInt8} {j:Nat} {u:Value} (h:(j0 l)[j]? =some u):∃b:UInt8,l[j]? =some b/\u= .int .u8 b.toNat:=by
 simp only[j0,List.getElem?_map,Option.map_eq_some_iff] at h;obtain⟨b,hb,rfl⟩:=h;exact⟨b,hb,rfl⟩
theorem aea {P:Program} {src dst:TypeId} {k:IntKind} {m:Int} {k' :IntKind} (h:rl P src dst= .int k):(convert src dst (.int k' m)).run P w= .ok (.int k (k.wrap m)) w:=by
 unfold rl at h;split at h
 ·rename_i k1 k2 h1 h2;cases h;simp [convert,run_underlying h1,run_underlying h2,Conv.intToInt]
 ·cases h
 ·split at h<;>cases h
 ·cases h
theorem abN {P:Program} {src dst:TypeId} {s:ByteArray} (h:rl P src dst= .same):(convert src dst (.string s)).run P w= .ok (.string s) w:=by
 unfold rl at h;split at h
 ·cases h
 ·rename_i h1 h2;simp [convert,run_underlying h1,run_underlying h2]
 ·split at h<;>cases h
 ·cases h
theorem aeb {P:Program} {src dst:TypeId} (h:rl P src dst= .b2s):∃e,P.underlying src=some (.slice e)/\P.underlying e=some (.int .u8)/\P.underlying dst=some .string:=by
 unfold rl at h;split at h
 ·cases h
 ·cases h
 ·rename_i e h1 h2;split at h
  ·rename_i h3;exact⟨e,h1,h3,h2⟩
  ·cases h
 ·cases h
theorem Rv {P:Program} {src dst:TypeId} {l:List UInt8} {x:Option Addr} {n cp:Nat} (h:rl P src dst= .b2s) (hn:l.length=n) (hx:0<n->∃ad,x=some ad/\∀j u,(j0 l)[j]? =some u->w.cell? (ad.add j)=some u):
  (convert src dst (.slice x n cp)).run P w= .ok (.string (bs l)) w:=by
 obtain⟨e,h1,h2,h3⟩:=aeb h;rcases Nat.eq_zero_or_pos n with h0 |h0
 ·subst h0;have:l=[]:=List.eq_nil_of_length_eq_zero hn;subst this;cases x with
  |none=>rw[run_convert_bytes_string w src dst e none _ cp h1 h2 h3];simp [Conv.bytesToString];rfl
  |some ad=>exact run_convert_bytes_back w src dst e ad cp [] h1 h2 h3 (fun j hj=>absurd hj (by simp))
 ·obtain⟨ad,rfl,hc⟩:=hx h0;subst hn;exact run_convert_bytes_back w src dst e ad cp l h1 h2 h3 (fun j hj=>hc j _ (by simp [j0,List.getElem?_eq_getElem hj]))
theorem yc {e:TypeId} {sz:Nat} {h:Hd} {m:Nat} {xs:List Value} (ho:w.ownsRow 0 e sz h.val m xs):h.n=m/\xs.length=m * sz/\(0<m->∃g,h.a=some ⟨g,0,none⟩/\∀j u,xs[j]? =some u->w.cell? ⟨g,j,none⟩=some u):=by
 obtain⟨hl,hv⟩:=ho;rcases hv with ⟨hv,rfl⟩ |⟨g,cap,cur,hv,_,hh,Mo,_,dp,htk⟩
 ·simp only[Hd.val,Value.slice.injEq] at hv;exact⟨hv.2.1,hl,fun h0=>absurd h0 (by omega)⟩
 ·simp only[Hd.val,Value.slice.injEq] at hv;refine⟨hv.2.1,hl,fun _=>⟨g,hv.1,fun j u hu=> ?_⟩⟩;have hj:j<m * sz:=by have:=(List.getElem?_eq_some_iff.1 hu).1;omega
  rw[<- htk,List.getElem?_take,ah hj] at hu;simp only[World.cell?,hh,Option.isSome_none,Bool.false_eq_true,if_false];rw[<- hu,Array.getElem?_toList]
theorem Ey (g j:Nat):(Addr.add ⟨g,0,none⟩ j)=⟨g,j,none⟩:=by
 unfold Addr.add;split
 ·rename_i h;subst h;rfl
 ·simp
theorem yk (hS:Sat C n st a V D w) {k u:Nat} {b:Vc} (h:eV st.vc k u=some b):zt V D w b/\b.id=k/\b.ver=u:=
 ⟨hS.heap.vc b (Cn h).2.2,(Cn h).1,(Cn h).2.1⟩
theorem Xm (hS:Sat C n st a V D w) {src dst:TypeId} {s:SV} (h:rS (.mk (k:=(U c,K)) (st,rl P src dst,s))):
  ∃r,K r/\Yl c P (convert src dst (den V s)) w (den V r):=by
 unfold rS at h;split at h
 ·rename_i k k' m e;simp only[A.mk.injEq,Prod.mk.injEq] at e;obtain⟨rfl,e2,rfl⟩:=e;exact⟨_,h,fun _=>aea e2⟩
 ·rename_i s' e;simp only[A.mk.injEq,Prod.mk.injEq] at e;obtain⟨rfl,e2,rfl⟩:=e;exact⟨_,h,fun _=>abN e2⟩
 ·rename_i ak k v e;simp only[A.mk.injEq,Prod.mk.injEq] at e;obtain⟨rfl,e2,rfl⟩:=e;obtain⟨b,hb,l,h1,h2⟩:=aO h;refine⟨_,h2,fun hc=> ?_⟩;obtain⟨e1,e3⟩:=h1 hc;obtain⟨hv,rfl,rfl⟩:=yk hS hb;obtain⟨hn,hl,hx⟩:=yc hv.1;have MC:l.length=b.n:=by rw[e1,Nat.mul_one,e3] at hl;simpa [j0] using hl
  refine Rv e2 (by rw[MC,hn]) (fun h0=> ?_);obtain⟨g,hg,jJ⟩:=hx (by omega);refine⟨_,hg,fun j y hy=> ?_⟩;rw[Ey];exact jJ j y (by rw[e3];exact hy)
 ·rename_i ak x m cp e;simp only[A.mk.injEq,Prod.mk.injEq] at e;obtain⟨rfl,e2,rfl⟩:=e;obtain⟨l,h1,h2⟩:=h;refine⟨_,h2,fun hc=> ?_⟩;have hr:=h1 hc;refine Rv e2 (by have:=hr.1;simpa [j0] using this) (fun h0=>TV hS.mle hr h0)
 ·cases h
theorem Jr {P:Program} {s:TypeId} {f off sz:Nat} {ag:Option Nat} (h:dc P s f=some (off,ag,sz)):∃fs x,P.underlying s=some (.struct fs)/\fs[f]? =some x/\x.offset=off/\eU P x.type=some ag/\0<bZ P x.type/\bZ P x.type=sz:=by
 unfold dc at h;split at h
 ·rename_i fs hs;obtain⟨x,hx,h⟩:=vS h;split at h
  ·rename_i h0;simp only[Option.map_eq_some_iff,Prod.mk.injEq] at h;obtain⟨g,hg,rfl,rfl,rfl⟩:=h;exact⟨fs,x,hs,hx,rfl,hg,h0,rfl⟩
  ·cases h
 ·cases h
theorem HZ {P:Program} {s:TypeId} {f off sz:Nat} {ag:Option Nat} {ad:Addr} (h:dc P s f=some (off,ag,sz)):(Instr.fieldAt s (.pointer (some ad)) f).run P w= .ok (.pointer (some (ad.add off))) w:=by
 obtain⟨fs,x,hs,hx,rfl,_,h0,_⟩:=Jr h;have:bZ P x.type≠0:=by omega
 simp [Instr.fieldAt,run_underlying hs,hx,Instr.sureAddr,fieldPlace,Ci h0,this]
theorem Ak (b o f:Nat):(Addr.add ⟨b,o,none⟩ f)=⟨b,o+f,none⟩:=by
 unfold Addr.add;split
 ·rename_i h;subst h;rfl
 ·rfl
theorem X1 (hS:Sat C n st a V D w) {s:TypeId} {x:SV} {f off sz:Nat} {ag:Option Nat} (hf:dc P s f=some (off,ag,sz))
  (h:tP (.mk (k:=(U c,K)) (st,x,off))):∃r,K r/\Yl c P (Instr.fieldAt s (den V x) f) w (den V r):=by
 unfold tP at h;split at h
 ·rename_i ak k o f' e;simp only[A.mk.injEq,Prod.mk.injEq] at e;obtain⟨rfl,rfl,rfl⟩:=e;exact⟨_,h,fun _=>by rw[Ah,HZ hf,Ak];rfl⟩
 ·rename_i ak k v o f' e;simp only[A.mk.injEq,Prod.mk.injEq] at e;obtain⟨rfl,rfl,rfl⟩:=e;obtain⟨b,hb,h1,h2⟩:=aO h;refine⟨_,h2,fun hc=> ?_⟩;obtain⟨hv,rfl,rfl⟩:=yk hS hb;obtain⟨_,hl,hx⟩:=yc hv.1;have ho:=h1 hc;have hn:0<b.n:=by
   rcases Nat.eq_zero_or_pos b.n with h0 |h0
   ·rw[h0,Nat.zero_mul] at hl;omega
   ·exact h0
  obtain⟨g,hg,_⟩:=hx hn;show(Instr.fieldAt s (.pointer ((V.γ b.id b.ver).a.map (·.add o))) f).run P w= .ok (.pointer ((V.γ b.id b.ver).a.map (·.add (o+off)))) w;rw[hg];simp only[Option.map_some,Ak,HZ hf,Nat.zero_add]
 ·rename_i ak y f' e;simp only[A.mk.injEq,Prod.mk.injEq] at e;obtain⟨rfl,rfl,rfl⟩:=e;refine⟨_,h.2,fun hc=> ?_⟩;obtain⟨ad,rfl⟩:=h.1 hc;exact HZ hf
 ·cases h
theorem xL {P:Program} {t:TypeId} {ag:Option Nat} {cs:List Value} {off:Nat} {v:Value} (h:eU P t=some ag)
  (hv:match ag with |none=>cs[off]? =some v |some k=>v= .agg ⟨(cs.drop off).take k⟩/\off+k<=cs.length):(part t ⟨cs⟩ off).run P w= .ok v w:=by
 cases ag with
 |none=>
  simp only[part,Sem.run_bind,Nc h,Result.andThen_ok,Bool.false_eq_true,if_false];dsimp only at hv;have:(⟨cs⟩:Array Value)[off]? =some v:=by rw[<- hv,<- Array.getElem?_toList]
  rw[this];rfl
 |some k=>
  obtain⟨rfl,hl⟩:=hv;simp only[part,Sem.run_bind,(Et h).1,(Et h).2,Result.andThen_ok,if_true,Sem.run_pure];have:(Array.mk cs).extract off (off+k)=⟨(cs.drop off).take k⟩:=by
   apply Array.ext'
   simp [List.extract,Nat.add_sub_cancel_left]
  rw[this]
theorem WU {s:TypeId} {x:SV} {f off sz:Nat} {ag:Option Nat} {cs:List SV} {r:SV} (hf:dc P s f=some (off,ag,sz)) (hx:pz x=some cs) (h:wz cs off ag=some r):
  (Instr.field s (den V x) f).run P w= .ok (den V r) w:=by
 obtain⟨fs,y,hs,hy,rfl,hg,_,_⟩:=Jr hf;have hd:den V x= .agg ⟨cs.map (bL V)⟩:=No hx;simp only[Instr.field,Sem.run_bind,run_underlying hs,Result.andThen_ok,hy,hd,asAgg,Sem.run_pure];refine xL hg ?_;have ht:=Ov (V:=V) h;cases ag with
 |none=>
  exact ht
 |some k=>exact⟨ht.1,by rw[List.length_map];exact ht.2⟩
end
section
variable {C:Ctx} {n:Nat} {st:LS} {a:Act} {V:Vl} {D:Nat->Nat} {w:World} {P:Program} {p:bX} {K:SV->Prop} {c:Bool}
theorem oF {t e:TypeId} (h:iU P t=some e):P.underlying t=some (.slice e):=by
 unfold iU at h;split at h
 ·rename_i e' h';cases h;exact h'
 ·cases h
theorem Nr {t e:TypeId} {ad:Addr} {len cp:Nat} {k:IntKind} {i:Int} (h:iU P t=some e) (h0:0<bZ P e) (hi:0<=i) (hl:i<len):
  (Instr.indexAt t (.slice (some ad) len cp) (.int k i)).run P w= .ok (.pointer (some (ad.add (i.toNat * bZ P e)))) w:=by
 simp [Instr.indexAt,asIntOf,run_underlying (oF h),hi,hl,Ci h0]
theorem X0 (hS:Sat C n st a V D w) {t e:TypeId} {x i:SV} (he:iU P t=some e) (h:vn (.mk (k:=(P,U c,K)) (st,e,x,i))):
  ∃r,K r/\Yl c P (Instr.indexAt t (den V x) (den V i)) w (den V r):=by
 unfold vn at h;split at h
 ·rename_i ak e' x m cp k j q;simp only[A.mk.injEq,Prod.mk.injEq] at q;obtain⟨rfl,rfl,rfl,rfl⟩:=q;refine⟨_,h.2.2,fun hc=> ?_⟩;obtain⟨h1,h2,h3⟩:=h.2.1 hc;cases x with
  |none=>exact absurd rfl h3
  |some ad=>exact Nr he h.1 h1 h2
 ·rename_i ak e' k v kk j q;simp only[A.mk.injEq,Prod.mk.injEq] at q;obtain⟨rfl,rfl,rfl,rfl⟩:=q;obtain⟨b,hb,h0,h1,h2⟩:=aO h;refine⟨_,h2,fun hc=> ?_⟩;obtain⟨hv,rfl,rfl⟩:=yk hS hb;obtain⟨i0,i1,_⟩:=h1 hc;obtain⟨hn,hl,hx⟩:=yc hv.1;obtain⟨g,hg,_⟩:=hx (by omega);show(Instr.indexAt t (V.γ b.id b.ver).val (.int kk j)).run P w= .ok (.pointer ((V.γ b.id b.ver).a.map (·.add (j.toNat * bZ P e)))) w;unfold Hd.val;rw[hg,hn];exact Nr he h0 i0 i1
 ·cases h
theorem byte_at (s:ByteArray) (i:Nat) (h:i<(tl s).length):s[i]? =some ((tl s).getD i 0):=by
 have hs:i<s.size:=by rw[<- Ao];exact h
 have e1:s[i]? =some s[i]:=getElem?_pos s i hs;rw[e1];rw[List.getD_eq_getElem?_getD,List.getElem?_eq_getElem h];rfl
theorem Y6 {t:TypeId} {x i:SV} (h:xd (.mk (k:=(P,t,U c,K)) (x,i))):∃r,K r/\Yl c P (Instr.index t (den V x) (den V i)) w (den V r):=by
 unfold xd at h;split at h
 ·rename_i s k j q;simp only[A.mk.injEq,Prod.mk.injEq] at q;obtain⟨rfl,rfl⟩:=q;refine⟨_,h.2.2,fun hc=> ?_⟩;obtain⟨h1,h2⟩:=h.2.1 hc;have hb:=byte_at s j.toNat (by omega);simp only[fq,Instr.index,asIntOf,Sem.run_bind,Sem.run_pure,Result.andThen_ok,run_underlying h.1,ah h1,hb]
 ·cases h
theorem Nb {o:Option SV} {d l:Int} (h:rH o d=some l):(o=none/\l=d)\/∃k,o=some (.v (.int k l)):=by
 unfold rH at h;split at h
 ·cases h;exact .inl ⟨rfl,rfl⟩
 ·cases h;exact .inr ⟨_,rfl⟩
 ·cases h
theorem FV {k:IntKind} {i:Int} {y:Nat} {code:BoundsCode} (h0:0<=i) (h1:i<=y):(Instr.sliceBound (.int k i) y code).run P w= .ok i.toNat w:=by
 simp [Instr.sliceBound,asIntOf,h0,h1]
theorem Ru {isS:Bool} {len cp:Nat} {lo hi:Option SV} {l h:Int} (hl:rH lo 0=some l) (hh:rH hi len=some h) (h0:0<=l) (h1:l<=h) (h2:h<=cp):
  (Instr.sliceBounds isS len cp (lo.map (den V)) (hi.map (den V)) none).run P w= .ok (l.toNat,h.toNat,cp) w:=by
 have eh:(h.toNat:Int)=h:=Int.toNat_of_nonneg (by omega);rcases Nb hl with ⟨rfl,rfl⟩ |⟨k,rfl⟩<;>rcases Nb hh with ⟨rfl,rfl⟩ |⟨k',rfl⟩
 ·simp [Instr.sliceBounds]
 ·simp only[Instr.sliceBounds,Option.map_none,Option.map_some,Sem.run_bind,Sem.run_pure,Result.andThen_ok,fq];rw[FV (by omega) h2];rfl
 ·simp only[Instr.sliceBounds,Option.map_none,Option.map_some,Sem.run_bind,Sem.run_pure,Result.andThen_ok,fq];rw[FV h0 h1];simp
 ·simp only[Instr.sliceBounds,Option.map_none,Option.map_some,Sem.run_bind,Sem.run_pure,Result.andThen_ok,fq];rw[FV (by omega) h2];simp only[Result.andThen_ok];rw[FV h0 (by omega)];rfl
theorem Yu (s:ByteArray) (l h:Nat):s.extract l h=bs (((tl s).take h).drop l):=by
 rw[<- kG (s.extract l h)];congr 1
 show(s.extract l h).data.toList=_;rw[Lib.extract_data,List.drop_take];rfl
theorem Y1 {t:TypeId} {x:SV} {lo hi:Option SV} (h:vE (.mk (k:=(P,t,U c,K)) (x,lo,hi))):
  ∃r,K r/\Yl c P (Instr.sliceAt t (den V x) (lo.map (den V)) (hi.map (den V)) none) w (den V r):=by
 unfold vE at h;split at h
 ·rename_i s lo hi q;simp only[A.mk.injEq,Prod.mk.injEq] at q;obtain⟨rfl,rfl,rfl⟩:=q;obtain⟨ht,h⟩:=h;obtain⟨l,hl,h⟩:=aO h;obtain⟨r,hr,h⟩:=aO h;simp only[Lg] at h;refine⟨_,h.2,fun hc=> ?_⟩;obtain⟨h0,h1,h2⟩:=h.1 hc;rw[Ao] at hr h2;rw[fq,run_sliceAt_string (h:=ht)];simp only[Instr.slice,Sem.run_bind,run_underlying ht,Result.andThen_ok,Option.isSome_none,Bool.false_eq_true,if_false,Sem.run_pure];rw[Ru hl hr h0 h1 h2];simp only[Result.andThen_ok,Yu];rfl
 ·rename_i x m cp lo hi q;simp only[A.mk.injEq,Prod.mk.injEq] at q;obtain⟨rfl,rfl,rfl⟩:=q;obtain⟨l,hl,h⟩:=aO h;obtain⟨r,hr,h⟩:=aO h;obtain⟨e,he,hz,h⟩:=aO h;refine⟨_,h.2,fun hc=> ?_⟩;obtain⟨h0,h1,h2⟩:=h.1 hc;have hu:=oF he;have DV:P.underlying t=some (.slice (P.elem t)):=by
   rw[hu];unfold Program.elem;rw[hu]
  rw[fq,run_sliceAt_slice (h:=DV)];simp only[Instr.slice,Sem.run_bind,run_underlying hu,Result.andThen_ok];rw[Ru hl hr h0 h1 h2];simp only[Result.andThen_ok,Ci hz,Sem.run_pure];rfl
 ·cases h
theorem BM {t:TypeId} {ad:Addr} {v:Value} (h:(loadVar t ad).run P w= .ok v w):(Instr.loadAt t (.pointer (some ad))).run P w= .ok v w:=by
 simp [Instr.loadAt,Instr.sureAddr,h]
theorem SG (hS:Sat C n st a V D w) {k:Nat} {b:Bx} (h:iD st.bx k=some b) (bM:b.ty<oV) (j:Nat):w.cell? ⟨V.β k,j,none⟩=(b.cs.map (bL V))[j]? :=by
 obtain⟨rfl,hm⟩:=uS h;obtain⟨o,this,ho⟩:=(hS.heap.bx b hm).1;unfold nD at ho;rw[ah bM] at ho;subst ho;simp only[World.cell?,this,Option.isSome_none,Bool.false_eq_true,if_false];rw[<- Array.getElem?_toList]
theorem Nt (hS:Sat C n st a V D w) {t:TypeId} {x:SV} (h:pN (.mk (k:=(P,t,U c,K)) (st,x))):∃r,K r/\Yl c P (Instr.loadAt t (den V x)) w (den V r):=by
 unfold pN at h;split at h
 ·rename_i ak k o q;simp only[A.mk.injEq,Prod.mk.injEq] at q;obtain⟨rfl,rfl⟩:=q;obtain⟨b,hb,bM,h⟩:=aO h;obtain⟨ag,jD,h⟩:=aO h;obtain⟨r,hr,h⟩:=aO h;refine⟨r,h,fun _=>BM ?_⟩;have ht:=Ov (V:=V) hr;cases ag with
  |none=>
   refine zu (cs:=[den V r]) jD (fun j u hu=> ?_) rfl;cases j with
   |zero=>rw[Ak,SG hS hb bM];simp only[List.getElem?_cons_zero] at hu;rw[<- hu];exact ht
   |succ j=>simp at hu
  |some k' =>
   refine zu (cs:=((b.cs.map (bL V)).drop o).take k') jD (fun j u hu=> ?_) ⟨?_,ht.1⟩
   ·rw[Ak,SG hS hb bM];rw[List.getElem?_take] at hu;split at hu
    ·rw[List.getElem?_drop] at hu;exact hu
    ·cases hu
   ·have:=ht.2;simp only[List.length_take,dG,List.length_map];omega
 ·rename_i ak k v o q;simp only[A.mk.injEq,Prod.mk.injEq] at q;obtain⟨rfl,rfl⟩:=q;obtain⟨b,hb,h⟩:=aO h;obtain⟨ag,jD,h⟩:=aO h;obtain⟨hv,rfl,rfl⟩:=yk hS hb;obtain⟨_,hl,hx⟩:=yc hv.1;have key:o<b.xs.length->∃g,den V (.vp b.id b.ver o)= .pointer (some ⟨g,o,none⟩)/\∀j u,b.xs[j]? =some u->w.cell? ⟨g,j,none⟩=some u:=by
   intro ho;have hn:0<b.n:=by
    rcases Nat.eq_zero_or_pos b.n with h0 |h0
    ·rw[h0,Nat.zero_mul] at hl;omega
    ·exact h0
   obtain⟨g,hg,hc⟩:=hx hn;refine⟨g,?_,hc⟩;show Value.pointer ((V.γ b.id b.ver).a.map (·.add o))=_;rw[hg];simp only[Option.map_some,Ey]
  cases ag with
  |none=>
   simp only[yu] at h;refine⟨_,h.2,fun hc=> ?_⟩;have ho:=h.1 hc;obtain⟨g,hg,jJ⟩:=key ho;rw[hg,fq];refine BM (zu (cs:=[b.xs.getD o undef]) jD (fun j u hu=> ?_) rfl);cases j with
   |zero=>
    simp only[List.getElem?_cons_zero,dY] at hu;rw[Ak];refine jJ _ _ ?_;rw[<- hu,Nat.add_zero,List.getD_eq_getElem?_getD,List.getElem?_eq_getElem ho];rfl
   |succ j=>simp at hu
  |some k' =>
   simp only[yu] at h;obtain⟨hk,h⟩:=h;refine⟨_,h.2,fun hc=> ?_⟩;have ho:=h.1 hc;obtain⟨g,hg,jJ⟩:=key (by omega);rw[hg,fq];refine BM (zu (cs:=(b.xs.drop o).take k') jD (fun j u hu=> ?_) ⟨by simp only[List.length_take,dG];omega,rfl⟩);rw[Ak];refine jJ _ _ ?_;rw[List.getElem?_take] at hu;split at hu
   ·rw[List.getElem?_drop] at hu;exact hu
   ·cases hu
 ·rename_i ak x q;simp only[A.mk.injEq,Prod.mk.injEq] at q;obtain⟨rfl,rfl⟩:=q;obtain⟨ag,jD,h⟩:=aO h;cases ag with
  |none=>
   simp only[yN] at h;obtain⟨v,h1,h2⟩:=h;refine⟨_,h2,fun hc=> ?_⟩;obtain⟨ad,rfl,jJ⟩:=Uz hS.mle (h1 hc);exact BM (zu jD jJ rfl)
  |some k' =>
   simp only[yN] at h;obtain⟨cs,h1,h2⟩:=h;refine⟨_,h2,fun hc=> ?_⟩;obtain⟨hr,hlen⟩:=h1 hc;obtain⟨ad,rfl,jJ⟩:=Uz hS.mle hr;exact BM (zu jD jJ ⟨hlen,rfl⟩)
 ·cases h
end
open Classical in
noncomputable def nG:List (Value×Value)->Value->Value->List (Value×Value)
 |[],s,x=>[(s,x)]
 |(a,v)::r,s,x=>if a=s then(a,x)::r else(a,v)::nG r s x
open Classical in
noncomputable def nN:List (Value×Value)->Value->Option (Nat×Value)
 |[],_=>none
 |(a,v)::r,s=>if a=s then some (0,v) else(nN r s).map fun x=>(x.1+1,x.2)
theorem Pm (a v:Value) (l:List (Value×Value)):ot ((a,v)::l)=a::v::ot l:=rfl
theorem IX (s:Value):∀(l:List (Value×Value)),mP (ot l) s=(nN l s).map (·.2)
 |[]=>rfl
 |(a,v)::l=>by
  rw[Pm,mP,nN];by_cases h:a=s
  ·rw[ah h,ah h];rfl
  ·rw[af h,af h,IX s l];cases nN l s<;>rfl
theorem P2 (s x:Value):∀(l:List (Value×Value)),wN (ot l) s x=ot (nG l s x)
 |[]=>rfl
 |(a,v)::l=>by
  rw[Pm,wN,nG];by_cases h:a=s
  ·rw[ah h,ah h];rfl
  ·rw[af h,af h,P2 s x l];rfl
theorem JP (s:Value):∀(es:List MapEntry) (i:Nat),xi es s i=(nN (es.map fun e=>(e.key,e.val)) s).map fun x=>(i+x.1,x.2)
 |[],_=>rfl
 |e::es,i=>by
  simp only[xi,bJ,nN];by_cases h:e.key=s
  ·rw[ah h,ah h];rfl
  ·rw[af h,af h,JP s es (i+1)];cases nN (es.map fun e=>(e.key,e.val)) s with
   |none=>rfl
   |some x=>simp only[Option.map_some];rw[show i+1+x.1=i+(x.1+1) by omega]
theorem Si {g:Nat}:∀{l:List (Value×Value)} {s:Value} {y:Nat×Value},(∀x∈l,gW g x.1/\lF g x.2)->nN l s=some y->lF g y.2
 |[],_,_,_,h=>by cases h
 |(a,v)::l,s,y,hl,h=>by
  simp only[nN] at h;split at h
  ·cases h;exact(hl (a,v) (b6 ..)).2
  ·obtain⟨y',h',rfl⟩:=Option.map_eq_some_iff.1 h;exact Si (l:=l) (s:=s) (y:=y') (fun x hx=>hl x (bR _ hx)) h'
theorem RG {g:Nat} {s x:Value} (hs:gW g s) (hx:lF g x):∀{l:List (Value×Value)},(∀y∈l,gW g y.1/\lF g y.2)->∀y∈nG l s x,gW g y.1/\lF g y.2
 |[],_,y,hy=>by
  rw[List.mem_singleton.1 hy];exact⟨hs,hx⟩
 |(a,v)::l,hl,y,hy=>by
  rw[nG] at hy;have ha:=hl (a,v) (b6 ..);have hr:=fun z hz=>hl z (bR _ hz)
  split at hy
  ·rcases List.mem_cons.1 hy with rfl |hy
   ·exact⟨ha.1,hx⟩
   ·exact hr y hy
  ·rcases List.mem_cons.1 hy with rfl |hy
   ·exact ha
   ·exact RG hs hx hr y hy
theorem Zq {P:Program} {t:TypeId} (h:(js P t).2=none):(js P t).1≠1000002:=by
 unfold js at h ⊢;split<;>rename_i hu
 ·rw[hu] at h;simp only at h ⊢;split<;>rename_i hk he
  ·simp
  ·exfalso;revert h;split
   ·simp_all
   ·simp
   ·simp_all
   ·simp_all
  ·simp
  ·simp
 ·simp
theorem YN {g:Nat} {v:Value} (h:lF g v) (hg:g≠1000002):∃b,v= .bool b:=by
 unfold lF at h;rwa [af hg] at h
theorem aba {P:Program} {w:World} {g:Nat} {v:Value} (h:gW g v):(Instr.keyThatStays v v).run P w= .ok v w:=by
 have e:Instr.sameBits 10000 v v=true:=by
  unfold gW at h;split at h
  ·obtain⟨s,n,rfl⟩:=h;have hs:(s==s)=true:=(MapKept.bytes_beq s s).2 rfl;simp [Instr.sameBits,hs]
  ·obtain⟨s,rfl⟩:=h;have hs:(s==s)=true:=(MapKept.bytes_beq s s).2 rfl;simp [Instr.sameBits,hs]
 unfold Instr.keyThatStays;rw[e];rfl
def GD (c:Bool) (z:Value):Option Value->Value
 |some v=>if c=true then .tuple #[v,.bool true] else v
 |none=>if c=true then .tuple #[z,.bool false] else z
section
variable {P:Program} {w:World} {t:TypeId} {r qj:Nat} {es:Array MapEntry} {l:List (Value×Value)}
theorem Sf {g:Nat} (eo:es.toList.map (fun e=>(e.key,e.val))=l) (hk:∀x∈l,gW g x.1/\lF g x.2):∀x∈es.toList,gW g x.key:=fun x hx=>by
 have:(x.key,x.val)∈l:=by rw[<- eo];exact List.mem_map.2 ⟨x,hx,rfl⟩
 exact(hk _ this).1
theorem Yc (ht:wH P t) (hb:w.heap[r]? =some (.map es qj)) (eo:es.toList.map (fun e=>(e.key,e.val))=l) (hk:∀x∈l,gW (js P t).1 x.1/\lF (js P t).1 x.2) {key:Value} (sd:gW (js P t).1 key) (c:Bool):
  (Instr.lookup t (.map (some r)) key c).run P w= .ok (GD c ((js P t).2.getD (.bool false)) (mP (ot l) key)) w:=by
 obtain⟨_,k,e,h1,h2,h3,h4⟩:=ht;have hc:=h2 w key es.isEmpty 9998 sd;have hf:=h3 w key es.toList sd (Sf eo hk);rw[JP,eo] at hf;have hz:=h4 w;rw[IX];cases hx:nN l key with
 |none=>
  rw[hx] at hf;cases c<;>simp [Instr.lookup,run_underlying h1,MapKept.run_getObj_map hb,hc,hf,hz,Result.andThen,GD]
 |some x=>
  rw[hx] at hf;cases c<;>simp [Instr.lookup,run_underlying h1,MapKept.run_getObj_map hb,hc,hf,Result.andThen,GD]
theorem P1 {s x:Value}:∀{l:List (Value×Value)},nN l s=none->nG l s x=l++[(s,x)]
 |[],_=>rfl
 |(a,v)::l,h=>by
  simp only[nN] at h;split at h
  ·cases h
  ·rename_i hs;rw[nG,af hs,P1 (Option.map_eq_none_iff.1 h)];rfl
theorem P0 {s x:Value}:∀{l:List (Value×Value)} {y:Nat×Value},nN l s=some y->∃h:y.1<l.length,l[y.1].1=s/\nG l s x=l.set y.1 (s,x)
 |[],_,h=>by cases h
 |(a,v)::l,y,h=>by
  simp only[nN] at h;split at h
  ·rename_i hs;cases h;exact⟨Nat.zero_lt_succ _,hs,by rw[nG,ah hs,hs];rfl⟩
  ·rename_i hs;obtain⟨y',h',rfl⟩:=Option.map_eq_some_iff.1 h;obtain⟨h1,h2,h3⟩:=P0 (x:=x) h';exact⟨Nat.succ_lt_succ h1,h2,by rw[nG,af hs,h3];rfl⟩
theorem XF (ht:wH P t) (hb:w.heap[r]? =some (.map es qj)) (eo:es.toList.map (fun e=>(e.key,e.val))=l) (hk:∀x∈l,gW (js P t).1 x.1/\lF (js P t).1 x.2) {key:Value} (sd:gW (js P t).1 key) (v:Value):
  ∃zn A1,(Instr.mapUpdate t (.map (some r)) key v).run P w= .ok () {w with heap:=w.heap.setIfInBounds r (.map zn A1)}/\
   zn.toList.map (fun e=>(e.key,e.val))=nG l key v:=by
 obtain⟨_,k,e,h1,h2,h3,h4⟩:=ht;have hc:=h2 w key false 9998 sd;have hf:=h3 w key es.toList sd (Sf eo hk);rw[JP,eo] at hf;cases hx:nN l key with
 |none=>
  rw[hx] at hf;refine⟨es.push {key:=key,val:=v,born:=qj},qj+1,?_,?_⟩
  ·simp [Instr.mapUpdate,run_underlying h1,MapKept.run_getObj_map hb,hc,hf,MapKept.run_setObj_map _ hb,Result.andThen]
  ·rw[P1 hx,Array.toList_push,List.map_append,eo];rfl
 |some y=>
  rw[hx] at hf;obtain⟨hy,hky,hput⟩:=P0 (x:=v) hx;have hlen:es.toList.length=l.length:=by have:=congrArg List.length eo;simpa using this
  have hj:y.1<es.size:=by rw[<- Array.length_toList,hlen];exact hy
  have ahG:(es[y.1]).key=key:=by
   have:=congrArg (·[y.1]?) eo;simp only[List.getElem?_map,Array.getElem?_toList,Array.getElem?_eq_getElem hj,List.getElem?_eq_getElem hy,Option.map_some,dY] at this;rw[<- hky,<- this]
  refine⟨es.modify y.1 fun e=>{e with key:=key,val:=v},qj,?_,?_⟩
  ·simp [Instr.mapUpdate,run_underlying h1,MapKept.run_getObj_map hb,hc,hf,MapKept.run_setObj_map _ hb,Result.andThen,hj,ahG,aba sd]
  ·rw[hput];apply List.ext_getElem?
   intro q;have hq:=congrArg (·[q]?) eo;simp only[List.getElem?_map,Array.getElem?_toList] at hq ⊢;rw[List.getElem?_set,Array.getElem?_modify];by_cases e:y.1=q
   ·subst e;simp [hj,hy]
   ·simp only[af e];exact hq
end
/-! Which maps are so. -/
theorem Nw {s:ByteArray}:∀(es:List MapEntry) (i:Nat),(∀x∈es,∃a,x.key= .string a)->Instr.findNow .string (.string s) es i=some (xi es (.string s) i)
 |[],_,_=>rfl
 |e::es,i,h=>by
  obtain⟨a,ha⟩:=h e (b6 ..);have ih:=Nw (s:=s) es (i+1) fun x hx=>h x (bR _ hx)
  simp only[Instr.findNow,ha,Instr.sameNow,xi];by_cases hs:s=a
  ·have:(s==a)=true:=(MapKept.bytes_beq s a).2 hs;rw[this,ah (by rw[ha,hs])]
  ·have:(s==a)=false:=by
    cases hb:(s==a) with
    |false=>rfl
    |true=>exact absurd ((MapKept.bytes_beq s a).1 hb) hs
   rw[this,af (fun h=>hs (Value.string.inj (ha.symm.trans h)).symm)];exact ih
theorem Jo {g:Nat} {v:Value} (hg:g≠1000001):gW g v↔∃s,v= .string s:=by unfold gW;rw[af hg]
theorem Zp {P:Program} {t k e:TypeId} (h1:P.underlying t=some (.map k e)) (h2:P.underlying k=some .string) (hg:oV<=(js P t).1/\(js P t).1≠1000001)
  (hz:∀w,(zeroValue e).run P w= .ok ((js P t).2.getD (.bool false)) w):wH P t:=by
 refine⟨hg.1,k,e,h1,fun w key em n hk=> ?_,fun w key es hk eo=> ?_,hz⟩
 ·obtain⟨s,rfl⟩:=(Jo hg.2).1 hk;exact MapKept.run_checkKey (P:=P) (w:=w) (kt:=k) h2 (by simp [MapKept.IsKey]) em (n+1)
 ·obtain⟨s,rfl⟩:=(Jo hg.2).1 hk;exact MapKept.run_findKey (P:=P) (w:=w) (kt:=k) h2 (Nw es 0 fun x hx=>(Jo hg.2).1 (eo x hx))
theorem On {P:Program} {e:TypeId} {i:TypeInfo} {z:Value} (h1:P.info? e=some i) (h2:i.zero=some z) (w:World):(zeroValue e).run P w= .ok z w:=by simp [zeroValue,typeInfo,h1,h2]
section
variable {P:Program} {C:Ctx} {n:Nat} {st:LS} {a:Act} {V:Vl} {D:Nat->Nat} {w:World} {K:SV->Prop}
theorem ES {V:Vl}:∀{cs:List SV} {l:List Value},nq cs=some l->cs.map (bL V)=l
 |[],l,h=>by simp only[nq,dY] at h;subst h;rfl
 |s::r,l,h=>by
  simp only[nq,Option.bind_eq_some_iff,Option.map_eq_some_iff] at h;obtain⟨x,hx,l',hl,rfl⟩:=h;simp only[bJ];rw[ES hl];cases s<;>simp only[plain,dY] at hx<;>first |(subst hx;rfl) |cases hx
theorem IH {V:Vl} {s:SV} {v:Value} (h:pJ s=some v):den V s=v:=by
 cases s with
 |v x=>cases h;rfl
 |agg cs=>
  obtain⟨l,hl,rfl⟩:=Option.map_eq_some_iff.1 h;show Value.agg ⟨_⟩=_;rw[ES hl]
 |box k o=>cases h
 |vec k u=>cases h
 |vp k u o=>cases h
 |mp k=>cases h
 |mv f k o=>cases h
 |tup l=>cases h
theorem Tg (hS:Sat C n st a V D w) {k:Nat} {b:Bx} (hb:iD st.bx k=some b) (bM:oV<=b.ty):
  ∃es qj l,w.heap[V.β k]? =some (.map es qj)/\b.cs.map (bL V)=ot l/\es.toList.map (fun e=>(e.key,e.val))=l/\∀x∈l,gW b.ty x.1/\lF b.ty x.2:=by
 obtain⟨rfl,hm⟩:=uS hb;obtain⟨o,ho,hob⟩:=(hS.heap.bx b hm).1;unfold nD at hob;rw[af (Nat.not_lt.2 bM)] at hob;obtain⟨es,qj,l,rfl,h1,h2,h3⟩:=hob;exact⟨es,qj,l,ho,h1,h2,h3⟩
theorem XY (hS:Sat C n st a V D w) {t:TypeId} {c:Bool} {x i:SV} (h:vk (.mk (k:=(P,t,c,K)) (st,x,pJ i))):∃r,K r/\(Instr.lookup t (den V x) (den V i) c).run P w= .ok (den V r) w:=by
 unfold vk at h;split at h
 ·rename_i ak k key q;simp only[A.mk.injEq,Prod.mk.injEq] at q;obtain⟨rfl,rfl,sd⟩:=q;obtain⟨b,hb,bM,ht,hk,h⟩:=aO h;obtain⟨l,hl,hK⟩:=aO h;have bM:=beq_iff_eq.1 bM;obtain⟨es,qj,l',h1,h2,h3,h4⟩:=Tg hS hb (by rw[bM];exact ht.1);rw[ES hl] at h2;rw[bM] at h4 hk;subst h2;have dJ:=Yc (P:=P) (w:=w) ht h1 h3 h4 hk c;rw[IH sd];unfold vm at hK;split at hK
  ·rename_i q;simp only[A.mk.injEq,Prod.mk.injEq] at q;obtain⟨rfl,hz⟩:=q;refine⟨_,hK,?_⟩;rw[hz] at dJ;rw[show Instr.lookup t (den V (.mp k)) key false=Instr.lookup t (.map (some (V.β k))) key false from rfl,dJ];rw[IX];cases hx:nN l' key with
   |none=>rfl
   |some y=>
    obtain⟨bv,hbv⟩:=YN (Si h4 hx) (Zq hz);simp only[Option.map_some,GD,hbv];rfl
  ·rename_i z q;simp only[A.mk.injEq,Prod.mk.injEq] at q;obtain⟨rfl,hz⟩:=q;rw[hz] at dJ;cases hf:mP (ot l') key with
   |none=>
    rw[hf] at dJ;exact⟨_,hK.2 hf,dJ⟩
   |some v=>
    rw[hf] at dJ;exact⟨_,hK.1 v hf,dJ⟩
  ·rename_i z q;simp only[A.mk.injEq,Prod.mk.injEq] at q;obtain⟨rfl,hz⟩:=q;rw[hz] at dJ;cases hf:mP (ot l') key with
   |none=>
    rw[hf] at dJ;exact⟨_,hK.2 hf,dJ⟩
   |some v=>
    rw[hf] at dJ;exact⟨_,hK.1 v hf,dJ⟩
  ·cases hK
 ·cases h
end
section
variable {C:Ctx} {n:Nat} {st:LS} {a:Act} {V:Vl} {D:Nat->Nat} {w:World} {P:Program} {p:bX} {K:SV->Prop} {c:Bool}
theorem PT:∀(l cs:List SV) (off:Nat),(lG cs off l).length=cs.length
 |[],_,_=>rfl
 |c::r,cs,off=>by simp only[lG];rw[PT r];simp
theorem Jq {V:Vl}:∀(l:List SV) (cs:List SV) (off k:Nat),
  (List.zipIdx (l.map (bL V)) k).foldl (fun(cs:Array Value) (x:Value×Nat)=>cs.setIfInBounds (off+x.2) x.1) ⟨cs.map (bL V)⟩=⟨(lG cs (off+k) l).map (bL V)⟩
 |[],_,_,_=>rfl
 |c::r,cs,off,k=>by
  simp only[bJ,List.zipIdx_cons,List.foldl_cons,lG];have:(⟨cs.map (bL V)⟩:Array Value).setIfInBounds (off+k) (bL V c)=⟨(cs.set (off+k) c).map (bL V)⟩:=by
   apply Array.ext'
   simp
  rw[this,Jq r (cs.set (off+k) c) off (k+1)];rfl
theorem PV {α β:Type} (f:α->Sem β) (g:α->β):∀(l:List α),(∀x∈l,∀w,(f x).run P w= .ok (g x) w)->∀w,(l.mapM f).run P w= .ok (l.map g) w
 |[],_,w=>by simp
 |x::r,h,w=>by
  simp only[List.mapM_cons,Sem.run_bind,h x (b6 ..),Result.andThen_ok,PV f g r (fun y hy=>h y (bR _ hy)),Sem.run_pure,bJ]
theorem aau {α β:Type} (f:α->Sem β) (g:α->β) (l:Array α) (h:∀x∈l.toList,∀w,(f x).run P w= .ok (g x) w):(l.mapM f).run P w= .ok (l.map g) w:=by
 obtain⟨l⟩:=l;simp only[List.mapM_toArray,Sem.run_map,PV f g l h,Result.andThen_ok];simp
theorem Ig {t:TypeId} {cs:List SV} (h:fC P t=some cs):∃z,(zeroValue t).run P w= .ok z w/\z.cells=⟨cs.map (bL V)⟩:=by
 unfold fC at h;simp only[Option.map_eq_some_iff,Option.bind_eq_some_iff] at h;obtain⟨z,⟨i,hi,hz⟩,rfl⟩:=h;refine⟨z,by simp [zeroValue,typeInfo,hi,hz],?_⟩;rw[AE]
theorem Nl (hS:Sat C n st a V D w) (hp:gz st.rho p) (hc:cI st.rho p=true) {t:TypeId} {fs:Array Field} (hf:P.underlying t=some (.struct fs)):
  ∀(parts:List (Nat×Operand)) (cs ck:List SV),wo P t st p parts cs=some ck->
   Instr.fill (fun i=>(fs.map fun f=>(f.offset,bZ P f.type))[i]?) ⟨cs.map (bL V)⟩ (parts.map fun x=>(x.1,a.eval x.2))=some ⟨ck.map (bL V)⟩
 |[],cs,ck,h=>by simp only[wo,dY] at h;subst h;rfl
 |(i,x)::r,cs,ck,h=>by
  simp only[wo,Option.bind_eq_some_iff] at h;obtain⟨⟨off,ag,sz⟩,hfo,l,⟨s,hs,hl⟩,h⟩:=h;split at h
  ·rename_i dp;split at h
   ·rename_i vw;dsimp only at dp vw h;obtain⟨fs',y,hs',hy,rfl,_,_,rfl⟩:=Jr hfo;rw[hf] at hs';cases hs';have qX:=dL hS hp hc hs;have cu:=Ez (V:=V) hl;have Da:(a.eval x).cells.size=l.length:=by rw[qX,cu];simp
    have j6:(fs.map fun f=>(f.offset,bZ P f.type))[i]? =some (y.offset,bZ P y.type):=by
     simp [Array.getElem?_map,hy]
    simp only[bJ,Instr.fill,j6]
    rw[af (by
     simp only[Da,List.size_toArray,List.length_map,Bool.or_eq_true,bu,not_or,Decidable.not_not]
     exact⟨by simpa using dp,by omega⟩)]
    have KU:((a.eval x).cells.zipIdx.foldl (fun(cs:Array Value) (x:Value×Nat)=>cs.setIfInBounds (y.offset+x.2) x.1) ⟨cs.map (bL V)⟩)=⟨(lG cs y.offset l).map (bL V)⟩:=by
     rw[qX,cu,<- Array.foldl_toList];have:=Jq (V:=V) l cs y.offset 0;simp only[Nat.add_zero] at this;rw[<- this];simp [Array.toList_zipIdx]
    have ih:=Nl hS hp hc hf r _ ck h;rw[<- ih,<- KU]
   ·cases h
  ·cases h
theorem YV {fs:Array Field} (h:(fs.toList.all fun x=>(P.info? x.type).isSome)=true):
  (fs.mapM (m:=Sem) fun(f:Field)=>do pure (f.offset,<- sizeOf f.type)).run P w= .ok (fs.map fun f=>(f.offset,bZ P f.type)) w:=by
 refine aau _ _ fs (fun x hx w=> ?_);have:=List.all_eq_true.1 h x hx;obtain⟨i,hi⟩:=Option.isSome_iff_exists.1 this;simp [sizeOf,typeInfo,hi,bZ]
theorem Xz (hS:Sat C n st a V D w) (hp:gz st.rho p) (hc:cI st.rho p=true) {t:TypeId} {parts:Array (Nat×Operand)} {z cs:List SV}
  (hb:oc P t=true) (hz:fC P t=some z) (h:wo P t st p parts.toList z=some cs):
  (Instr.build t (parts.map fun x=>(x.1,a.eval x.2))).run P w= .ok (.agg ⟨cs.map (bL V)⟩) w:=by
 unfold oc at hb;split at hb
 ·rename_i fs hf;obtain⟨zv,hzv,hzc⟩:=Ig (V:=V) (w:=w) hz;have AH:=Nl hS hp hc hf parts.toList z cs h;simp only[Instr.build,Sem.run_bind,hzv,Result.andThen_ok,run_underlying hf,YV hb,hzc];have:(parts.map fun x=>(x.1,a.eval x.2)).toList=parts.toList.map fun x=>(x.1,a.eval x.2):=by simp
  rw[this,AH];simp
 ·cases hb
theorem RE (hS:Sat C n st a V D w) (hp:gz st.rho p) (hc:cI st.rho p=true) {x:Option Operand} {s:Option SV} (h:yv st p x=some s):x.map a.eval=s.map (den V):=by
 cases x with
 |none=>simp only[yv,dY] at h;subst h;rfl
 |some x=>
  simp only[yv,Option.map_eq_some_iff] at h;obtain⟨s,hs,rfl⟩:=h;simp only[Option.map_some,dL hS hp hc hs]
theorem IN {s r:SV} (h:nY s=some r):den V r=nM V s:=by
 cases s<;>simp only[nY,dY] at h<;>first |(subst h;rfl) |cases h
theorem X2 {x:SV} {i:Nat} (h:vo (.mk (k:=K) (x,i))):∃r,K r/\(Instr.extract (den V x) i).run P w= .ok (den V r) w:=by
 unfold vo at h;split at h
 ·rename_i l i' q;simp only[A.mk.injEq,Prod.mk.injEq] at q;obtain⟨rfl,rfl⟩:=q;obtain⟨r,hr,hK⟩:=aO h;obtain⟨s,hs,hr⟩:=vS hr;refine⟨r,hK,?_⟩;have:(⟨l.map (nM V)⟩:Array Value)[i]? =some (den V r):=by
   rw[<- Array.getElem?_toList];simp only[List.getElem?_map,hs,Option.map_some,IN hr]
  rw[ad5];simp only[Instr.extract,this,Sem.run_pure]
 ·rename_i l i' q;simp only[A.mk.injEq,Prod.mk.injEq] at q;obtain⟨rfl,rfl⟩:=q;obtain⟨r,hr,hK⟩:=aO h;simp only[Option.map_eq_some_iff] at hr;obtain⟨v,hv,rfl⟩:=hr;refine⟨_,hK,?_⟩;have:(⟨l⟩:Array Value)[i]? =some v:=by rw[<- Array.getElem?_toList];exact hv
  simp only[fq,Instr.extract,this,Sem.run_pure]
 ·cases h
theorem XZ (hS:Sat C n st a V D w) {t ty:TypeId} {x:SV} (h:tO (.mk (k:=(P,t,K)) (st,x))):∃r,K r/\(Builtin.len_ #[t] ty #[den V x]).run P w= .ok (den V r) w:=by
 unfold tO at h;split at h
 ·rename_i ak s q;simp only[A.mk.injEq,Prod.mk.injEq] at q;obtain⟨rfl,rfl⟩:=q;refine⟨_,h.2,?_⟩;simp [Builtin.len_,run_underlying h.1,fq,goInt,Ao]
 ·rename_i ak x m cp q;simp only[A.mk.injEq,Prod.mk.injEq] at q;obtain⟨rfl,rfl⟩:=q;obtain⟨e,he,hK⟩:=aO h;refine⟨_,hK,?_⟩;simp [Builtin.len_,run_underlying (oF he),fq,goInt]
 ·rename_i ak k v q;simp only[A.mk.injEq,Prod.mk.injEq] at q;obtain⟨rfl,rfl⟩:=q;obtain⟨e,he,h⟩:=aO h;obtain⟨b,hb,hK⟩:=aO h;obtain⟨hv,rfl,rfl⟩:=yk hS hb;obtain⟨hn,_,_⟩:=yc hv.1;refine⟨_,hK,?_⟩;show(Builtin.len_ #[t] ty #[(V.γ b.id b.ver).val]).run P w=_;unfold Hd.val;simp [Builtin.len_,run_underlying (oF he),fq,goInt,hn]
 ·cases h
theorem XW {ts:Array TypeId} {ty:TypeId} {x y:SV} (h:wL (.mk (k:=K) (x,y))):∃r,K r/\(Builtin.min_ ts ty #[den V x,den V y]).run P w= .ok (den V r) w:=by
 unfold wL at h;split at h
 ·rename_i k i k' j q;simp only[A.mk.injEq,Prod.mk.injEq] at q;obtain⟨rfl,rfl⟩:=q;exact⟨_,h,by simp [Builtin.min_,Builtin.min2,fq]⟩
 ·cases h
theorem XX {ts:Array TypeId} {ty:TypeId} {x y:SV} (h:wM (.mk (k:=K) (x,y))):∃r,K r/\(Builtin.max_ ts ty #[den V x,den V y]).run P w= .ok (den V r) w:=by
 unfold wM at h;split at h
 ·rename_i k i k' j q;simp only[A.mk.injEq,Prod.mk.injEq] at q;obtain⟨rfl,rfl⟩:=q;exact⟨_,h,by simp [Builtin.max_,Builtin.max2,fq]⟩
 ·cases h
theorem Xl {ts:Array TypeId} {ty:TypeId} {x y z u:SV} (h:wB (.mk (k:=K) (x,y,z,u))):∃r,K r/\(Builtin.max_ ts ty #[den V x,den V y,den V z,den V u]).run P w= .ok (den V r) w:=by
 unfold wB at h;split at h
 ·rename_i k a k' b k2 c k3 d q;simp only[A.mk.injEq,Prod.mk.injEq] at q;obtain⟨rfl,rfl,rfl,rfl⟩:=q;exact⟨_,h,by simp [Builtin.max_,Builtin.max2,fq,mx]<;>rfl⟩
 ·cases h
theorem Xj (hS:Sat C n st a V D w) (hp:gz st.rho p) {g:Gd} {x y:Operand} (hg:g∈st.rho) (h:vb (.mk (k:=(p,x,y,st,g,K)) (CX x y))):
  ∃r,K r/\(cI st.rho p=true->a.tmps.getD g.slot undef= .bool g.b.val/\(if g.b.val=true then a.eval x else a.eval y)=den V r):=by
 obtain⟨lO,kP,C9⟩:=hS.rho g hg;have jJ:cI st.rho p=true->oy g.p p=true->a.tmps.getD g.slot undef= .bool g.b.val/\cI st.rho g.p=true:=fun hc hs=>by
  have:=E6 hs hc;rw[this,ah rfl] at C9;exact⟨by simp [C9],this⟩
 have side:∀b,g.b.val=b->cI st.rho g.p=true->cI st.rho ((g.i,b)::g.p)=true:=fun b hb hc=>by
  simp only[cI,FK lO,hb,hc,Bool.and_true];cases b<;>simp
 have wZ:∀b,gz st.rho ((g.i,b)::g.p):=fun b x hx=>by
  rcases List.mem_cons.1 hx with rfl |hx
  ·exact⟨g,lO⟩
  ·exact kP x hx
 unfold vb at h;split at h
 ·rename_i i s q _;obtain⟨hs,h⟩:=h;obtain⟨r,hr,hK⟩:=aO h;refine⟨r,hK,fun hc=> ?_⟩;obtain⟨h1,h2⟩:=jJ hc hs;exact⟨h1,by simp only[GB.val,if_true];exact dL hS (wZ true) (side true rfl h2) hr⟩
 ·rename_i i s q _;obtain⟨hs,h⟩:=h;obtain⟨r,hr,hK⟩:=aO h;refine⟨r,hK,fun hc=> ?_⟩;obtain⟨h1,h2⟩:=jJ hc hs;exact⟨h1,by simp only[GB.val,Bool.false_eq_true,if_false];exact dL hS (wZ false) (side false rfl h2) hr⟩
 ·rename_i i s q b md heq;obtain⟨hs,h⟩:=h;obtain⟨sx,hx,h⟩:=aO h;obtain⟨sy,hy,h⟩:=aO h;have MN:cI st.rho p=true->b=true->a.eval x=den V sx:=fun hc hb=>dL hS (wZ true) (side true hb (jJ hc hs).2) hx
  have MM:cI st.rho p=true->b=false->a.eval y=den V sy:=fun hc hb=>dL hS (wZ false) (side false hb (jJ hc hs).2) hy
  unfold vd at h;split at h
  ·rename_i b' a1 q';simp only[A.mk.injEq,Prod.mk.injEq] at q';obtain⟨rfl,rfl,rfl⟩:=q';refine⟨_,h,fun hc=>⟨(jJ hc hs).1,?_⟩⟩;cases b with
   |true=>simp only[GB.val,if_true,MN hc rfl,fq,Bool.true_and]
   |false=>simp only[GB.val,Bool.false_eq_true,if_false,MM hc rfl,fq,Bool.false_and]
  ·rename_i b' a1 q';simp only[A.mk.injEq,Prod.mk.injEq] at q';obtain⟨rfl,rfl,rfl⟩:=q';refine⟨_,h,fun hc=>⟨(jJ hc hs).1,?_⟩⟩;cases b with
   |true=>simp only[GB.val,if_true,MN hc rfl,fq,Bool.true_or]
   |false=>simp only[GB.val,Bool.false_eq_true,if_false,MM hc rfl,fq,Bool.false_or]
  ·rename_i b' a1 a2 q';simp only[A.mk.injEq,Prod.mk.injEq] at q';obtain⟨rfl,rfl,rfl⟩:=q';refine⟨_,h,fun hc=>⟨(jJ hc hs).1,?_⟩⟩;cases b with
   |true=>simp only[GB.val,if_true,MN hc rfl,fq,cond_true]
   |false=>simp only[GB.val,Bool.false_eq_true,if_false,MM hc rfl,fq,cond_false]
  ·cases h
theorem IF (hS:Sat C n st a V D w) (hp:gz st.rho p) {o:Oper} {op:Op} (ho:o.op=op) (h:qOp (.mk (k:=(P,op,K)) (st,p))):
  ∃s,K s/\(cI st.rho p=true->(execOp a.eval o).run P w= .ok (.value (den V s)) w):=by
 unfold qOp at h;split at h
 ·rename_i x ak p' q;cases q;obtain⟨s,hs,hK⟩:=aO h;exact⟨s,hK,fun hc=>by simp only[execOp,ho,Sem.run_pure,dL hS hp hc hs]⟩
 ·rename_i x ak p' q;cases q;obtain⟨s,hs,hK⟩:=aO h;exact⟨s,hK,fun hc=>by simp only[execOp,ho,Sem.run_pure,dL hS hp hc hs]⟩
 ·rename_i t x y ak p' q;cases q;obtain⟨g,hg,h'⟩:=aO h;obtain⟨fG,hm⟩:=aa4 hg;obtain⟨r,hK,hr⟩:=Xj hS hp hm h';refine⟨r,hK,fun hc=> ?_⟩;obtain⟨h1,h2⟩:=hr hc;have he:a.eval (.tmp t)= .bool g.b.val:=by rw[<- fG];exact h1
  simp only[execOp,ho,he,asBool,Sem.run_bind,Sem.run_pure,Result.andThen_ok,h2]
 ·rename_i x ak p' q;cases q;obtain⟨s,hs,h⟩:=aO h;obtain⟨r,hK,e,hn⟩:=XV (V:=V) h;refine⟨r,hK,fun hc=> ?_⟩;have qX:=dL hS hp hc hs;rw[e,<- qX];exact abC ho (by rw[qX];exact hn hc)
 ·rename_i Wn t x t' ak p' q;cases q;obtain⟨sx,hx,h⟩:=aO h;obtain⟨r,hK,hr⟩:=Xk (V:=V) (w:=w) (o:=x) h;refine⟨r,hK,fun hc=> ?_⟩;have:=kV (hr hc);rw[<- dL hS hp hc hx] at this;simp only[execOp,ho];exact this
 ·rename_i Wn t x y t' ak p' _ q;cases q;obtain⟨sx,hx,h⟩:=aO h;obtain⟨sy,hy,h⟩:=aO h;obtain⟨r,hK,hr⟩:=YC (V:=V) (w:=w) (o:=x) (o' :=y) h;refine⟨r,hK,fun hc=> ?_⟩;have:=kV (hr hc);rw[<- dL hS hp hc hx,<- dL hS hp hc hy] at this;simp only[execOp,ho];exact this
 ·rename_i uop t x ak p' q;cases q;obtain⟨sx,hx,h⟩:=aO h;obtain⟨r,hK,hr⟩:=Y0 (V:=V) (w:=w) (P:=P) h;refine⟨r,hK,fun hc=> ?_⟩;have:=kV (hr hc);rw[<- dL hS hp hc hx] at this;simp only[execOp,ho];exact this
 ·rename_i src dst x ak p' q;cases q;obtain⟨sx,hx,h⟩:=aO h;obtain⟨r,hK,hr⟩:=Xm hS h;refine⟨r,hK,fun hc=> ?_⟩;have:=kV (hr hc);rw[<- dL hS hp hc hx] at this;simp only[execOp,ho];exact this
 ·rename_i s x f ak p' q;cases q;obtain⟨sx,hx,h⟩:=aO h;obtain⟨⟨off,ag,sz⟩,hf,h⟩:=aO h;obtain⟨r,hK,hr⟩:=X1 hS hf h;refine⟨r,hK,fun hc=> ?_⟩;have:=kV (hr hc);rw[<- dL hS hp hc hx] at this;simp only[execOp,ho];exact this
 ·rename_i s x f ak p' q;cases q;obtain⟨cs,gD,h⟩:=aO h;obtain⟨sx,hx,gD⟩:=vS gD;obtain⟨⟨off,ag,sz⟩,hf,h⟩:=aO h;obtain⟨r,hr,hK⟩:=aO h;refine⟨r,hK,fun hc=> ?_⟩;have:=kV (WU (V:=V) (w:=w) hf gD hr);rw[<- dL hS hp hc hx] at this;simp only[execOp,ho];exact this
 ·rename_i t x i ak p' q;cases q;obtain⟨sx,hx,h⟩:=aO h;obtain⟨si,hi,h⟩:=aO h;obtain⟨e,he,h⟩:=aO h;obtain⟨r,hK,hr⟩:=X0 hS he h;refine⟨r,hK,fun hc=> ?_⟩;have:=kV (hr hc);rw[<- dL hS hp hc hx,<- dL hS hp hc hi] at this;simp only[execOp,ho];exact this
 ·rename_i t x i ak p' q;cases q;obtain⟨sx,hx,h⟩:=aO h;obtain⟨si,hi,h⟩:=aO h;obtain⟨r,hK,hr⟩:=Y6 (V:=V) (w:=w) h;refine⟨r,hK,fun hc=> ?_⟩;have:=kV (hr hc);rw[<- dL hS hp hc hx,<- dL hS hp hc hi] at this;simp only[execOp,ho];exact this
 ·rename_i t x lo hi ak p' q;cases q;obtain⟨sx,hx,h⟩:=aO h;obtain⟨sl,hl,h⟩:=aO h;obtain⟨sh,hh,h⟩:=aO h;obtain⟨r,hK,hr⟩:=Y1 (V:=V) (w:=w) h;refine⟨r,hK,fun hc=> ?_⟩;have:=kV (hr hc);rw[<- dL hS hp hc hx,<- RE hS hp hc hl,<- RE hS hp hc hh] at this;simp only[execOp,ho];exact this
 ·rename_i t x ak p' q;cases q;obtain⟨sx,hx,h⟩:=aO h;obtain⟨r,hK,hr⟩:=Nt hS h;refine⟨r,hK,fun hc=> ?_⟩;have:=kV (hr hc);rw[<- dL hS hp hc hx] at this;simp only[execOp,ho];exact this
 ·rename_i x i ak p' q;cases q;obtain⟨sx,hx,h⟩:=aO h;obtain⟨r,hK,hr⟩:=X2 (V:=V) (P:=P) (w:=w) h;refine⟨r,hK,fun hc=> ?_⟩;have:=kV hr;rw[<- dL hS hp hc hx] at this;simp only[execOp,ho];exact this
 ·rename_i t parts ak p' q;cases q;obtain⟨hb,h⟩:=h;obtain⟨z,hz,h⟩:=aO h;obtain⟨cs,gD,hK⟩:=aO h;refine⟨_,hK,fun hc=> ?_⟩;simp only[execOp,ho];exact kV (Xz hS hp hc hb hz gD)
 ·rename_i x t ak p' q;cases q;obtain⟨sx,hx,h⟩:=aO h;obtain⟨r,hK,hr⟩:=XZ (ty:=o.type) hS h;refine⟨r,hK,fun hc=> ?_⟩;rw[<- dL hS hp hc hx] at hr;simp only[execOp,ho,resolve,Sem.run_bind,Sem.run_pure,Result.andThen_ok,invoke,builtin];simp only[List.map_toArray,bJ,List.map_nil,hr,Result.andThen_ok]
 ·rename_i x y ts ak p' q;cases q;obtain⟨sx,hx,h⟩:=aO h;obtain⟨sy,hy,h⟩:=aO h;obtain⟨r,hK,hr⟩:=XW (V:=V) (P:=P) (w:=w) (ts:=ts) (ty:=o.type) h;refine⟨r,hK,fun hc=> ?_⟩;rw[<- dL hS hp hc hx,<- dL hS hp hc hy] at hr;simp only[execOp,ho,resolve,Sem.run_bind,Sem.run_pure,Result.andThen_ok,invoke,builtin];simp only[List.map_toArray,bJ,List.map_nil,hr,Result.andThen_ok]
 ·rename_i t x i cm ak p' q;cases q;obtain⟨sx,hx,h⟩:=aO h;obtain⟨si,hi,h⟩:=aO h;obtain⟨r,hK,hr⟩:=XY hS h;refine⟨r,hK,fun hc=> ?_⟩;have:=kV hr;rw[<- dL hS hp hc hx,<- dL hS hp hc hi] at this;simp only[execOp,ho];exact this
 ·rename_i x y ts ak p' q;cases q;obtain⟨sx,hx,h⟩:=aO h;obtain⟨sy,hy,h⟩:=aO h;obtain⟨r,hK,hr⟩:=XX (V:=V) (P:=P) (w:=w) (ts:=ts) (ty:=o.type) h;refine⟨r,hK,fun hc=> ?_⟩;rw[<- dL hS hp hc hx,<- dL hS hp hc hy] at hr;simp only[execOp,ho,resolve,Sem.run_bind,Sem.run_pure,Result.andThen_ok,invoke,builtin];simp only[List.map_toArray,bJ,List.map_nil,hr,Result.andThen_ok]
 ·rename_i x y z u ts ak p' q;cases q;obtain⟨sx,hx,h⟩:=aO h;obtain⟨sy,hy,h⟩:=aO h;obtain⟨sz,hz,h⟩:=aO h;obtain⟨su,hu,h⟩:=aO h;obtain⟨r,hK,hr⟩:=Xl (V:=V) (P:=P) (w:=w) (ts:=ts) (ty:=o.type) h;refine⟨r,hK,fun hc=> ?_⟩;rw[<- dL hS hp hc hx,<- dL hS hp hc hy,<- dL hS hp hc hz,<- dL hS hp hc hu] at hr;simp only[execOp,ho,resolve,Sem.run_bind,Sem.run_pure,Result.andThen_ok,invoke,builtin];simp only[List.map_toArray,bJ,List.map_nil,hr,Result.andThen_ok]
 ·cases h
end
theorem M8 {d d' :Nat} {o o' Vj:Option Obj} (hd:d<=d') (h:tr d o o') (h' :tr d' o' Vj):tr d o Vj:=by
 unfold tr at h;split at h
 ·rename_i c t f;obtain⟨c',t',f',rfl,h1⟩:=h;obtain⟨c'',t'',f'',rfl,h2⟩:=h';exact⟨c'',t'',f'',rfl,fun j hj=>(h2 j (by omega)).trans (h1 j hj)⟩
 ·rename_i db;subst h;unfold tr at h' ⊢;split
  ·exact absurd rfl (db _ _ _)
  ·split at h'
   ·exact absurd rfl (db _ _ _)
   ·exact h'
theorem uC {d:Nat} {o o' :Option Obj} (h:o' =o):tr d o o' :=by
 subst h;unfold tr;split
 ·exact⟨_,_,_,rfl,fun _ _=>rfl⟩
 ·rfl
theorem Mem.le_refl (m:Mem) (h:Wf m.w m.D):m.le m:=fun b=>⟨av _,fun h0=>⟨by
 rcases Nat.lt_or_ge b m.w.heap.size with h1 |h1
 ·exact h1
 ·rw[h b h1] at h0;omega,uC rfl⟩⟩
theorem Mem.le_trans {m m' ku:Mem} (h:m.le m') (h' :m'.le ku):m.le ku:=fun b=>
 ⟨cX (h b).1 (h' b).1,fun h0=>⟨((h b).2 h0).1,M8 (h b).1 ((h b).2 h0).2 ((h' b).2 (eP h0 (h b).1)).2⟩⟩
theorem Mem.le_same {w w' :World} {D D' :Nat->Nat} (hw:Wf w D) (h:∀b,b<w.heap.size->D b<=D' b/\(0<D b->w'.heap[b]? =w.heap[b]?)):Mem.le ⟨w,D⟩ ⟨w',D'⟩:=fun b=>by
 rcases Nat.lt_or_ge b w.heap.size with h1 |h1
 ·exact⟨(h b h1).1,fun h0=>⟨h1,uC ((h b h1).2 h0)⟩⟩
 ·have:=hw b h1;exact⟨by dsimp only;omega,fun h0=>by dsimp only at h0;omega⟩
theorem Frm.refl (F:Nat->Prop) (w:World) (D:Nat->Nat):Frm F w D w D:=⟨rfl,rfl,rfl,av _,fun _ _ _=>⟨rfl,rfl⟩⟩
theorem Frm.trans {F S:Nat->Prop} {w w' qP:World} {D D' Ws:Nat->Nat} (h:Frm F w D w' D') (h' :Frm S w' D' qP Ws) (hs:∀b,S b->F b\/w.heap.size<=b):Frm F w D qP Ws:=
 ⟨h'.os.trans h.os,h'.tape.trans h.tape,h'.output.trans h.output,cX h.size h'.size,fun b hb hF=>by
  have h1:=h.same b hb hF;have h2:=h'.same b (eP hb h.size) (fun hS=>(hs b hS).elim hF (fun h3=>by omega))
  exact⟨h2.1.trans h1.1,h2.2.trans h1.2⟩⟩
/-! Values that name no block that is yet to come. -/
def Agree (nid:Nat) (vc:List Vc) (V V' :Vl):Prop:=∀k,k<nid->V'.β k=V.β k/\∀u,cG vc k u->V'.γ k u=V.γ k u
structure Step (nid:Nat) (vc:List Vc) (jc:Nat) (fh:List Vc) (V V' :Vl):Prop where
 agr:Agree nid vc V V'
 up:nid<=jc
 ver:∀k u,k<nid->cG vc k u->cG fh k u
theorem Agree.refl (nid:Nat) (vc:List Vc) (V:Vl):Agree nid vc V V:=fun _ _=>⟨rfl,fun _ _=>rfl⟩
section
variable {nid:Nat} {vc:List Vc} {V V' :Vl}
theorem zJ (h:Agree nid vc V V') {s:SV} (hs:mf nid vc s):bL V' s=bL V s:=by
 cases s with
 |v x=>rfl
 |box k o=>show Value.pointer _=_;rw[(h k hs).1];rfl
 |vec k u=>show(V'.γ k u).val=_;rw[(h k hs.1).2 u hs.2];rfl
 |vp k u o=>show Value.pointer ((V'.γ k u).a.map _)=_;rw[(h k hs.1).2 u hs.2];rfl
 |mp k=>show Value.map _=_;rw[(h k hs).1];rfl
 |mv f k o=>show Value.func _ _ _=_;rw[(h k hs).1];rfl
 |agg cs=>rfl
 |tup l=>rfl
theorem zI (h:Agree nid vc V V'):∀{l:List SV},fO nid vc l->l.map (bL V')=l.map (bL V)
 |[],_=>rfl
 |s::r,hs=>by simp only[bJ];rw[zJ h hs.1,zI h hs.2]
theorem xI (h:Agree nid vc V V') {s:SV} (hs:okB nid vc s):nM V' s=nM V s:=by
 cases s with
 |agg cs=>simp only[nM];rw[zI h hs]
 |v x=>rfl
 |box k o=>exact zJ (s:= .box k o) h hs
 |vec k u=>exact zJ (s:= .vec k u) h hs
 |vp k u o=>exact zJ (s:= .vp k u o) h hs
 |mp k=>exact zJ (s:= .mp k) h hs
 |mv f k o=>exact zJ (s:= .mv f k o) h hs
 |tup l=>rfl
theorem Oh (h:Agree nid vc V V'):∀{l:List SV},yP nid vc l->l.map (nM V')=l.map (nM V)
 |[],_=>rfl
 |s::r,hs=>by simp only[bJ];rw[xI h hs.1,Oh h hs.2]
theorem E2 (h:Agree nid vc V V') {s:SV} (hs:jA nid vc s):den V' s=den V s:=by
 cases s with
 |tup l=>simp only[den];rw[Oh h hs]
 |v x=>rfl
 |box k o=>exact xI (s:= .box k o) h hs
 |vec k u=>exact xI (s:= .vec k u) h hs
 |vp k u o=>exact xI (s:= .vp k u o) h hs
 |mp k=>exact xI (s:= .mp k) h hs
 |mv f k o=>exact xI (s:= .mv f k o) h hs
 |agg cs=>exact xI (s:= .agg cs) h hs
theorem Sb:∀{env:List Ev} {t:Nat} {p:bX} {s:SV},gi env t p=some s->∃e∈env,e.s=s
 |⟨t',p',s'⟩::r,t,p,s,h=>by
  simp only[gi] at h;split at h
  ·split at h
   ·cases h;exact⟨_,b6 ..,rfl⟩
   ·cases h
  ·obtain⟨e,he,hs⟩:=Sb h;exact⟨e,bR _ he,hs⟩
theorem SatF.agree {n:Nat} {env:List Ev} {rho:List Gd} {a:Act} (hf:SatF n env rho a V) (se:∀e∈env,jA nid vc e.s) (h:Agree nid vc V V'):SatF n env rho a V' :=
 ⟨hf.defers,hf.size,hf.pth,fun t p s hp hl hc=>by
  obtain⟨e,he,rfl⟩:=Sb hl
  rw[hf.env t p _ hp hl hc,E2 h (se e he)],hf.rho⟩
end
section
variable {V V' :Vl} {D D' :Nat->Nat} {w w' :World} {H:Hp}
theorem JG {e:TypeId} {sz m:Nat} {xs:List Value} {h:Hd} (ho:w.ownsRow 0 e sz h.val m xs) {g:Nat} (hg:h.blk=some g):h.val.ownBlock=some g/\g<w.heap.size:=by
 have:h.val.ownBlock=some g:=by
  unfold Hd.val Value.ownBlock;unfold Hd.blk at hg;cases ha:h.a with
  |none=>rw[ha] at hg;cases hg
  |some ad=>rw[ha] at hg;exact hg
 exact⟨this,(ho.lt g this).2⟩
theorem wb (h:HSat V D w H):∀b∈br V H,b<w.heap.size:=by
 intro b hb;simp only[br,List.mem_append,List.mem_map,List.mem_filterMap] at hb;rcases hb with ⟨x,hx,rfl⟩ |⟨x,hx,hb⟩
 ·obtain⟨o,ho,_⟩:=(h.bx x hx).1;exact(Array.getElem?_eq_some_iff.1 ho).1
 ·exact(JG (h.vc x hx).1 hb).2
theorem Qe {e:TypeId} {sz m:Nat} {xs:List Value} {h:Hd} (ho:w.ownsRow 0 e sz h.val m xs) (hw:∀g,h.blk=some g->w'.heap[g]? =w.heap[g]?):w'.ownsRow 0 e sz h.val m xs:=by
 refine⟨ho.1,?_⟩;rcases ho.2 with hn |⟨g,cap,cur,hv,hb,hh,rest⟩
 ·exact .inl hn
 ·refine .inr ⟨g,cap,cur,hv,hb,?_,rest⟩
  rw[hw g (by
   simp only[Hd.val,Value.slice.injEq] at hv
   simp [Hd.blk,hv.1])]
  exact hh
theorem Er {α β:Type} {f g:α->Option β}:∀{l:List α},(∀x∈l,f x=g x)->l.filterMap f=l.filterMap g
 |[],_=>rfl
 |x::r,h=>by
  rw[List.filterMap_cons,List.filterMap_cons,h x (b6 ..),Er fun y hy=>h y (bR _ hy)]
theorem Cs (hb:∀b∈H.bx,V'.β b.id=V.β b.id) (hv:∀b∈H.vc,V'.γ b.id b.ver=V.γ b.id b.ver):br V' H=br V H:=by
 unfold br;congr 1
 ·exact List.map_congr_left hb
 ·exact Er fun x hx=>by rw[hv x hx]
theorem HSat.frame (h:HSat V D w H) (hb:∀b∈H.bx,V'.β b.id=V.β b.id/\b.cs.map (bL V')=b.cs.map (bL V)) (hv:∀b∈H.vc,V'.γ b.id b.ver=V.γ b.id b.ver)
  (hw:∀g∈br V H,w'.heap[g]? =w.heap[g]? /\D' g=D g):HSat V' D' w' H:=by
 refine⟨fun b hm=> ?_,fun b hm=> ?_,by rw[Cs (fun b hm=>(hb b hm).1) hv];exact h.apart,h.uniq⟩
 ·have gQ:V.β b.id∈br V H:=by
   simp only[br,List.mem_append,List.mem_map];exact .inl ⟨b,hm,rfl⟩
  obtain⟨h1,h2⟩:=h.bx b hm;unfold Ep;rw[(hb b hm).1,(hb b hm).2,(hw _ gQ).1,(hw _ gQ).2];exact⟨h1,h2⟩
 ·have gQ:∀g,(V.γ b.id b.ver).blk=some g->g∈br V H:=fun g hg=>by
   simp only[br,List.mem_append,List.mem_filterMap];exact .inr ⟨b,hm,hg⟩
  obtain⟨h1,h2,h3,h4⟩:=h.vc b hm;unfold zt;rw[hv b hm];exact⟨Qe h1 fun g hg=>(hw g (gQ g hg)).1,fun g hg=>by rw[(hw g (gQ g hg)).2];exact h2 g hg,h3,h4⟩
end
theorem JQ {P:Program} {t:TypeId} (h:0<bZ P t):∃i,P.info? t=some i/\i.size=bZ P t/\i.bytes=oD P t:=by
 unfold bZ at h ⊢;unfold oD;cases hi:P.info? t with
 |none=>rw[hi] at h;simp at h
 |some i=>exact⟨i,rfl,rfl,rfl⟩
theorem Re {P:Program} {t:TypeId} {z:List SV} {i:TypeInfo} (hi:P.info? t=some i) (h:fC P t=some z):∃zv,i.zero=some zv/\zv.cells.size=z.length:=by
 unfold fC at h;simp only[Option.map_eq_some_iff,Option.bind_eq_some_iff] at h;obtain⟨zv,⟨i',qg,hz⟩,rfl⟩:=h;rw[hi] at qg;cases qg;exact⟨zv,hz,by simp⟩
section
variable {P:Program} {w:World}
theorem Wt (t tx ty e:TypeId) (i:TypeInfo) (ht:P.underlying t=some (.slice e)) (hi:P.info? e=some i) (g yr Lc:Nat) (cur:Array Value) (hg:w.heap[g]? =some (.cells cur e (0,0)))
  (x:Value) (m:Nat) (news:List Value) (hs:Src P i.size tx x m news w) (lD:yr+m<=Lc) (vw:yr * i.size+news.length<=cur.size):
  (Builtin.append_ #[t,tx] ty #[.slice (some ⟨g,0,none⟩) yr Lc,x]).run P w=
   .ok (.slice (some ⟨g,0,none⟩) (yr+m) Lc) (w.setRow g (cur.toList.take (yr * i.size)++news++cur.toList.drop (yr * i.size+news.length)).toArray):=by
 have jf:=run_storeCells_at P g (yr * i.size) e news 0 cur w hg (by simpa using vw) hs.one;simp only[Nat.add_zero] at jf;rcases hs.kind with ⟨e',hk⟩ |hk<;>simp [Builtin.append_,run_underlying ht,run_underlying hk,sizeOf,typeInfo,hi,hs.len,lD,hs.cells,Addr.add_lit,jf]
theorem Nk {yy fb xE:Nat} (h:fb<yy) (hb:yy * xE<=140737488355328):Builtin.nextslicecap yy fb * xE<=281474976710656:=by
 have h1:=nextslicecap_le h;have h2:Builtin.nextslicecap yy fb * xE<=2 * yy * xE:=Nat.mul_le_mul_right _ h1;have h3:2 * yy * xE=2 * (yy * xE):=Nat.mul_assoc ..;omega
theorem NR {t tx ty e:TypeId} {i:TypeInfo} {zv:Value} {h:Hd} {n m:Nat} {xs news:List Value} {x:Value}
  (ht:P.underlying t=some (.slice e)) (hi:P.info? e=some i) (hz:i.zero=some zv) (yS:zv.cells.size=i.size)
  (eA:w.ownsRow 0 e i.size h.val n xs) (hs:Src P i.size tx x m news w) (hr:room (n+m) i.bytes):
  ∃(h' :Hd) (w' :World),(Builtin.append_ #[t,tx] ty #[h.val,x]).run P w= .ok h'.val w' /\w'.ownsRow 0 e i.size h'.val (n+m) (xs++news)/\
   (w' =w/\h' =h\/(∃g cur ou,h'.blk=some g/\h.blk=some g/\w.heap[g]? =some (.cells cur e (0,0))/\w' =w.setRow g ou/\(∀j,j<n * i.size->ou[j]? =cur[j]?))\/
    (∃c,h'.blk=some w.heap.size/\w' =w.drew.alloc (.cells c e))):=by
 obtain⟨hb,h63⟩:=hr;have hlen:(xs++news).length=(n+m) * i.size:=by rw[aI,eA.1,hs.newsLen,Nat.add_mul]
 have oA:((n+m:Nat):Int)<=9223372036854775807:=by simp only[maxLen] at h63;omega
 have grow:∀(fb:Nat),fb<n+m->(w.drew.alloc (.cells ((xs++news).toArray++Builtin.zeroCells zv.cells (grownCap w (n+m) fb e - (n+m))) e)).ownsRow 0 e i.size
    (Hd.val ⟨some ⟨w.heap.size,0,none⟩,n+m,grownCap w (n+m) fb e⟩) (n+m) (xs++news):=by
  intro fb ho;have cg:=grownCap_ge w (n+m) fb e;have MB:grownCap w (n+m) fb e<=maxLen:=grownCap_le_maxLen w (n+m) fb e h63;refine⟨hlen,.inr ⟨w.heap.size,_,_,rfl,aD _,heap_alloc_new w.drew _,cg,MB,?_,?_⟩⟩
  ·simp only[Array.size_append,List.size_toArray,size_zeroCells,yS,hlen,<- Nat.add_mul];congr 1
   omega
  ·simp only[Array.toList_append];rw[<- hlen];exact List.take_left
 obtain⟨ha,hn,hc⟩:∃(a:Option Addr) (n' c:Nat),h=⟨a,n',c⟩:=⟨h.a,h.n,h.c,rfl⟩;obtain⟨c,rfl⟩:=hc;rcases eA.2 with ⟨hv,Mp⟩ |⟨g,cap,cur,hv,_,hg,Mo,MB,gD,htake⟩
 ·simp only[Hd.val,Value.slice.injEq] at hv;obtain⟨rfl,rfl,rfl⟩:=hv;subst Mp;have hx:xs=[]:=List.eq_nil_of_length_eq_zero (by simpa using eA.1);subst hx;by_cases hm:m=0
  ·subst hm;have hn:news=[]:=List.eq_nil_of_length_eq_zero (by simpa using hs.newsLen);subst hn;refine⟨⟨none,0,0⟩,w,?_,by simpa using eA,.inl ⟨rfl,rfl⟩⟩;rcases hs.kind with ⟨e',hk⟩ |hk<;>simp [Hd.val,Builtin.append_,run_underlying ht,run_underlying hk,sizeOf,typeInfo,hi,hs.len,hs.cells]
  ·have hr:=run_append_grow_src w t tx ty e i zv ht hi hz none 0 0 [] (by simp [Builtin.firstCells]) x m news hs (by omega) oA (Nk (by omega) hb);exact⟨⟨some ⟨w.heap.size,0,none⟩,0+m,grownCap w (0+m) 0 e⟩,_,hr,by have:=grow 0 (by omega);simpa using this,.inr (.inr ⟨_,rfl,rfl⟩)⟩
 ·simp only[Hd.val,Value.slice.injEq] at hv;obtain⟨rfl,rfl,rfl⟩:=hv;by_cases lD:hn+m<=c
  ·have vw:hn * i.size+news.length<=cur.size:=by rw[hs.newsLen,gD,<- Nat.add_mul];exact Nat.mul_le_mul_right _ lD
   have hr:=Wt t tx ty e i ht hi g hn c cur hg x m news hs lD vw;refine⟨⟨some ⟨g,0,none⟩,hn+m,c⟩,_,hr,⟨hlen,.inr ⟨g,c,_,rfl,aD _,setRow_heap w g cur _ e _ hg,lD,MB,?_,?_⟩⟩,.inr (.inl ⟨g,cur,_,rfl,rfl,hg,rfl,fun j hj=> ?_⟩)⟩
   ·simp only[List.size_toArray,aI,List.length_take,dG,Array.length_toList];omega
   ·rw[htake,<- hlen];exact List.take_left
   ·have DS:=eA.1;simp only[List.getElem?_toArray];rw[List.append_assoc,List.getElem?_append_left (by rw[htake];omega),List.getElem?_take,ah hj,Array.getElem?_toList]
  ·have holds:∀j u,xs[j]? =some u->w.cell? ((⟨g,0,none⟩:Addr).add j)=some u:=eA.cells (g:=g) rfl;have hf:(Builtin.firstCells i.size hn (.slice (some ⟨g,0,none⟩) hn c)).run P w.drew= .ok xs.toArray w.drew:=run_firstCells_some w.drew i.size hn ⟨g,0,none⟩ hn c xs eA.1 (by simpa using holds);have hr:=run_append_grow_src w t tx ty e i zv ht hi hz (some ⟨g,0,none⟩) hn c xs hf x m news hs (by omega) oA (Nk (by omega) hb);exact⟨⟨some ⟨w.heap.size,0,none⟩,hn+m,grownCap w (hn+m) c e⟩,_,hr,grow c (by omega),.inr (.inr ⟨_,rfl,rfl⟩)⟩
end
section
variable {V V' :Vl} {D D' :Nat->Nat} {w w' :World} {bx:List Bx} {vc:List Vc} {nid:Nat}
theorem HSat.consBx {b:Bx} (h:HSat V D w ⟨bx,vc⟩) (hb:Ep V D w b) (hn:V.β b.id ∉ br V ⟨bx,vc⟩):HSat V D w ⟨b::bx,vc⟩:=
 ⟨fun x hx=>(List.mem_cons.1 hx).elim (fun e=>e▸hb) (h.bx x),h.vc,List.nodup_cons.2 ⟨hn,h.apart⟩,h.uniq⟩
theorem I5 {b:Vc}:(br V ⟨bx,b::vc⟩).Perm ((V.γ b.id b.ver).blk.toList++br V ⟨bx,vc⟩):=by
 unfold br;simp only[List.filterMap_cons];cases (V.γ b.id b.ver).blk with
 |none=>exact List.Perm.refl _
 |some g=>exact List.perm_middle
theorem HSat.consVc {b:Vc} (h:HSat V D w ⟨bx,vc⟩) (hb:zt V D w b) (hu:b.id ∉ vc.map (·.id)) (hn:∀g,(V.γ b.id b.ver).blk=some g->g ∉ br V ⟨bx,vc⟩):HSat V D w ⟨bx,b::vc⟩:=
 ⟨h.bx,fun x hx=>(List.mem_cons.1 hx).elim (fun e=>e▸hb) (h.vc x),by
  rw[I5.nodup_iff];cases hg:(V.γ b.id b.ver).blk with
  |none=>exact h.apart
  |some g=>exact List.nodup_cons.2 ⟨hn g hg,h.apart⟩,List.nodup_cons.2 ⟨hu,h.uniq⟩⟩
theorem HP {b:Vc} {x:Nat}:x∈br V ⟨bx,b::vc⟩↔(V.γ b.id b.ver).blk=some x\/x∈br V ⟨bx,vc⟩:=by
 rw[I5.mem_iff,List.mem_append];cases (V.γ b.id b.ver).blk<;>simp [eq_comm]
/-! What was all right stays all right. -/
theorem zW {jc:Nat} {fh:List Vc} (hn:nid<=jc) (hv:∀k u,k<nid->cG vc k u->cG fh k u) {s:SV} (h:mf nid vc s):mf jc fh s:=by
 cases s with
 |v x=>trivial
 |box k o=>exact eP h hn
 |vec k u=>exact⟨eP h.1 hn,hv k u h.1 h.2⟩
 |vp k u o=>exact⟨eP h.1 hn,hv k u h.1 h.2⟩
 |mp k=>exact eP h hn
 |mv f k o=>exact eP h hn
 |agg cs=>trivial
 |tup l=>trivial
theorem xN {jc:Nat} {fh:List Vc} (hn:nid<=jc) (hv:∀k u,k<nid->cG vc k u->cG fh k u):∀{l:List SV},fO nid vc l->fO jc fh l
 |[],_=>trivial
 |_::_,h=>⟨zW hn hv h.1,xN hn hv h.2⟩
theorem xO {jc:Nat} {fh:List Vc} (hn:nid<=jc) (hv:∀k u,k<nid->cG vc k u->cG fh k u) {s:SV} (h:okB nid vc s):okB jc fh s:=by
 cases s with
 |agg cs=>exact xN hn hv h
 |v x=>trivial
 |box k o=>exact zW (s:= .box k o) hn hv h
 |vec k u=>exact zW (s:= .vec k u) hn hv h
 |vp k u o=>exact zW (s:= .vp k u o) hn hv h
 |mp k=>exact zW (s:= .mp k) hn hv h
 |mv f k o=>exact zW (s:= .mv f k o) hn hv h
 |tup l=>trivial
theorem Qg {jc:Nat} {fh:List Vc} (hn:nid<=jc) (hv:∀k u,k<nid->cG vc k u->cG fh k u):∀{l:List SV},yP nid vc l->yP jc fh l
 |[],_=>trivial
 |_::_,h=>⟨xO hn hv h.1,Qg hn hv h.2⟩
theorem Qi {jc:Nat} {fh:List Vc} (hn:nid<=jc) (hv:∀k u,k<nid->cG vc k u->cG fh k u) {s:SV} (h:jA nid vc s):jA jc fh s:=by
 cases s with
 |tup l=>exact Qg hn hv h
 |v x=>trivial
 |box k o=>exact xO (s:= .box k o) hn hv h
 |vec k u=>exact xO (s:= .vec k u) hn hv h
 |vp k u o=>exact xO (s:= .vp k u o) hn hv h
 |mp k=>exact xO (s:= .mp k) hn hv h
 |mv f k o=>exact xO (s:= .mv f k o) hn hv h
 |agg cs=>exact xO (s:= .agg cs) hn hv h
theorem uE {b:Vc} (hb:b.id=nid):∀k u,k<nid->cG vc k u->cG (b::vc) k u:=by
 intro k u hk h;obtain⟨k',u',e',z',n',x'⟩:=b;dsimp only at hb;subst hb;simp only[cG];rw[af (by omega)];exact h
theorem NF {k u:Nat} {b x:Vc} (hb:eV vc k u=some b) (hx:x.id=k) (hu:u<=x.ver):∀k' u',cG vc k' u' ->cG (pZ vc k x) k' u' :=by
 intro k' u' h;induction vc with
 |nil=>cases hb
 |cons y r ih=>
  obtain⟨i',v',e',z',n',x'⟩:=y;obtain⟨kx,ux,ex,zx,nx,xx⟩:=x;dsimp only at hx hu;subst hx;simp only[eV] at hb;simp only[pZ];simp only[cG] at h;by_cases he:i' =kx
  ·rw[ah he] at hb ⊢;split at hb
   ·rename_i hv;subst he;simp only[cG];split
    ·rename_i e;rw[ah e] at h;omega
    ·rename_i e;rw[af e] at h;exact h
   ·cases hb
  ·rw[af he] at hb ⊢;simp only[cG];split
   ·rename_i e;rw[ah e] at h;exact h
   ·rename_i e;rw[af e] at h;exact ih hb h
theorem vU {vc:List Vc}:∀{b:Vc},(vc.map (·.id)).Nodup->b∈vc->cG vc b.id b.ver:=by
 induction vc with
 |nil=>intro b _ h;cases h
 |cons y r ih=>
  intro b hu h;obtain⟨i',v',e',z',n',x'⟩:=y;simp only[bJ,List.nodup_cons] at hu;simp only[cG];rcases List.mem_cons.1 h with rfl |h
  ·rw[ah rfl];exact av _
  ·have:¬i' =b.id:=fun e=>hu.1 (by rw[e];exact List.mem_map.2 ⟨b,h,rfl⟩)
   rw[af this];exact ih hu.2 h
theorem E8 {vc:List Vc} {k v u:Nat} (h:cG vc k v) (hu:u<=v):cG vc k u:=by
 induction vc with
 |nil=>trivial
 |cons y r ih=>
  obtain⟨i',v',e',z',n',x'⟩:=y;simp only[cG] at h ⊢;split
  ·rename_i e;rw[ah e] at h;omega
  ·rename_i e;rw[af e] at h;exact ih h
theorem NO (V:Vl) (g:Nat):Agree nid vc V {V with β:=fun k=>if k=nid then g else V.β k}:=fun k hk=>⟨af (by omega),fun _ _=>rfl⟩
theorem NN (V:Vl) (h:Hd):Agree nid vc V {V with γ:=fun k u=>if k=nid then h else V.γ k u}:=fun k hk=>⟨rfl,fun _ _=>af (by omega)⟩
end
section
variable {C:Ctx} {bx:List Bx} {vc:List Vc} {nid:Nat} {m:Mem} {V:Vl} {D:Nat->Nat} {w:World}
theorem zw (w:World) (o:Obj) (k:Nat) (h:k<w.heap.size):(w.alloc o).heap[k]? =w.heap[k]? :=Go.RowKit.Below.heap_alloc w o k h
theorem SatW.keepH (h:SatW C bx vc nid m V D w) {V' :Vl} {w' :World} (ha:Agree nid vc V V') (hw:∀b,b<w.heap.size->w'.heap[b]? =w.heap[b]?):HSat V' D w' ⟨bx,vc⟩:=
 h.heap.frame (fun b hb=>⟨(ha b.id (h.ids.1 b hb).1).1,zI ha (h.ids.1 b hb).2⟩)
  (fun b hb=>(ha b.id (h.ids.2 b hb)).2 b.ver (vU h.heap.uniq hb))
  fun g hg=>⟨hw g (wb h.heap g hg),rfl⟩
theorem Frm.quiet {w' :World} {D' :Nat->Nat} (h1:w'.os=w.os) (h2:w'.tape=w.tape) (h3:w'.output=w.output) (h4:w.heap.size<=w'.heap.size) (hw:∀b,b<w.heap.size->w'.heap[b]? =w.heap[b]? /\D' b=D b) (F:Nat->Prop):Frm F w D w' D' :=
 ⟨h1,h2,h3,h4,fun b hb _=>hw b hb⟩
theorem If {t:TypeId} {vs:List Value} (h:t<oV):nD t vs (.cells ⟨vs⟩ t (0,0)):=by
 unfold nD;rw[ah h]
theorem Q6 {t:TypeId} {vs:List Value} {o:Obj} (h:t<oV) (ho:nD t vs o):o= .cells ⟨vs⟩ t (0,0):=by
 unfold nD at ho;rwa [ah h] at ho
theorem SatW.addBx (h:SatW C bx vc nid m V D w) {t:TypeId} {cs:List SV} {o:Obj} (ho:nD t (cs.map (bL V)) o) (au:fO nid vc cs):
  ∃V',Agree nid vc V V' /\V'.β nid=w.heap.size/\SatW C (⟨nid,t,cs⟩::bx) vc (nid+1) m V' D (w.alloc o):=by
 refine⟨{V with β:=fun k=>if k=nid then w.heap.size else V.β k},NO V _,ah rfl,?_⟩;have ha:=NO (nid:=nid) (vc:=vc) V w.heap.size;have hw:∀b,b<w.heap.size->(w.alloc o).heap[b]? =w.heap[b]? :=fun b hb=>zw w _ b hb
 have hold:=h.keepH ha hw;have aw:=wb hold;have iT:br {V with β:=fun k=>if k=nid then w.heap.size else V.β k} ⟨bx,vc⟩=br V ⟨bx,vc⟩:=
  Cs (fun b hb=>(ha b.id (h.ids.1 b hb).1).1) (fun b hb=>(ha b.id (h.ids.2 b hb)).2 b.ver (vU h.heap.uniq hb))
 have Lp:=wb h.heap;have hD:D w.heap.size=0:=h.wf _ (av _);have qi:Frm (fun _=>False) w D (w.alloc o) D:=Frm.quiet (w:=w) (w' :=w.alloc o) rfl rfl rfl (by simp) (fun b hb=>⟨hw b hb,rfl⟩) _;have hle:Mem.le ⟨w,D⟩ ⟨w.alloc o,D⟩:=Mem.le_same h.wf (fun b hb=>⟨av _,fun _=>hw b hb⟩);refine⟨hold.consBx ⟨?_,?_⟩ ?_,fun b hb=>h.wf b (by simp at hb;omega),h.frm.trans qi (fun _ h=>h.elim),?_,fun b hb=> ?_,fun b hb=> ?_,⟨fun b hb=> ?_,fun b hb=>Nat.lt_succ_of_lt (h.ids.2 b hb)⟩,Mem.le_trans h.le0 hle,h.m0,Mem.le_trans h.mle hle⟩
 ·refine⟨o,?_,?_⟩
  ·show(w.alloc _).heap[(if nid=nid then w.heap.size else V.β nid)]? =_;rw[ah rfl];exact heap_alloc_new w _
  ·show nD t (cs.map (bL _)) o;rw[zI ha au];exact ho
 ·show D (if nid=nid then w.heap.size else V.β nid)=0;rw[ah rfl];exact hD
 ·show(if nid=nid then w.heap.size else V.β nid) ∉ _;rw[ah rfl,iT];exact fun gQ=>Nat.lt_irrefl _ (Lp _ gQ)
 ·intro b hb;rcases List.mem_cons.1 hb with rfl |hb
  ·show C.F (if nid=nid then w.heap.size else V.β nid)\/C.w0.heap.size<=(if nid=nid then w.heap.size else V.β nid);rw[ah rfl];exact .inr h.frm.size
  ·refine h.own b ?_;rw[<- iT];exact hb
 ·obtain⟨h1,h2⟩:=h.baseB b hb;exact⟨((ha b.id h2).1).trans h1,Nat.lt_succ_of_lt h2⟩
 ·obtain⟨h1,h2,h3⟩:=h.baseV b hb;exact⟨fun u hu=>h1 u hu,Nat.lt_succ_of_lt h2,h3⟩
 ·rcases List.mem_cons.1 hb with rfl |hb
  ·exact⟨Nat.lt_succ_self _,xN (Nat.le_succ _) (fun _ _ _ h=>h) au⟩
  ·exact⟨Nat.lt_succ_of_lt (h.ids.1 b hb).1,xN (Nat.le_succ _) (fun _ _ _ h=>h) (h.ids.1 b hb).2⟩
theorem SatW.addVc (h:SatW C bx vc nid m V D w) {w' :World} {hd:Hd} {e:TypeId} {sz n:Nat} {xs:List Value}
  (h1:w'.os=w.os) (h2:w'.tape=w.tape) (h3:w'.output=w.output) (h4:w.heap.size<=w'.heap.size) (hw:∀b,b<w.heap.size->w'.heap[b]? =w.heap[b]?)
  (eA:w'.ownsRow 0 e sz hd.val n xs) (tW:∀g,hd.blk=some g->w.heap.size<=g) (dp:0<sz) (qK:∀u∈xs,u.oneCell' =true):
  ∃V',Agree nid vc V V' /\V'.γ nid 0=hd/\SatW C bx (⟨nid,0,e,sz,n,xs⟩::vc) (nid+1) m V' D w' :=by
 refine⟨{V with γ:=fun k u=>if k=nid then hd else V.γ k u},NN V _,ah rfl,?_⟩;have ha:=NN (nid:=nid) (vc:=vc) V hd;have hold:=h.keepH (w' :=w') ha hw;have iT:br {V with γ:=fun k u=>if k=nid then hd else V.γ k u} ⟨bx,vc⟩=br V ⟨bx,vc⟩:=
  Cs (fun b hb=>(ha b.id (h.ids.1 b hb).1).1) (fun b hb=>(ha b.id (h.ids.2 b hb)).2 b.ver (vU h.heap.uniq hb))
 have aw:=wb h.heap;have qi:Frm (fun _=>False) w D w' D:=Frm.quiet h1 h2 h3 h4 (fun b hb=>⟨hw b hb,rfl⟩) _;have hle:Mem.le ⟨w,D⟩ ⟨w',D⟩:=Mem.le_same h.wf (fun b hb=>⟨av _,fun _=>hw b hb⟩);have vf:∀k u,k<nid->cG vc k u->cG (⟨nid,0,e,sz,n,xs⟩::vc) k u:=uE rfl;refine⟨hold.consVc ⟨?_,?_,dp,qK⟩ ?_ ?_,fun b hb=>h.wf b (cX h4 hb),h.frm.trans qi (fun _ h=>h.elim),?_,fun b hb=> ?_,fun b hb=> ?_,⟨fun b hb=> ?_,fun b hb=> ?_⟩,Mem.le_trans h.le0 hle,h.m0,Mem.le_trans h.mle hle⟩
 ·show w'.ownsRow 0 e sz (if nid=nid then hd else V.γ nid 0).val n xs;rw[ah rfl];exact eA
 ·intro g hg;have iS:hd.blk=some g:=by
   have:(if nid=nid then hd else V.γ nid 0).blk=some g:=hg;rwa [ah rfl] at this
  rw[h.wf g (tW g iS)];exact aD _
 ·intro gQ;obtain⟨b,hb,uv⟩:=List.mem_map.1 gQ;have:=h.ids.2 b hb;dsimp only at uv;omega
 ·intro g hg gQ;have iS:hd.blk=some g:=by
   have:(if nid=nid then hd else V.γ nid 0).blk=some g:=hg;rwa [ah rfl] at this
  rw[iT] at gQ;have:=aw g gQ;have:=tW g iS;omega
 ·intro b hb;rcases HP.1 hb with hb |hb
  ·have pq:hd.blk=some b:=by
    have:(if nid=nid then hd else V.γ nid 0).blk=some b:=hb;rwa [ah rfl] at this
   exact .inr (cX h.frm.size (tW b pq))
  ·rw[iT] at hb;exact h.own b hb
 ·exact⟨(h.baseB b hb).1,Nat.lt_succ_of_lt (h.baseB b hb).2⟩
 ·obtain⟨e1,e2,e3⟩:=h.baseV b hb;exact⟨fun u hu=>((ha b.id e2).2 u (E8 e3 hu)).trans (e1 u hu),Nat.lt_succ_of_lt e2,vf _ _ e2 e3⟩
 ·exact⟨Nat.lt_succ_of_lt (h.ids.1 b hb).1,xN (Nat.le_succ _) vf (h.ids.1 b hb).2⟩
 ·rcases List.mem_cons.1 hb with rfl |hb
  ·exact Nat.lt_succ_self _
  ·exact Nat.lt_succ_of_lt (h.ids.2 b hb)
end
theorem NK {k:Nat} {b:Bx} {cs:List SV}:∀{bx:List Bx},iD bx k=some b->∃l1 l2,bx=l1++b::l2/\lg bx k cs=l1++⟨b.id,b.ty,cs⟩::l2
 |[],h=>by cases h
 |⟨k',t',c'⟩::r,h=>by
  simp only[iD] at h;simp only[lg];split at h
  ·rename_i e;cases h;rw[ah e];exact⟨[],r,rfl,rfl⟩
  ·rename_i e;rw[af e];obtain⟨l1,l2,h1,h2⟩:=NK (cs:=cs) h;exact⟨⟨k',t',c'⟩::l1,l2,by rw[h1];rfl,by rw[h2];rfl⟩
theorem NJ {k u:Nat} {b x:Vc}:∀{vc:List Vc},eV vc k u=some b->∃l1 l2,vc=l1++b::l2/\pZ vc k x=l1++x::l2
 |[],h=>by cases h
 |⟨k',u',e',z',n',x'⟩::r,h=>by
  simp only[eV] at h;simp only[pZ];split at h
  ·rename_i e;split at h
   ·cases h;rw[ah e];exact⟨[],r,rfl,rfl⟩
   ·cases h
  ·rename_i e;rw[af e];obtain⟨l1,l2,h1,h2⟩:=NJ (x:=x) h;exact⟨⟨k',u',e',z',n',x'⟩::l1,l2,by rw[h1];rfl,by rw[h2];rfl⟩
theorem I8 {k u v:Nat} {b:Vc}:∀{vc:List Vc},eV vc k u=some b->cG vc k v->v<=u
 |[],h,_=>by cases h
 |⟨k',u',e',z',n',x'⟩::r,h,hv=>by
  simp only[eV] at h;simp only[cG] at hv;split at h
  ·rename_i e;split at h
   ·rename_i e';rw[ah e] at hv;omega
   ·cases h
  ·rename_i e;rw[af e] at hv;exact I8 h hv
section
variable {V V' :Vl} {D D' :Nat->Nat} {w w' :World} {bx:List Bx} {vc:List Vc} {nid:Nat} {m:Mem} {C:Ctx}
theorem Q8 {l1 l2:List Bx} {b:Bx}:(br V ⟨l1++b::l2,vc⟩).Perm (V.β b.id::br V ⟨l1++l2,vc⟩):=by
 unfold br;simp only[List.map_append,bJ,List.append_assoc,dW];exact List.perm_middle
theorem SatW.setOb (h:SatW C bx vc nid m V D w) {k:Nat} {b:Bx} {cs:List SV} (hb:iD bx k=some b) (au:fO nid vc cs) {w' :World} {o:Obj} (ho:nD b.ty (cs.map (bL V)) o)
  (e1:w'.os=w.os) (e2:w'.tape=w.tape) (e3:w'.output=w.output) (e4:w'.heap.size=w.heap.size) (e5:w'.heap[V.β k]? =some o) (e6:∀g,g≠V.β k->w'.heap[g]? =w.heap[g]?):
  SatW C (lg bx k cs) vc nid m V D w' :=by
 obtain⟨rfl,hm⟩:=uS hb;obtain⟨l1,l2,hl,hu⟩:=NK (cs:=cs) hb;have rf:=h.heap.apart;rw[hl] at rf;have iQ:=(Q8.nodup_iff).1 rf;obtain⟨AY,_⟩:=List.nodup_cons.1 iQ;have TN:∀g,g∈br V ⟨l1++l2,vc⟩->w'.heap[g]? =w.heap[g]? :=fun g hg=>
  e6 g (fun e=>AY (e▸hg))
 have hD:D (V.β b.id)=0:=(h.heap.bx b hm).2;have eA:=h.own (V.β b.id) (by rw[hl];exact Q8.mem_iff.2 (b6 ..));have qi:Frm (fun x=>x=V.β b.id) w D w' D:=
  ⟨e1,e2,e3,by rw[e4];exact av _,fun x _ hx=>⟨e6 x hx,rfl⟩⟩
 have hle:Mem.le ⟨w,D⟩ ⟨w',D⟩:=Mem.le_same h.wf (fun x _=>⟨av _,fun h0=>e6 x (fun e=>by subst e;omega)⟩);have iT:br V ⟨lg bx b.id cs,vc⟩=br V ⟨bx,vc⟩:=by
  unfold br;rw[hu,hl];simp
 rw[hu];rw[hu] at iT;refine⟨⟨fun x hx=> ?_,fun x hx=> ?_,by rw[iT];exact h.heap.apart,h.heap.uniq⟩,fun x hx=>h.wf x (by rw[e4] at hx;exact hx),h.frm.trans qi (fun x hx=>by subst hx;exact eA),?_,h.baseB,h.baseV,⟨fun x hx=> ?_,h.ids.2⟩,Mem.le_trans h.le0 hle,h.m0,Mem.le_trans h.mle hle⟩
 ·have bP:x∈l1++l2\/x=⟨b.id,b.ty,cs⟩:=by
   simp only[List.mem_append,List.mem_cons] at hx ⊢;rcases hx with hx |hx |hx
   ·exact .inl (.inl hx)
   ·exact .inr hx
   ·exact .inl (.inr hx)
  rcases bP with bP |rfl
  ·have gQ:x∈bx:=by
    rw[hl];simp only[List.mem_append,List.mem_cons] at bP ⊢;rcases bP with h1 |h1
    ·exact .inl h1
    ·exact .inr (.inr h1)
   have hg:V.β x.id∈br V ⟨l1++l2,vc⟩:=by
    simp only[br,List.mem_append,List.mem_map] at bP ⊢;exact .inl ⟨x,bP,rfl⟩
   obtain⟨h1,h2⟩:=h.heap.bx x gQ;exact⟨by rw[TN _ hg];exact h1,h2⟩
  ·exact⟨⟨o,e5,ho⟩,hD⟩
 ·obtain⟨h1,h2,h3,h4⟩:=h.heap.vc x hx
  exact⟨Qe h1 (fun g hg=>TN g (by
   simp only[br,List.mem_append,List.mem_filterMap]
   exact .inr ⟨x,hx,hg⟩)),h2,h3,h4⟩
 ·intro x hx;rw[iT] at hx;exact h.own x hx
 ·have bP:x∈bx\/x=⟨b.id,b.ty,cs⟩:=by
   rw[hl];simp only[List.mem_append,List.mem_cons] at hx ⊢;rcases hx with hx |hx |hx
   ·exact .inl (.inl hx)
   ·exact .inr hx
   ·exact .inl (.inr (.inr hx))
  rcases bP with bP |rfl
  ·exact h.ids.1 x bP
  ·exact⟨(h.ids.1 b hm).1,au⟩
theorem SatW.setBx (h:SatW C bx vc nid m V D w) {k:Nat} {b:Bx} {cs:List SV} (hb:iD bx k=some b) (bM:b.ty<oV) (au:fO nid vc cs):
  SatW C (lg bx k cs) vc nid m V D (w.setRow (V.β k) ⟨cs.map (bL V)⟩):=by
 obtain⟨hk,hm⟩:=uS hb;obtain⟨o,tV,ho⟩:=(h.heap.bx b hm).1;have ho' :=Q6 bM ho;subst ho';rw[hk] at tV;exact h.setOb hb au (If bM) rfl rfl rfl (size_setRow _ _ _) (setRow_heap w _ _ _ _ _ tV) (fun g hg=>setRow_other w _ g _ hg)
theorem HSat.permVc {fh:List Vc} (h:HSat V D w ⟨bx,vc⟩) (hp:vc.Perm fh):HSat V D w ⟨bx,fh⟩:=
 ⟨h.bx,fun b hb=>h.vc b (hp.mem_iff.2 hb),by
  have:(br V ⟨bx,vc⟩).Perm (br V ⟨bx,fh⟩):=List.Perm.append_left _ (hp.filterMap _)
  exact(this.nodup_iff).1 h.apart,((hp.map _).nodup_iff).1 h.uniq⟩
theorem HSat.tailVc {b:Vc} (h:HSat V D w ⟨bx,b::vc⟩):HSat V D w ⟨bx,vc⟩/\b.id ∉ vc.map (·.id)/\∀g,(V.γ b.id b.ver).blk=some g->g ∉ br V ⟨bx,vc⟩:=by
 have iQ:=(I5.nodup_iff).1 h.apart;have hu:=List.nodup_cons.1 h.uniq;refine⟨⟨h.bx,fun x hx=>h.vc x (bR _ hx),(List.nodup_append.1 iQ).2.1,hu.2⟩,hu.1,fun g hg gQ=> ?_⟩;rw[hg] at iQ;exact(List.nodup_cons.1 iQ).1 gQ
theorem SatW.updVc (h:SatW C bx vc nid m V D w) {k u n:Nat} {b:Vc} {hd:Hd} {xs:List Value} (hb:eV vc k u=some b) (MC:b.n * b.sz<=n * b.sz)
  (h1:w'.os=w.os) (h2:w'.tape=w.tape) (h3:w'.output=w.output) (h4:w.heap.size<=w'.heap.size)
  (hw:∀g,g<w.heap.size->(V.γ k u).blk≠some g->w'.heap[g]? =w.heap[g]?) (hkp:∀g,(V.γ k u).blk=some g->tr (b.n * b.sz) w.heap[g]? w'.heap[g]?)
  (eA:w'.ownsRow 0 b.el b.sz hd.val n xs) (Lu:∀g,hd.blk=some g->(V.γ k u).blk=some g\/w.heap.size<=g) (qK:∀y∈xs,y.oneCell' =true):
  ∃V',Agree nid vc V V' /\V'.γ k (u+1)=hd/\SatW C bx (pZ vc k (oa b n xs)) nid m V' D w' :=by
 obtain⟨uv,hbv,hm⟩:=Cn hb;subst uv;subst hbv;refine⟨{V with γ:=fun i v=>if i=b.id/\v=b.ver+1 then hd else V.γ i v},?_,ah ⟨rfl,rfl⟩,?_⟩
 ·intro i hi;refine⟨rfl,fun v hv=>af ?_⟩;rintro⟨rfl,rfl⟩;have:=I8 hb hv;omega
 have ha:Agree nid vc V {V with γ:=fun i v=>if i=b.id/\v=b.ver+1 then hd else V.γ i v}:=by
  intro i hi;refine⟨rfl,fun v hv=>af ?_⟩;rintro⟨rfl,rfl⟩;have:=I8 hb hv;omega
 obtain⟨l1,l2,hl,hu⟩:=NJ (x:=oa b n xs) hb;have hp:vc.Perm (b::(l1++l2)):=by rw[hl];exact List.perm_middle
 have Mn:(pZ vc b.id (oa b n xs)).Perm (oa b n xs::(l1++l2)):=by rw[hu];exact List.perm_middle
 have vf:∀i v,cG vc i v->cG (pZ vc b.id (oa b n xs)) i v:=NF hb (by cases b;rfl) (by cases b;exact Nat.le_succ _);obtain⟨ht,hid,hblkb⟩:=(h.heap.permVc hp).tailVc;have ze:=h.heap.vc b hm;have aw:=wb h.heap;have UM:=wb ht;have wE:∀g,g∈br V ⟨bx,l1++l2⟩->w'.heap[g]? =w.heap[g]? :=fun g hg=>hw g (UM g hg) (fun e=>hblkb g e hg)
 have vu:∀x∈l1++l2,x∈vc:=fun x hx=>hp.mem_iff.2 (bR _ hx)
 have yW:HSat {V with γ:=fun i v=>if i=b.id/\v=b.ver+1 then hd else V.γ i v} D w' ⟨bx,l1++l2⟩:=
  ht.frame (fun x hx=>⟨rfl,zI ha (h.ids.1 x hx).2⟩) (fun x hx=>(ha x.id (h.ids.2 x (vu x hx))).2 x.ver (vU h.heap.uniq (vu x hx))) (fun g hg=>⟨wE g hg,rfl⟩)
 have iT:br {V with γ:=fun i v=>if i=b.id/\v=b.ver+1 then hd else V.γ i v} ⟨bx,l1++l2⟩=br V ⟨bx,l1++l2⟩:=
  Cs (fun x hx=>rfl) (fun x hx=>(ha x.id (h.ids.2 x (vu x hx))).2 x.ver (vU h.heap.uniq (vu x hx)))
 have tW:(({V with γ:=fun i v=>if i=b.id/\v=b.ver+1 then hd else V.γ i v}:Vl).γ (oa b n xs).id (oa b n xs).ver)=hd:=by
  cases b;exact ah ⟨rfl,rfl⟩
 have hD:∀g,hd.blk=some g->D g<=n * b.sz:=fun g hg=>by
  rcases Lu g hg with e |e
  ·exact cX (ze.2.1 g e) MC
  ·rw[h.wf g e];exact aD _
 have Sm:∀g,(V.γ b.id b.ver).blk=some g->C.F g\/C.w0.heap.size<=g:=fun g hg=>h.own g (by
  simp only[br,List.mem_append,List.mem_filterMap]
  exact .inr ⟨b,hm,hg⟩)
 have qi:Frm (fun x=>(V.γ b.id b.ver).blk=some x) w D w' D:=⟨h1,h2,h3,h4,fun x hx hn=>⟨hw x hx hn,rfl⟩⟩
 have hle:Mem.le ⟨w,D⟩ ⟨w',D⟩:=fun x=>⟨av _,fun h0=>by
  have DS:x<w.heap.size:=by
   rcases Nat.lt_or_ge x w.heap.size with h5 |h5
   ·exact h5
   ·have:=h.wf x h5;dsimp only at h0;omega
  refine⟨DS,?_⟩;by_cases hx:(V.γ b.id b.ver).blk=some x
  ·exact M8 (ze.2.1 x hx) (uC (d:=D x) rfl) (hkp x hx)
  ·exact uC (hw x DS hx)⟩
 have ahL:HSat {V with γ:=fun i v=>if i=b.id/\v=b.ver+1 then hd else V.γ i v} D w' ⟨bx,oa b n xs::(l1++l2)⟩:=by
  refine yW.consVc ?_ (by cases b;exact hid) ?_
  ·unfold zt;rw[tW];cases b;exact⟨eA,hD,ze.2.2.1,qK⟩
  ·rw[tW];intro g hg gQ;rw[iT] at gQ;rcases Lu g hg with e |e
   ·exact hblkb g e gQ
   ·have:=UM g gQ;omega
 refine⟨ahL.permVc Mn.symm,fun x hx=>h.wf x (cX h4 hx),h.frm.trans qi Sm,fun x hx=> ?_,fun x hx=>h.baseB x hx,fun x hx=> ?_,⟨fun x hx=>⟨(h.ids.1 x hx).1,xN (av _) (fun i v _=>vf i v) (h.ids.1 x hx).2⟩,fun x hx=> ?_⟩,Mem.le_trans h.le0 hle,h.m0,Mem.le_trans h.mle hle⟩
 ·have bP:x∈br {V with γ:=fun i v=>if i=b.id/\v=b.ver+1 then hd else V.γ i v} ⟨bx,oa b n xs::(l1++l2)⟩:=by
   have:(br {V with γ:=fun i v=>if i=b.id/\v=b.ver+1 then hd else V.γ i v} ⟨bx,pZ vc b.id (oa b n xs)⟩).Perm _:=List.Perm.append_left _ (Mn.filterMap _);exact this.mem_iff.1 hx
  rcases HP.1 bP with e |e
  ·rw[tW] at e;rcases Lu x e with e' |e'
   ·exact Sm x e'
   ·exact .inr (cX h.frm.size e')
  ·rw[iT] at e;refine h.own x ?_;have:(br V ⟨bx,vc⟩).Perm _:=List.Perm.append_left _ (hp.filterMap _);exact this.mem_iff.2 (HP.2 (.inr e))
 ·obtain⟨e1,e2,e3⟩:=h.baseV x hx;exact⟨fun v hv=>((ha x.id e2).2 v (E8 e3 hv)).trans (e1 v hv),e2,vf _ _ e3⟩
 ·have:=Mn.mem_iff.1 hx;rcases List.mem_cons.1 this with rfl |hx
  ·have:=h.ids.2 b hm;cases b;exact this
  ·exact h.ids.2 x (vu x hx)
end
theorem BJ (L:List Nat):∀bx:List Bx,gI L bx=bx.filter fun b=>L.contains b.id
 |[]=>rfl
 |⟨k,t,cs⟩::r=>by
  simp only[gI,List.filter_cons,BJ L r]
theorem ET (L:List Nat):∀vc:List Vc,fY L vc=vc.filter fun b=>L.contains b.id
 |[]=>rfl
 |⟨k,u,e,z,n,xs⟩::r=>by
  simp only[fY,List.filter_cons,ET L r]
theorem E1 (L:List Nat):∀bx:List Bx,nU L bx=bx.filter fun b=> !L.contains b.id
 |[]=>rfl
 |⟨k,t,cs⟩::r=>by
  simp only[nU,List.filter_cons,E1 L r];cases L.contains k<;>simp
theorem BR (L:List Nat):∀vc:List Vc,ns L vc=vc.filter fun b=> !L.contains b.id
 |[]=>rfl
 |⟨k,u,e,z,n,xs⟩::r=>by
  simp only[ns,List.filter_cons,BR L r];cases L.contains k<;>simp
theorem zB {α:Type} (p:α->Bool):∀l:List α,(l.filter p++l.filter fun x=> !p x).Perm l
 |[]=>List.Perm.refl _
 |x::r=>by
  simp only[List.filter_cons];cases h:p x with
  |true=>simpa using(zB p r).cons x
  |false=>simpa using List.perm_middle.trans ((zB p r).cons x)
theorem agP {α:Type} (a b c d:List α):((a++b)++(c++d)).Perm ((a++c)++(b++d)):=by
 simp only[List.append_assoc];refine List.Perm.append_left _ ?_;rw[<- List.append_assoc,<- List.append_assoc];exact List.Perm.append_right _ List.perm_append_comm
section
variable {V:Vl} {D:Nat->Nat} {w:World}
theorem HSat.permBx {bx ru:List Bx} {vc:List Vc} (h:HSat V D w ⟨bx,vc⟩) (hp:bx.Perm ru):HSat V D w ⟨ru,vc⟩:=
 ⟨fun b hb=>h.bx b (hp.mem_iff.2 hb),h.vc,by
  have:(br V ⟨bx,vc⟩).Perm (br V ⟨ru,vc⟩):=List.Perm.append_right _ (hp.map _)
  exact(this.nodup_iff).1 h.apart,h.uniq⟩
theorem Fv (a b:List Bx) (c d:List Vc):(br V ⟨a++b,c++d⟩).Perm (br V ⟨a,c⟩++br V ⟨b,d⟩):=by
 unfold br;simp only[List.map_append,List.filterMap_append];exact agP _ _ _ _
theorem HSat.app {a b:List Bx} {c d:List Vc} (h:HSat V D w ⟨a++b,c++d⟩):HSat V D w ⟨a,c⟩/\HSat V D w ⟨b,d⟩/\∀g,g∈br V ⟨a,c⟩->g ∉ br V ⟨b,d⟩:=by
 have hn:=((Fv a b c d).nodup_iff).1 h.apart;obtain⟨h1,h2,h3⟩:=List.nodup_append.1 hn;have hu:=h.uniq;simp only[List.map_append] at hu;obtain⟨u1,u2,_⟩:=List.nodup_append.1 hu
 exact⟨⟨fun x hx=>h.bx x (List.mem_append_left _ hx),fun x hx=>h.vc x (List.mem_append_left _ hx),h1,u1⟩,
  ⟨fun x hx=>h.bx x (List.mem_append_right _ hx),fun x hx=>h.vc x (List.mem_append_right _ hx),h2,u2⟩,fun g hg iS=>h3 g hg g iS rfl⟩
theorem HSat.join {a b:List Bx} {c d:List Vc} (h:HSat V D w ⟨a,c⟩) (h' :HSat V D w ⟨b,d⟩) (hd:∀g,g∈br V ⟨a,c⟩->g ∉ br V ⟨b,d⟩) (hu:∀x∈c,∀y∈d,x.id≠y.id):HSat V D w ⟨a++b,c++d⟩:=
 ⟨fun x hx=>(List.mem_append.1 hx).elim (h.bx x) (h'.bx x),fun x hx=>(List.mem_append.1 hx).elim (h.vc x) (h'.vc x),((Fv a b c d).nodup_iff).2 (List.nodup_append.2 ⟨h.apart,h'.apart,fun g hg g' iS e=>hd g hg (e▸iS)⟩),by
  simp only[List.map_append];refine List.nodup_append.2 ⟨h.uniq,h'.uniq,fun i hi j hj e=> ?_⟩;obtain⟨x,hx,rfl⟩:=List.mem_map.1 hi;obtain⟨y,hy,rfl⟩:=List.mem_map.1 hj
  exact hu x hx y hy e⟩
theorem EG (L:List Nat) {bx:List Bx} {vc:List Vc} (h:HSat V D w ⟨bx,vc⟩):HSat V D w ⟨gI L bx++nU L bx,fY L vc++ns L vc⟩:=by
 rw[BJ,E1,ET,BR];exact(h.permBx (zB _ bx).symm).permVc (zB _ vc).symm
theorem Iy (L:List Nat) (bx:List Bx) (vc:List Vc):(br V ⟨bx,vc⟩).Perm (br V ⟨gI L bx,fY L vc⟩++br V ⟨nU L bx,ns L vc⟩):=by
 refine List.Perm.trans ?_ (Fv _ _ _ _);rw[BJ,E1,ET,BR];unfold br;exact List.Perm.append ((zB _ bx).symm.map _) ((zB _ vc).symm.filterMap _)
/-! Numbers in a call. -/
theorem N9:∀{L:List Nat} {i j:Nat},idxOf L i=some j->L[j]? =some i
 |x::r,i,j,h=>by
  simp only[idxOf] at h;split at h
  ·rename_i e;cases h;simp [e]
  ·simp only[Option.map_eq_some_iff] at h;obtain⟨j',hj,rfl⟩:=h;simpa using N9 hj
theorem O6:∀{L:List Nat} {i:Nat},i∈L->∃j,idxOf L i=some j
 |x::r,i,h=>by
  simp only[idxOf];split
  ·exact⟨0,rfl⟩
  ·rename_i e;rcases List.mem_cons.1 h with h |h
   ·exact absurd h.symm e
   ·obtain⟨j,hj⟩:=O6 h;exact⟨j+1,by rw[hj];rfl⟩
theorem Ae {L:List Nat} {i:Nat} (h:L.contains i=true):L[jz L 0 i]? =some i/\jz L 0 i<L.length:=by
 obtain⟨j,hj⟩:=O6 (by simpa using h);have:jz L 0 i=j:=by unfold jz;rw[hj];rfl
 rw[this];have:=N9 hj;exact⟨this,(List.getElem?_eq_some_iff.1 this).1⟩
def lK (L:List Nat) (V:Vl):Vl:=⟨fun j=>V.β (L.getD j 0),fun j u=>V.γ (L.getD j 0) u⟩
theorem AG {L:List Nat} {i:Nat} (h:L.contains i=true):(lK L V).β (jz L 0 i)=V.β i:=by
 show V.β (L.getD (jz L 0 i) 0)=_;rw[List.getD_eq_getElem?_getD,(Ae h).1];rfl
theorem C7 {L:List Nat} {i:Nat} (h:L.contains i=true) (u:Nat):(lK L V).γ (jz L 0 i) u=V.γ i u:=by
 show V.γ (L.getD (jz L 0 i) 0) u=_;rw[List.getD_eq_getElem?_getD,(Ae h).1];rfl
theorem zZ {L:List Nat} {s:SV} (h:sM L s):bL (lK L V) (nF (jz L 0) s)=bL V s:=by
 cases s with
 |v x=>rfl
 |box k o=>show Value.pointer _=Value.pointer _;rw[AG h]
 |vec k u=>show Hd.val _=Hd.val _;rw[C7 h]
 |vp k u o=>show Value.pointer _=Value.pointer _;rw[C7 h]
 |mp k=>show Value.map _=Value.map _;rw[AG h]
 |mv f k o=>show Value.func _ _ _=Value.func _ _ _;rw[AG h]
 |agg cs=>rfl
 |tup l=>cases h
theorem Jw {L:List Nat}:∀{l:List SV},yR L l->(l.map (nF (jz L 0))).map (bL (lK L V))=l.map (bL V)
 |[],_=>rfl
 |s::r,h=>by simp only[bJ];rw[zZ h.1,Jw h.2]
theorem ad6 {L:List Nat} {s:SV} (h:Hc L s):den (lK L V) (vh (jz L 0) s)=den V s:=by
 cases s with
 |agg cs=>show Value.agg _=Value.agg _;rw[Jw h]
 |v x=>rfl
 |box k o=>exact zZ (s:= .box k o) h
 |vec k u=>exact zZ (s:= .vec k u) h
 |vp k u o=>exact zZ (s:= .vp k u o) h
 |mp k=>exact zZ (s:= .mp k) h
 |mv f k o=>exact zZ (s:= .mv f k o) h
 |tup l=>cases h
theorem Q0 {L:List Nat}:∀{l:List SV},Dq L l->(l.map (vh (jz L 0))).map (den (lK L V))=l.map (den V)
 |[],_=>rfl
 |s::r,h=>by simp only[bJ];rw[ad6 h.1,Q0 h.2]
theorem OT {l:List Nat} {f g:Nat->Nat} (h:∀x∈l,g (f x)=x) (hl:l.Nodup):(l.map f).Nodup:=by
 have:(l.map f).map g=l:=by
  rw[List.map_map];exact(List.map_congr_left h).trans (List.map_id' l)
 rw[<- this] at hl;exact List.Pairwise.of_map g (fun a b h e=>h (by rw[e])) hl
theorem vY {L:List Nat} {vc:List Vc} {b:Vc} (h:b∈fY L vc):b∈vc/\L.contains b.id=true:=by
 rw[ET,List.mem_filter] at h;exact h
theorem II {L:List Nat} {bx:List Bx} {b:Bx} (h:b∈gI L bx):b∈bx/\L.contains b.id=true:=by
 rw[BJ,List.mem_filter] at h;exact h
theorem ZA {L:List Nat} {bx:List Bx} {b:Bx} (h:b∈nU L bx):b∈bx/\L.contains b.id=false:=by
 rw[E1,List.mem_filter] at h;simpa using h
theorem QX {L:List Nat} {vc:List Vc} {b:Vc} (h:b∈ns L vc):b∈vc/\L.contains b.id=false:=by
 rw[BR,List.mem_filter] at h;simpa using h
theorem QK {L:List Nat}:∀{bx:List Bx},AU L bx->∀b∈bx,yR L b.cs
 |⟨_,_,cs⟩::r,h,b,hb=>by
  rcases List.mem_cons.1 hb with rfl |hb
  ·exact h.1
  ·exact QK h.2 b hb
theorem zV (ρ:Nat->Nat) (b:Bx):(pM ρ b).id=ρ b.id/\(pM ρ b).ty=b.ty/\(pM ρ b).cs=b.cs.map (nF ρ):=by cases b;exact⟨rfl,rfl,rfl⟩
theorem nQ (ρ:Nat->Nat) (b:Vc):(kh ρ b).id=ρ b.id/\(kh ρ b).ver=b.ver/\(kh ρ b).el=b.el/\(kh ρ b).sz=b.sz/\(kh ρ b).n=b.n/\(kh ρ b).xs=b.xs:=by
 cases b;exact⟨rfl,rfl,rfl,rfl,rfl,rfl⟩
theorem SI {L:List Nat} {st:LS}:br (lK L V) (gO st L)=br V ⟨gI L st.bx,fY L st.vc⟩:=by
 unfold br gO;congr 1
 ·rw[List.map_map];refine List.map_congr_left fun b hb=> ?_
  show(lK L V).β (pM _ b).id=_;rw[(zV _ b).1,AG (II hb).2]
 ·rw[List.filterMap_map];refine Er fun b hb=> ?_
  show((lK L V).γ (kh _ b).id (kh _ b).ver).blk=_;rw[(nQ _ b).1,(nQ _ b).2.1,C7 (vY hb).2]
theorem HSat.into {L:List Nat} {st:LS} (h:HSat V D w ⟨gI L st.bx,fY L st.vc⟩) (gQ:AU L (gI L st.bx)):HSat (lK L V) D w (gO st L):=by
 refine⟨fun b hb=> ?_,fun b hb=> ?_,by rw[SI];exact h.apart,?_⟩
 ·obtain⟨x,hx,rfl⟩:=List.mem_map.1 hb;obtain⟨h1,h2⟩:=h.bx x hx;obtain⟨e1,e2,e3⟩:=zV (jz L 0) x;unfold Ep;rw[e1,e2,e3,AG (II hx).2,Jw (QK gQ x hx)];exact⟨h1,h2⟩
 ·obtain⟨x,hx,rfl⟩:=List.mem_map.1 hb;have h1:=h.vc x hx;obtain⟨e1,e2,e3,e4,e5,e6⟩:=nQ (jz L 0) x;unfold zt;rw[e1,e2,e3,e4,e5,e6,C7 (vY hx).2];exact h1
 ·show(((fY L st.vc).map (kh (jz L 0))).map (·.id)).Nodup;rw[List.map_map];have:((fY L st.vc).map ((·.id)∘kh (jz L 0)))=((fY L st.vc).map (·.id)).map (jz L 0):=by
   rw[List.map_map];exact List.map_congr_left fun b _=>(nQ _ b).1
  rw[this];refine OT (g:=fun j=>L.getD j 0) (fun i hi=> ?_) h.uniq;obtain⟨b,hb,rfl⟩:=List.mem_map.1 hi;rw[List.getD_eq_getElem?_getD,(Ae (vY hb).2).1];rfl
end
theorem OY {vc:List Vc}:∀{b:Vc},(vc.map (·.id)).Nodup->b∈vc->nH vc b.id=some b:=by
 induction vc with
 |nil=>intro b _ h;cases h
 |cons y r ih=>
  intro b hu h;obtain⟨i',v',e',z',n',x'⟩:=y;simp only[bJ,List.nodup_cons] at hu;simp only[nH];rcases List.mem_cons.1 h with rfl |h
  ·rw[ah rfl]
  ·have:¬i' =b.id:=fun e=>hu.1 (by rw[e];exact List.mem_map.2 ⟨b,h,rfl⟩)
   rw[af this];exact ih hu.2 h
theorem NG {vc:List Vc} {k u:Nat} {b:Vc} (h:nH vc k=some b) (hv:cG vc k u):u<=b.ver:=by
 induction vc with
 |nil=>cases h
 |cons y r ih=>
  obtain⟨i',v',e',z',n',x'⟩:=y;simp only[nH] at h;simp only[cG] at hv;split at h
  ·rename_i e;cases h;rw[ah e] at hv;exact hv
  ·rename_i e;rw[af e] at hv;exact ih h hv
theorem OU:∀{L:List Nat},DN L->L.Nodup
 |[],_=>List.nodup_nil
 |k::r,h=>List.nodup_cons.2 ⟨by have:=h.1;simpa using this,OU h.2⟩
theorem Cm {n:Nat}:∀{L:List Nat},vG n L->∀k∈L,k<n
 |_::_,h,k,hk=>(List.mem_cons.1 hk).elim (fun e=>e▸h.1) (Cm h.2 k)
theorem O7:∀{L:List Nat} {i j:Nat},L.Nodup->L[j]? =some i->idxOf L i=some j
 |x::r,i,0,_,h=>by simp at h;subst h;simp [idxOf]
 |x::r,i,j+1,hn,h=>by
  simp only[List.getElem?_cons_succ] at h;obtain⟨h1,h2⟩:=List.nodup_cons.1 hn;simp only[idxOf];rw[af (fun e=>h1 (by rw[e];exact List.mem_of_getElem? h)),O7 h2 h];rfl
theorem O8:∀{bx:List Bx} {j:Nat},(n7 bx).contains j=true->∃b∈bx,b.id=j
 |⟨k,t,cs⟩::r,j,h=>by
  simp only[n7,List.contains_cons,Bool.or_eq_true,beq_iff_eq] at h;rcases h with h |h
  ·exact⟨_,b6 ..,h.symm⟩
  ·obtain⟨b,hb,e⟩:=O8 h;exact⟨b,bR _ hb,e⟩
theorem IW:∀{vc:List Vc} {j:Nat},(mO vc).contains j=true->∃b∈vc,b.id=j
 |⟨k,u,e,z,n,xs⟩::r,j,h=>by
  simp only[mO,List.contains_cons,Bool.or_eq_true,beq_iff_eq] at h;rcases h with h |h
  ·exact⟨_,b6 ..,h.symm⟩
  ·obtain⟨b,hb,e⟩:=IW h;exact⟨b,bR _ hb,e⟩
theorem Fy {nB nV:List Nat} {len:Nat}:∀{bx:List Bx},A4 nB nV len bx->∀b∈bx,(b.id<len->nB.contains b.id=true)/\zq nB nV len b.cs
 |⟨k,t,cs⟩::r,h,b,hb=>by
  rcases List.mem_cons.1 hb with rfl |hb
  ·exact⟨fun hl=>by have:=h.1;dsimp only at hl this;rwa [ah hl] at this,h.2.1⟩
  ·exact Fy h.2.2 b hb
theorem Fx {nV:List Nat} {len:Nat}:∀{vc:List Vc},A3 nV len vc->∀b∈vc,b.id<len->nV.contains b.id=true
 |⟨k,u,e,z,n,xs⟩::r,h,b,hb=>by
  rcases List.mem_cons.1 hb with rfl |hb
  ·exact fun hl=>by have:=h.1;dsimp only at hl this;rwa [ah hl] at this
  ·exact Fx h.2 b hb
theorem IL {nid:Nat} {vc:List Vc}:∀{bx:List Bx},AD nid vc bx->∀b∈bx,fO nid vc b.cs
 |⟨_,_,cs⟩::r,h,b,hb=>by
  rcases List.mem_cons.1 hb with rfl |hb
  ·exact h.1
  ·exact IL h.2 b hb
theorem Oo {L:List Nat} {fh:List Vc}:∀{vc:List Vc},CS L fh vc->∀b∈vc,L.contains b.id=true->cG fh b.id b.ver
 |⟨k,u,e,z,n,xs⟩::r,h,b,hb=>by
  rcases List.mem_cons.1 hb with rfl |hb
  ·exact fun hl=>by have:=h.1;dsimp only at hl;rwa [ah hl] at this
  ·exact Oo h.2 b hb
theorem PH:∀{bx:List Bx} {b:Bx},b∈bx->b.id<oe bx
 |⟨k,t,cs⟩::r,b,hb=>by
  simp only[oe];rcases List.mem_cons.1 hb with rfl |hb
  ·dsimp only;omega
  ·have:=PH hb;omega
theorem PG:∀{vc:List Vc} {b:Vc},b∈vc->b.id<od vc
 |⟨k,u,e,z,n,xs⟩::r,b,hb=>by
  simp only[od];rcases List.mem_cons.1 hb with rfl |hb
  ·dsimp only;omega
  ·have:=PG hb;omega
theorem YG {a b:List Vc} {k u:Nat} (ha:cG a k u) (hb:cG b k u):cG (a++b) k u:=by
 induction a with
 |nil=>exact hb
 |cons y r ih=>
  obtain⟨i',v',e',z',n',x'⟩:=y;simp only[dW,cG] at ha ⊢;split
  ·rename_i e;rw[ah e] at ha;exact ha
  ·rename_i e;rw[af e] at ha;exact ih ha
theorem Ih {a:List Vc} {k u:Nat} (h:∀b∈a,b.id≠k):cG a k u:=by
 induction a with
 |nil=>trivial
 |cons y r ih=>
  obtain⟨i',v',e',z',n',x'⟩:=y;simp only[cG];rw[af (h _ (b6 ..))];exact ih fun b hb=>h b (bR _ hb)
theorem WM {p:Vc->Bool} {a:List Vc} {k u:Nat} (hu:(a.map (·.id)).Nodup) (h:cG a k u):cG (a.filter p) k u:=by
 induction a with
 |nil=>trivial
 |cons y r ih=>
  simp only[bJ,List.nodup_cons] at hu;obtain⟨i',v',e',z',n',x'⟩:=y;simp only[cG] at h;simp only[List.filter_cons];split
  ·simp only[cG];split
   ·rename_i e;rw[ah e] at h;exact h
   ·rename_i e;rw[af e] at h;exact ih hu.2 h
  ·by_cases e:i' =k
   ·refine Ih fun b hb=> ?_
    rw[<- e];exact fun e' =>hu.1 (by dsimp only;rw[<- e'];exact List.mem_map.2 ⟨b,(List.mem_filter.1 hb).1,rfl⟩)
   ·rw[af e] at h;exact ih hu.2 h
section
variable {C:Ctx} {st:LS} {V V2:Vl} {D D2:Nat->Nat} {w w2:World} {L:List Nat} {r:SV} {H' :Hp} {m' :Mem}
def lh (st:LS) (L:List Nat) (V V2:Vl):Vl:=
  ⟨fun k=>if k<st.nid then V.β k else V2.β (k - st.nid),
   fun k u=>if k<st.nid then(match nH st.vc k with |some b=>if L.contains k=true/\b.ver<u then V2.γ (jz L 0 k) u else V.γ k u |none=>V.γ k u) else V2.γ (k - st.nid) u⟩
theorem Ya:Agree st.nid st.vc V (lh st L V V2):=by
 intro k hk;refine⟨ah hk,fun u hu=> ?_⟩;show(if k<st.nid then _ else _)=_;rw[ah hk];split
 ·rename_i b hb;rw[af (fun h=>by have:=NG hb hu;omega)]
 ·rfl
theorem xW {j:Nat} (hj:j<L.length):∃k,L[j]? =some k/\k∈L/\fD L st.nid j=k:=by
 refine⟨L[j],List.getElem?_eq_getElem hj,List.getElem_mem hj,?_⟩;unfold fD;rw[List.getElem?_eq_getElem hj];rfl
theorem xX {j:Nat} (hj:¬j<L.length):fD L st.nid j=st.nid+j:=by
 unfold fD;rw[List.getElem?_eq_none (by omega)];rfl
theorem ag1 (iQ:L.Nodup) (aw:vG st.nid L) (hβ:∀b∈(gO st L).bx,V2.β b.id=(lK L V).β b.id) {j:Nat} (hj:j<L.length->(n7 (gO st L).bx).contains j=true):
  (lh st L V V2).β (fD L st.nid j)=V2.β j:=by
 by_cases h:j<L.length
 ·obtain⟨k,hk,hm,he⟩:=xW (st:=st) h;rw[he];obtain⟨b,hb,hbj⟩:=O8 (hj h);have Vp:=hβ b hb;obtain⟨x,hx,rfl⟩:=List.mem_map.1 hb;rw[(zV _ x).1] at hbj Vp;have hc:=(II hx).2;have DT:x.id=k:=by
   have:=(Ae hc).1;rw[hbj,hk] at this;exact(Option.some.inj this).symm
  show(if k<st.nid then _ else _)=_;rw[ah (Cm aw k hm),<- DT,<- AG (V:=V) hc,<- Vp,hbj]
 ·rw[xX h];show(if st.nid+j<st.nid then _ else _)=_;rw[af (by omega),Nat.add_sub_cancel_left]
theorem ag0 (iQ:L.Nodup) (aw:vG st.nid L) (yV:(st.vc.map (·.id)).Nodup) (hγ:∀b∈(gO st L).vc,∀u,u<=b.ver->V2.γ b.id u=(lK L V).γ b.id u) {j:Nat} (hj:j<L.length->(mO (gO st L).vc).contains j=true) (u:Nat):
  (lh st L V V2).γ (fD L st.nid j) u=V2.γ j u:=by
 by_cases h:j<L.length
 ·obtain⟨k,hk,hm,he⟩:=xW (st:=st) h;rw[he];obtain⟨b,hb,hbj⟩:=IW (hj h);have Mf:=hγ b hb;obtain⟨x,hx,rfl⟩:=List.mem_map.1 hb;rw[(nQ _ x).1] at hbj Mf;rw[(nQ _ x).2.1] at Mf;obtain⟨Mg,hc⟩:=vY hx;have DT:x.id=k:=by
   have:=(Ae hc).1;rw[hbj,hk] at this;exact(Option.some.inj this).symm
  show(if k<st.nid then _ else _)=_;rw[ah (Cm aw k hm),<- DT,OY yV Mg];dsimp only;by_cases hu:x.ver<u
  ·rw[ah ⟨hc,hu⟩,hbj]
  ·rw[af (fun h=>hu h.2),<- C7 (V:=V) hc,<- Mf u (by omega),hbj]
 ·rw[xX h];show(if st.nid+j<st.nid then _ else _)=_;rw[af (by omega),Nat.add_sub_cancel_left]
structure Bk (st:LS) (L:List Nat) (V V2:Vl):Prop where
 β:∀j,(j<L.length->(n7 (gO st L).bx).contains j=true)->(lh st L V V2).β (fD L st.nid j)=V2.β j
 γ:∀j u,(j<L.length->(mO (gO st L).vc).contains j=true)->(lh st L V V2).γ (fD L st.nid j) u=V2.γ j u
theorem DQ {p:Prop} [Decidable p] {q:Prop} (h:if p then q else True):p->q:=fun hp=>by rwa [ah hp] at h
theorem A2 (hb:Bk st L V V2) {s:SV} (h:sY (n7 (gO st L).bx) (mO (gO st L).vc) L.length s):bL (lh st L V V2) (nF (fD L st.nid) s)=bL V2 s:=by
 cases s with
 |v x=>rfl
 |box k o=>show Value.pointer _=Value.pointer _;rw[hb.β k (DQ h)]
 |vec k u=>show Hd.val _=Hd.val _;rw[hb.γ k u (DQ h)]
 |vp k u o=>show Value.pointer _=Value.pointer _;rw[hb.γ k u (DQ h)]
 |mp k=>show Value.map _=Value.map _;rw[hb.β k (DQ h)]
 |mv f k o=>show Value.func _ _ _=Value.func _ _ _;rw[hb.β k (DQ h)]
 |agg cs=>rfl
 |tup l=>rfl
theorem LC (hb:Bk st L V V2):∀{l:List SV},zq (n7 (gO st L).bx) (mO (gO st L).vc) L.length l->(l.map (nF (fD L st.nid))).map (bL (lh st L V V2))=l.map (bL V2)
 |[],_=>rfl
 |s::r,h=>by simp only[bJ];rw[A2 hb h.1,LC hb h.2]
theorem yH (hb:Bk st L V V2) {s:SV} (h:En (n7 (gO st L).bx) (mO (gO st L).vc) L.length s):nM (lh st L V V2) (AM (fD L st.nid) s)=nM V2 s:=by
 cases s with
 |agg cs=>show Value.agg _=Value.agg _;rw[LC hb h]
 |v x=>rfl
 |box k o=>exact A2 (s:= .box k o) hb h
 |vec k u=>exact A2 (s:= .vec k u) hb h
 |vp k u o=>exact A2 (s:= .vp k u o) hb h
 |mp k=>exact A2 (s:= .mp k) hb h
 |mv f k o=>exact A2 (s:= .mv f k o) hb h
 |tup l=>rfl
theorem U3 (hb:Bk st L V V2):∀{l:List SV},Em (n7 (gO st L).bx) (mO (gO st L).vc) L.length l->(l.map (AM (fD L st.nid))).map (nM (lh st L V V2))=l.map (nM V2)
 |[],_=>rfl
 |s::r,h=>by simp only[bJ];rw[yH hb h.1,U3 hb h.2]
theorem alD (hb:Bk st L V V2) {s:SV} (h:HJ (n7 (gO st L).bx) (mO (gO st L).vc) L.length s):den (lh st L V V2) (vh (fD L st.nid) s)=den V2 s:=by
 cases s with
 |tup l=>show Value.tuple _=Value.tuple _;rw[U3 hb h]
 |v x=>rfl
 |box k o=>exact yH (s:= .box k o) hb h
 |vec k u=>exact yH (s:= .vec k u) hb h
 |vp k u o=>exact yH (s:= .vp k u o) hb h
 |mp k=>exact yH (s:= .mp k) hb h
 |mv f k o=>exact yH (s:= .mv f k o) hb h
 |agg cs=>exact yH (s:= .agg cs) hb h
theorem ab2 (iQ:L.Nodup) (aw:vG st.nid L) (j:Nat):(fun k=>if k<st.nid then jz L 0 k else k - st.nid) (fD L st.nid j)=j:=by
 by_cases h:j<L.length
 ·obtain⟨k,hk,hm,he⟩:=xW (st:=st) h;dsimp only;rw[he,ah (Cm aw k hm)];unfold jz;rw[O7 iQ hk];rfl
 ·dsimp only;rw[xX h,af (by omega),Nat.add_sub_cancel_left]
theorem HSat.back (hb:Bk st L V V2) (iQ:L.Nodup) (aw:vG st.nid L) (h:HSat V2 D2 w2 H') (D5:A4 (n7 (gO st L).bx) (mO (gO st L).vc) L.length H'.bx) (Vv:A3 (mO (gO st L).vc) L.length H'.vc):
  HSat (lh st L V V2) D2 w2 ⟨H'.bx.map (pM (fD L st.nid)),H'.vc.map (kh (fD L st.nid))⟩/\
   br (lh st L V V2) ⟨H'.bx.map (pM (fD L st.nid)),H'.vc.map (kh (fD L st.nid))⟩=br V2 H' :=by
 have iT:br (lh st L V V2) ⟨H'.bx.map (pM (fD L st.nid)),H'.vc.map (kh (fD L st.nid))⟩=br V2 H' :=by
  unfold br;congr 1
  ·rw[List.map_map];refine List.map_congr_left fun b hm=> ?_
   show(lh st L V V2).β (pM _ b).id=_;rw[(zV _ b).1,hb.β _ (Fy D5 b hm).1]
  ·rw[List.filterMap_map];refine Er fun b hm=> ?_
   show((lh st L V V2).γ (kh _ b).id (kh _ b).ver).blk=_;rw[(nQ _ b).1,(nQ _ b).2.1,hb.γ _ _ (Fx Vv b hm)]
 refine⟨⟨fun b hm=> ?_,fun b hm=> ?_,by rw[iT];exact h.apart,?_⟩,iT⟩
 ·obtain⟨x,hx,rfl⟩:=List.mem_map.1 hm;obtain⟨e1,e2,e3⟩:=zV (fD L st.nid) x;obtain⟨h1,h2⟩:=h.bx x hx;unfold Ep;rw[e1,e2,e3,hb.β _ (Fy D5 x hx).1,LC hb (Fy D5 x hx).2];exact⟨h1,h2⟩
 ·obtain⟨x,hx,rfl⟩:=List.mem_map.1 hm;obtain⟨e1,e2,e3,e4,e5,e6⟩:=nQ (fD L st.nid) x;have h1:=h.vc x hx;unfold zt;rw[e1,e2,e3,e4,e5,e6,hb.γ _ _ (Fx Vv x hx)];exact h1
 ·dsimp only;rw[List.map_map];have:(H'.vc.map ((·.id)∘kh (fD L st.nid)))=(H'.vc.map (·.id)).map (fD L st.nid):=by
   rw[List.map_map];exact List.map_congr_left fun b _=>(nQ _ b).1
  rw[this];exact OT (g:=fun k=>if k<st.nid then jz L 0 k else k - st.nid) (fun j _=>ab2 iQ aw j) h.uniq
theorem SatW.call (h:SatW C st.bx st.vc st.nid st.m V D w) (gQ:Lj st L []) (MD:J6 st L r H' m')
  (wZ:Wf w2 D2) (uh:HSat V2 D2 w2 H') (hβ:∀b∈(gO st L).bx,V2.β b.id=(lK L V).β b.id) (hγ:∀b∈(gO st L).vc,∀u,u<=b.ver->V2.γ b.id u=(lK L V).γ b.id u)
  (qi:Frm (· ∈br (lK L V) (gO st L)) w D w2 D2) (tW:∀b∈br V2 H',b∈br (lK L V) (gO st L)\/w.heap.size<=b) (hle:Mem.le ⟨w,D⟩ ⟨w2,D2⟩) (aN:st.m.le m') (aH:m'.le ⟨w2,D2⟩):
  ∃V3,Agree st.nid st.vc V V3/\den V3 (vh (fD L st.nid) r)=den V2 r/\SatW C (wu st L H' m').bx (wu st L H' m').vc (wu st L H' m').nid m' V3 D2 w2/\
   ∀k u,k<st.nid->cG st.vc k u->cG (wu st L H' m').vc k u:=by
 obtain⟨iQ,aw,_,_⟩:=gQ;have iQ:=OU iQ;obtain⟨c1,c2,c3,c4,c5,c6⟩:=MD;have yV:=h.heap.uniq;have hb:Bk st L V V2:=⟨fun j hj=>ag1 iQ aw hβ hj,fun j u hj=>ag0 iQ aw yV hγ hj u⟩;obtain⟨xo,iT⟩:=uh.back hb iQ aw c2 c3;have nO:=EG L h.heap;obtain⟨hp,hd,hdis⟩:=nO.app;have jD:Agree st.nid st.vc V (lh st L V V2):=Ya;have GO:br (lK L V) (gO st L)=br V ⟨gI L st.bx,fY L st.vc⟩:=SI;have nf:∀b∈nU L st.bx,b∈st.bx:=fun b hb=>(ZA hb).1
 have DU:∀b∈ns L st.vc,b∈st.vc:=fun b hb=>(QX hb).1
 have UW:br (lh st L V V2) ⟨nU L st.bx,ns L st.vc⟩=br V ⟨nU L st.bx,ns L st.vc⟩:=
  Cs (fun b hm=>(jD b.id (h.ids.1 b (nf b hm)).1).1) (fun b hm=>(jD b.id (h.ids.2 b (DU b hm))).2 b.ver (vU yV (DU b hm)))
 have VJ:=wb hd;have vM:HSat (lh st L V V2) D2 w2 ⟨nU L st.bx,ns L st.vc⟩:=
  hd.frame (fun b hm=>⟨(jD b.id (h.ids.1 b (nf b hm)).1).1,zI jD (h.ids.1 b (nf b hm)).2⟩) (fun b hm=>(jD b.id (h.ids.2 b (DU b hm))).2 b.ver (vU yV (DU b hm)))
   (fun g hg=>qi.same g (VJ g hg) (fun hx=>hdis g (GO▸hx) hg))
 have gu:HSat (lh st L V V2) D2 w2 ⟨H'.bx.map (pM (fD L st.nid))++nU L st.bx,H'.vc.map (kh (fD L st.nid))++ns L st.vc⟩:=by
  refine xo.join vM (fun g hg iS=> ?_) (fun x hx y hy=> ?_)
  ·rw[iT] at hg;rw[UW] at iS;rcases tW g hg with e |e
   ·exact hdis g (GO▸e) iS
   ·have:=VJ g iS;omega
  ·obtain⟨z,hz,rfl⟩:=List.mem_map.1 hx;rw[(nQ _ z).1];obtain⟨fW,fF⟩:=QX hy;by_cases hl:z.id<L.length
   ·obtain⟨k,_,hkm,he⟩:=xW (st:=st) hl;rw[he];rintro rfl;have:L.contains y.id=true:=by simpa using hkm
    rw[this] at fF;cases fF
   ·rw[xX hl];have:=h.ids.2 y fW;omega
 have vf:∀k u,k<st.nid->cG st.vc k u->cG (wu st L H' m').vc k u:=by
  intro k u hk hv;show cG (H'.vc.map (kh (fD L st.nid))++ns L st.vc) k u;refine YG ?_ (by rw[BR];exact WM yV hv);by_cases hkL:L.contains k=true
  ·cases lO:nH st.vc k with
   |none=>
    refine Ih fun b fe e=> ?_
    obtain⟨z,hz,rfl⟩:=List.mem_map.1 fe;rw[(nQ _ z).1] at e;by_cases hl:z.id<L.length
    ·obtain⟨k',fp,_,he⟩:=xW (st:=st) hl;rw[he] at e;subst e;obtain⟨y,hy,hyz⟩:=IW (Fx c3 z hz hl);obtain⟨x,hx,rfl⟩:=List.mem_map.1 hy;rw[(nQ _ x).1] at hyz;obtain⟨Mg,hc⟩:=vY hx;have:=(Ae hc).1;rw[hyz,fp] at this;have DT:x.id=k' :=(Option.some.inj this).symm;have:=OY yV Mg;rw[DT,lO] at this;cases this
    ·rw[xX hl] at e;omega
   |some b=>
    have fe:b∈st.vc/\b.id=k:=by
     clear hv;revert lO;generalize st.vc=l
     intro lO;induction l with
     |nil=>cases lO
     |cons y r ih=>
      obtain⟨i',v',e',z',n',x'⟩:=y;simp only[nH] at lO;split at lO
      ·rename_i e;cases lO;exact⟨b6 ..,e⟩
      ·exact⟨bR _ (ih lO).1,(ih lO).2⟩
    have h6:=Oo c6 b fe.1 (by rw[fe.2];exact hkL);rw[fe.2] at h6;exact E8 h6 (NG lO hv)
  ·refine Ih fun b fe e=> ?_
   obtain⟨z,hz,rfl⟩:=List.mem_map.1 fe;rw[(nQ _ z).1] at e;by_cases hl:z.id<L.length
   ·obtain⟨k',_,hm,he⟩:=xW (st:=st) hl;rw[he] at e;subst e;exact hkL (by simpa using hm)
   ·rw[xX hl] at e;omega
 have US:∀j,j<max (oe H'.bx) (od H'.vc)->fD L st.nid j<st.nid+max (oe H'.bx) (od H'.vc):=by
  intro j hj;by_cases hl:j<L.length
  ·obtain⟨k,_,hm,he⟩:=xW (st:=st) hl;rw[he];have:=Cm aw k hm;omega
  ·rw[xX hl];omega
 refine⟨lh st L V V2,jD,alD hb c1,⟨gu,wZ,h.frm.trans qi (fun x hx=>h.own x ((Iy L st.bx st.vc).mem_iff.2 (List.mem_append_left _ (GO▸hx)))),fun x hx=> ?_,fun b fe=> ?_,fun b fe=> ?_,⟨fun b fe=> ?_,fun b fe=> ?_⟩,Mem.le_trans h.le0 hle,Mem.le_trans h.m0 aN,aH⟩,vf⟩
 ·have bP:=(Fv _ _ _ _).mem_iff.1 hx;rcases List.mem_append.1 bP with bP |bP
  ·rw[iT] at bP;rcases tW x bP with e |e
   ·exact h.own x ((Iy L st.bx st.vc).mem_iff.2 (List.mem_append_left _ (GO▸e)))
   ·exact .inr (cX h.frm.size e)
  ·rw[UW] at bP;exact h.own x ((Iy L st.bx st.vc).mem_iff.2 (List.mem_append_right _ bP))
 ·obtain⟨e1,e2⟩:=h.baseB b fe;exact⟨((jD b.id e2).1).trans e1,eP e2 (Nat.le_add_right _ _)⟩
 ·obtain⟨e1,e2,e3⟩:=h.baseV b fe;exact⟨fun u hu=>((jD b.id e2).2 u (E8 e3 hu)).trans (e1 u hu),eP e2 (Nat.le_add_right _ _),vf _ _ e2 e3⟩
 ·rcases List.mem_append.1 fe with fe |fe
  ·refine⟨?_,IL c5 b fe⟩;obtain⟨x,hx,rfl⟩:=List.mem_map.1 fe;rw[(zV _ x).1];exact US _ (eP (PH hx) (Nat.le_max_left _ _))
  ·exact⟨eP (h.ids.1 b (nf b fe)).1 (Nat.le_add_right _ _),xN (Nat.le_add_right _ _) vf (h.ids.1 b (nf b fe)).2⟩
 ·rcases List.mem_append.1 fe with fe |fe
  ·obtain⟨x,hx,rfl⟩:=List.mem_map.1 fe;rw[(nQ _ x).1];exact US _ (eP (PG hx) (Nat.le_max_right _ _))
  ·exact eP (h.ids.2 b (DU b fe)) (Nat.le_add_right _ _)
end
theorem uQ {V:Vl}:∀{cs:List SV},kr cs=true->∀v∈cs.map (bL V),v.oneCell' =true
 | .v x::r,h,v,hv=>by
  simp only[kr,aG] at h;simp only[bJ] at hv;rcases List.mem_cons.1 hv with rfl |hv
  ·exact h.1
  ·exact uQ h.2 v hv
 | .box k o::r,h,v,hv=>by
  simp only[bJ] at hv;rcases List.mem_cons.1 hv with rfl |hv
  ·rfl
  ·exact uQ (cs:=r) h v hv
 | .vec k o::r,h,v,hv=>by
  simp only[bJ] at hv;rcases List.mem_cons.1 hv with rfl |hv
  ·rfl
  ·exact uQ (cs:=r) h v hv
 | .vp k u o::r,h,v,hv=>by
  simp only[bJ] at hv;rcases List.mem_cons.1 hv with rfl |hv
  ·rfl
  ·exact uQ (cs:=r) h v hv
 | .mp k::r,h,v,hv=>by
  simp only[bJ] at hv;rcases List.mem_cons.1 hv with rfl |hv
  ·rfl
  ·exact uQ (cs:=r) h v hv
 | .mv f k o::r,h,v,hv=>by
  simp only[bJ] at hv;rcases List.mem_cons.1 hv with rfl |hv
  ·rfl
  ·exact uQ (cs:=r) h v hv
 | .agg cs::r,h,v,hv=>by simp [kr] at h
 | .tup cs::r,h,v,hv=>by simp [kr] at h
theorem Zb {V:Vl} {s:SV} {x:Value} (h:plain s=some x):bL V s=x:=by
 cases s<;>simp only[plain,dY] at h<;>first |exact h |cases h
theorem EJ {V:Vl}:∀{cs:List SV} {l:List Value},nq cs=some l->cs.map (bL V)=l
 |[],l,h=>by simp only[nq,dY] at h;subst h;rfl
 |s::r,l,h=>by
  simp only[nq,Option.bind_eq_some_iff,Option.map_eq_some_iff] at h;obtain⟨x,hx,l',hl,rfl⟩:=h;simp only[bJ];rw[Zb hx,EJ hl]
theorem JE:∀(l cs:List SV) (off:Nat),off+l.length<=cs.length->lG cs off l=cs.take off++l++cs.drop (off+l.length)
 |[],cs,off,_=>by simp [lG]
 |c::r,cs,off,h=>by
  simp only[aL] at h;simp only[lG];rw[JE r (cs.set off c) (off+1) (by simp;omega)];have h1:(cs.set off c).take (off+1)=cs.take off++[c]:=by
   rw[List.take_set,List.take_succ_eq_append_getElem (by omega)];rw[List.set_append_right _ _ (by simp [Nat.min_le_left])];simp [List.length_take,Nat.min_eq_left (by omega:off<=cs.length)]
  have h2:(cs.set off c).drop (off+1+r.length)=cs.drop (off+1+r.length):=List.drop_set_of_lt (by omega);rw[h1,h2];simp [Nat.add_assoc,Nat.add_comm 1]
theorem Fw {V:Vl} {g:Nat}:∀{l:List Vc} {x b:Vc},x∈l->b∈l->(V.γ x.id x.ver).blk=some g->(V.γ b.id b.ver).blk=some g->(l.filterMap fun b=>(V.γ b.id b.ver).blk).Nodup->x=b
 |y::r,x,b,hx,hb,hxg,hbg,hf=>by
  simp only[List.filterMap_cons] at hf;rcases List.mem_cons.1 hx with e1 |bP<;>rcases List.mem_cons.1 hb with e2 |pq
  ·exact e1.trans e2.symm
  ·subst e1;rw[hxg] at hf;exact absurd (List.mem_filterMap.2 ⟨b,pq,hbg⟩) (List.nodup_cons.1 hf).1
  ·subst e2;rw[hbg] at hf;exact absurd (List.mem_filterMap.2 ⟨x,bP,hxg⟩) (List.nodup_cons.1 hf).1
  ·refine Fw bP pq hxg hbg ?_;split at hf
   ·exact hf
   ·exact(List.nodup_cons.1 hf).2
section
variable {C:Ctx} {n:Nat} {st:LS} {a:Act} {V:Vl} {D:Nat->Nat} {w:World} {P:Program} {p:bX}
theorem Sat.to (hS:Sat C n st a V D w) {ru:List Bx} {fh:List Vc} {jc:Nat} {m' :Mem} {V' :Vl} {D' :Nat->Nat} {w' :World} (ha:Agree st.nid st.vc V V') (hn:st.nid<=jc)
  (hv:∀k u,k<st.nid->cG st.vc k u->cG fh k u) (hW:SatW C ru fh jc m' V' D' w'):Sat C n ⟨st.env,st.rho,ru,fh,jc,m'⟩ a V' D' w' :=
 ⟨hS.f.agree hS.ids ha,fun e he=>Qi hn hv (hS.ids e he),hW⟩
theorem SatW.pub (h:SatW C st.bx st.vc st.nid st.m V D w) {k u:Nat} {b:Vc} (hb:eV st.vc k u=some b):
  ∃(a:Option Addr) (c:Nat) (m1:Mem) (D' :Nat->Nat),st.m.le m1/\b.n<=c/\aX m1 a b.n b.sz b.xs/\(V.γ k u).val= .slice a b.n c/\SatW C st.bx st.vc st.nid m1 V D' w:=by
 obtain⟨rfl,rfl,hm⟩:=Cn hb;obtain⟨eA,hD,dp,qK⟩:=h.heap.vc b hm;obtain⟨hn,hl,_⟩:=yc eA;let D' :Nat->Nat:=fun x=>if(V.γ b.id b.ver).blk=some x then b.n * b.sz else D x
 have hDD:∀x,D x<=D' x:=fun x=>by
  show D x<=if _ then _ else _
  split
  ·rename_i e;exact hD x e
  ·exact av _
 have kP:Wf w D' :=fun x hx=>by
  show(if _ then _ else _)=0;split
  ·rename_i e;have:=(JG eA e).2;omega
  ·exact h.wf x hx
 have hle:Mem.le ⟨w,D⟩ ⟨w,D'⟩:=Mem.le_same h.wf (fun x _=>⟨hDD x,fun _=>rfl⟩);have ahh:Mem.le ⟨w,D'⟩ ⟨w,D'⟩:=Mem.le_refl ⟨w,D'⟩ kP;have akI:∀g,g∈br V ⟨st.bx,st.vc⟩->(V.γ b.id b.ver).blk≠some g->D' g=D g:=fun g _ db=>af db
 refine⟨(V.γ b.id b.ver).a,(V.γ b.id b.ver).c,⟨w,D'⟩,D',Mem.le_trans h.mle hle,?_,⟨hl,fun h0=> ?_⟩,by unfold Hd.val;rw[hn],?_⟩
 ·rcases eA.2 with ⟨_,hz⟩ |⟨g,cap,cur,hv,_,_,hc,_⟩
  ·omega
  ·simp only[Hd.val,Value.slice.injEq] at hv;omega
 ·rcases eA.2 with ⟨_,hz⟩ |⟨g,cap,cur,hv,_,hh,hc,_,gD,htk⟩
  ·omega
  ·simp only[Hd.val,Value.slice.injEq] at hv;refine⟨⟨g,0,none⟩,hv.1,rfl,fun j hj=> ?_⟩;have MD:(V.γ b.id b.ver).blk=some g:=by unfold Hd.blk;rw[hv.1];rfl
   refine⟨?_,?_⟩
   ·rw[Ey];simp only[World.cell?,hh,Option.isSome_none,Bool.false_eq_true,if_false];rw[<- htk,List.getElem?_take,ah hj,Array.getElem?_toList]
   ·show 0+j<D' g;have:D' g=b.n * b.sz:=ah MD;omega
 ·refine⟨⟨fun x hx=> ?_,fun x hx=> ?_,h.heap.apart,h.heap.uniq⟩,kP,h.frm.trans (S:=fun x=>(V.γ b.id b.ver).blk=some x) ⟨rfl,rfl,rfl,av _,fun x _ hx=>⟨rfl,af hx⟩⟩ (fun x hx=>h.own x (by
   simp only[br,List.mem_append,List.mem_filterMap]
   exact .inr ⟨b,hm,hx⟩)),h.own,h.baseB,h.baseV,h.ids,Mem.le_trans h.le0 hle,Mem.le_trans h.m0 (Mem.le_trans h.mle hle),ahh⟩
  ·obtain⟨h1,h2⟩:=h.heap.bx x hx;refine⟨h1,?_⟩;rw[akI _ (by simp only[br,List.mem_append,List.mem_map];exact .inl ⟨x,hx,rfl⟩)]
   ·exact h2
   ·intro e;have rf:=h.heap.apart;unfold br at rf;exact(List.nodup_append.1 rf).2.2 _ (List.mem_map.2 ⟨x,hx,rfl⟩) _ (List.mem_filterMap.2 ⟨b,hm,e⟩) rfl
  ·obtain⟨h1,h2,h3,h4⟩:=h.heap.vc x hx;refine⟨h1,fun g hg=> ?_,h3,h4⟩;show(if _ then _ else _)<=_;split
   ·rename_i e;have hxb:x=b:=by
     have rf:=h.heap.apart;unfold br at rf;have hf:=(List.nodup_append.1 rf).2.1;exact Fw hx hm hg e hf
    rw[hxb];exact av _
   ·exact h2 g hg
theorem ry:∀(l:List SV) (K:List SV->LS->Prop) (m:Mem) (D:Nat->Nat),oS l K ⟨st.env,st.rho,st.bx,st.vc,st.nid,m⟩->SatW C st.bx st.vc st.nid m V D w->
  ∃l' m1 D1,K l' ⟨st.env,st.rho,st.bx,st.vc,st.nid,m1⟩/\SatW C st.bx st.vc st.nid m1 V D1 w/\l'.map (bL V)=l.map (bL V)/\(∀x∈l',∀cs,x= .agg cs-> .agg cs∈l)
 |[],K,m,D,h,hW=>⟨[],m,D,h,hW,rfl,fun _ h=>by cases h⟩
 |s::r,K,m,D,h,hW=>by
  cases s with
  |vec k u=>
   simp only[oS] at h;obtain⟨b,hb,h⟩:=aO h;obtain⟨ad,c,m1,D',h1,h2,h3,h4,h5⟩:=SatW.pub (st:=⟨st.env,st.rho,st.bx,st.vc,st.nid,m⟩) hW hb;obtain⟨l',m2,D2,e1,e2,e3,e4⟩:=ry r _ m1 D' (h ad c m1 h1 h2 h3) h5;refine⟨_,m2,D2,e1,e2,?_,fun x hx cs e=> ?_⟩
   ·simp only[bJ];rw[e3];congr 1
    exact h4.symm
   ·rcases List.mem_cons.1 hx with rfl |hx
    ·cases e
    ·exact bR _ (e4 x hx cs e)
  |v x=>
   obtain⟨l',m2,D2,e1,e2,e3,e4⟩:=ry r _ m D h hW
   exact⟨_,m2,D2,e1,e2,by simp only[bJ,e3],fun y hy cs e=>by
    rcases List.mem_cons.1 hy with rfl |hy
    ·cases e
    ·exact bR _ (e4 y hy cs e)⟩
  |box k o=>
   obtain⟨l',m2,D2,e1,e2,e3,e4⟩:=ry r _ m D h hW
   exact⟨_,m2,D2,e1,e2,by simp only[bJ,e3],fun y hy cs e=>by
    rcases List.mem_cons.1 hy with rfl |hy
    ·cases e
    ·exact bR _ (e4 y hy cs e)⟩
  |vp k u o=>
   obtain⟨l',m2,D2,e1,e2,e3,e4⟩:=ry r _ m D h hW
   exact⟨_,m2,D2,e1,e2,by simp only[bJ,e3],fun y hy cs e=>by
    rcases List.mem_cons.1 hy with rfl |hy
    ·cases e
    ·exact bR _ (e4 y hy cs e)⟩
  |mp k=>
   obtain⟨l',m2,D2,e1,e2,e3,e4⟩:=ry r _ m D h hW
   exact⟨_,m2,D2,e1,e2,by simp only[bJ,e3],fun y hy cs e=>by
    rcases List.mem_cons.1 hy with rfl |hy
    ·cases e
    ·exact bR _ (e4 y hy cs e)⟩
  |mv f k o=>
   obtain⟨l',m2,D2,e1,e2,e3,e4⟩:=ry r _ m D h hW
   exact⟨_,m2,D2,e1,e2,by simp only[bJ,e3],fun y hy cs e=>by
    rcases List.mem_cons.1 hy with rfl |hy
    ·cases e
    ·exact bR _ (e4 y hy cs e)⟩
  |agg cs=>
   obtain⟨l',m2,D2,e1,e2,e3,e4⟩:=ry r _ m D h hW
   exact⟨_,m2,D2,e1,e2,by simp only[bJ,e3],fun y hy ck e=>by
    rcases List.mem_cons.1 hy with rfl |hy
    ·rw[e];exact b6 ..
    ·exact bR _ (e4 y hy ck e)⟩
  |tup l0=>
   obtain⟨l',m2,D2,e1,e2,e3,e4⟩:=ry r _ m D h hW
   exact⟨_,m2,D2,e1,e2,by simp only[bJ,e3],fun y hy cs e=>by
    rcases List.mem_cons.1 hy with rfl |hy
    ·cases e
    ·exact bR _ (e4 y hy cs e)⟩
end
end Go.Proofs.YtimddhkipjedcaaGreatDoor.E

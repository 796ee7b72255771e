/- Several texts in one. -/
import Derived.WalkKit
import Derived.Below
import Derived.Deep.Draws
import Derived.Maps.AppendAt
import Derived.Laws.Strings
import Derived.Laws.StructEq
import Derived.Laws.Shifts
import Derived.Laws.Cover1
import Derived.Laws.Cells
import Derived.Laws.Slices
import Derived.Laws.DeepStrings4
import Derived.Laws.IdiomStrings
import Derived.Lib.Strings
import Derived.MapKept
import Derived.Deep.AppendSrc
set_option linter.unusedSimpArgs false
set_option linter.unusedVariables false
set_option maxHeartbeats 4000000
set_option maxRecDepth 20000
namespace Go.Proofs.YtmdokbohofchgaaGreatDoor.E
open Go
theorem aZ {a b:Nat} (h:Nat.ble a b=true):a<=b:=Nat.le_of_ble_eq_true h
theorem aC (n:Nat):n<=n:=Nat.le_refl n
theorem bc {α:Type _} {as bs:List α}:(as++bs).length=as.length+bs.length:=List.length_append
theorem dk {α:Type _} {a:α} {as:List α}:(a::as).length=as.length+1:=rfl
theorem pU {α:Type _}:([]:List α).length=0:=rfl
theorem ae {c:Prop} {h:Decidable c} (pL:¬c) {α:Sort _} {t e:α}:(ite c t e)=e:=if_neg pL
theorem ak {c:Prop} {h:Decidable c} (hc:c) {α:Sort _} {t e:α}:(ite c t e)=t:=if_pos hc
theorem cE {p:Prop} [Decidable p]:(decide p=true)=p:=decide_eq_true_eq
theorem bw {α:Type _} (y:α) {a:α} {l:List α}:a∈l->a∈y::l:=List.mem_cons_of_mem y
theorem bN {α:Type _} {a:α} {l:List α}:a∈a::l:=List.mem_cons_self ..
theorem aF (n:Nat):0<=n:=Nat.zero_le n
theorem aW (h:Decidable True): @decide True h=true:=decide_true h
theorem aV (h:Decidable False): @decide False h=false:=decide_false h
theorem cQ {n m k:Nat} (h:n<=m) (h2:m<=k):n<=k:=Nat.le_trans h h2
theorem jS {α:Type _} {i:Nat} {l:List α} (h:l.length<=i):l.take i=l:=List.take_of_length_le h
theorem dt {n m k:Nat} (h:n<m) (h2:m<=k):n<k:=Nat.lt_of_lt_of_le h h2
theorem aG {α β:Type _} {f:α->β} {a:α} {l:List α}:(a::l).map f=f a::l.map f:=List.map_cons
theorem cv {α:Type _} {a b:α}:(some a=some b)=(a=b):=Option.some.injEq a b
theorem fv {α:Type _} {a:α} {as bs:List α}:(a::as)++bs=a::(as++bs):=List.cons_append
theorem gI {α:Type _} {i:Nat} {l:List α}:(l.drop i).length=l.length - i:=List.length_drop
theorem ab {p:Prop} [Decidable p] (h:¬p):decide p=false:=decide_eq_false h
theorem aQ {p:Prop} [Decidable p] (h:p):decide p=true:=decide_eq_true h
theorem nJ {α:Type _} {a:α}:[a].length=1:=List.length_singleton
theorem bB (a b:Bool):((a&&b)=true)=(a=true/\b=true):=Bool.and_eq_true a b
inductive A {γ:Type} (k:γ) (α:Type) where
 |mk (a:α)
inductive SV where
 |v (x:Value)
 |box (k off:Nat)
 |vec (k ver:Nat)
 |vp (k ver off:Nat)
 |vo (k ver off sz:Nat)
 |mp (k:Nat)
 |mv (f:FuncId) (k off:Nat)
 |sl (k n c:Nat)
 |cl (f:FuncId) (ks:List Nat)
 |agg (cs:List SV)
 |tup (vs:List SV)
abbrev bj:=List (Nat×Bool)
structure Bx where
 id:Nat
 ty:TypeId
 cs:List SV
def gv:Nat:=1000000
structure Vc where
 id:Nat
 ver:Nat
 el:TypeId
 sz:Nat
 n:Nat
 xs:List Value
structure Mem where
 w:World
 D:Nat->Nat
structure Hp where
 bx:List Bx
 vc:List Vc
inductive GB where
 |lit (b:Bool)
 |sym (b:Bool)
structure Gd where
 i:Nat
 slot:Nat
 p:bj
 b:GB
structure Ev where
 t:Nat
 p:bj
 s:SV
structure LS where
 env:List Ev
 rho:List Gd
 bx:List Bx
 vc:List Vc
 nid:Nat
 m:Mem
def bs (l:List UInt8):ByteArray:=⟨l.toArray⟩
def tl (s:ByteArray):List UInt8:=s.data.toList
theorem Fg (l:List UInt8):tl (bs l)=l:=by simp [tl,bs]
theorem eY (s:ByteArray):bs (tl s)=s:=by simp [tl,bs]
theorem Sq (l:List UInt8):ByteArray.mk l.toArray=bs l:=rfl
theorem oS {a b:List UInt8} (h:bs a=bs b):a=b:=by have:=congrArg tl h;simpa [Fg] using this
def GB.val:GB->Bool | .lit b=>b | .sym b=>b
def mS:bj->bj->Bool
 |[],[]=>true
 |(j,w)::p,(k,u)::q=>if j=k then(if w=u then mS p q else false) else false
 |_,_=>false
def kJ:bj->bj->Bool
 |p,[]=>mS p []
 |p,x::q=>if mS p (x::q)=true then true else kJ p q
def dX:List Ev->Nat->bj->Option SV
 |[],_,_=>none
 |⟨t',p',s⟩::r,t,p=>if t' =t then(if kJ p' p=true then some s else none) else dX r t p
def ev:List Gd->Nat->Option Gd
 |[],_=>none
 |⟨i',t',p',b'⟩::r,i=>if i' =i then some ⟨i',t',p',b'⟩ else ev r i
def wO:List Gd->Nat->Option Gd
 |[],_=>none
 |⟨i',t',p',b'⟩::r,i=>if t' =i then some ⟨i',t',p',b'⟩ else wO r i
def dz:List Bx->Nat->Option Bx
 |[],_=>none
 |⟨k',t',bh⟩::r,i=>if k' =i then some ⟨k',t',bh⟩ else dz r i
def cz:List Vc->Nat->Nat->Option Vc
 |[],_,_=>none
 |⟨k',u',e',z',n',x'⟩::r,i,u=>if k' =i then(if u' =u then some ⟨k',u',e',z',n',x'⟩ else none) else cz r i u
def lg (rho:List Gd) (j:Nat) (w:Bool):Bool:=match ev rho j with |some g=>(if w=true then g.b.val else !g.b.val) |none=>false
def bG (rho:List Gd):bj->Bool
 |[]=>true
 |(j,w)::p=>lg rho j w&&bG rho p
def uf:Option Gd->Bool->Bool
 |some ⟨_,_,_,.lit true⟩,false=>true
 |some ⟨_,_,_,.lit false⟩,true=>true
 |_,_=>false
def sw (rho:List Gd):bj->Bool
 |[]=>false
 |(j,w)::p=>if uf (ev rho j) w=true then true else sw rho p
def lZ (st:LS) (p:bj) (B:Prop):Prop:=bG st.rho p=true->B
def bP (st:LS) (p:bj):Operand->Option SV
 | .tmp t=>dX st.env t p
 | .const x=>some (.v x)
 | .func f=>some (.v (.func (.func f) #[] #[]))
 | .global g=>some (.v (.pointer (some ⟨g,0,none⟩)))
def aA {α:Type} {K:α->Prop} (x:A K (Option α)):Prop:=match x with | .mk (some s)=>K s | .mk none=>False
/-! Types, as the program's tables have them. -/
def cH (P:Program) (t:TypeId):Option (Option Nat):=
 match P.underlying t with
 |some (.struct _) |some (.array _ _)=>(P.info? t).map fun i=>some i.size
 |some _=>some none
 |none=>none
def aM (P:Program) (t:TypeId):Nat:=((P.info? t).map (·.size)).getD 0
def iP (P:Program) (t:TypeId):Nat:=((P.info? t).map (·.bytes)).getD 0
def cY (P:Program) (t:TypeId):Option (List SV):=((P.info? t).bind (·.zero)).map fun z=>z.cells.toList.map .v
def bf (P:Program) (s:TypeId) (f:Nat):Option (Nat×Option Nat×Nat):=
 match P.underlying s with
 |some (.struct fs)=>(fs[f]?).bind fun x=>if 0<aM P x.type then(cH P x.type).map fun g=>(x.offset,g,aM P x.type) else none
 |_=>none
def eo (P:Program) (t:TypeId):Option TypeId:=
 match P.underlying t with
 |some (.slice e)=>some e
 |_=>none
inductive CvK where |int (k:IntKind) |same |b2s |no
def oI (P:Program) (src dst:TypeId):CvK:=
 match P.underlying src,P.underlying dst with
 |some (.int _),some (.int k)=> .int k
 |some .string,some .string=> .same
 |some (.slice e),some .string=>(match P.underlying e with |some (.int .u8)=> .b2s |_=> .no)
 |_,_=> .no
/-! Values. -/
def az (n:Int):Prop:= -9223372036854775808<=n/\n<=9223372036854775807
def arith {k:IntKind} {u:Prop->Prop} {K:SV->Prop} (x:A (k,u,K) Int):Prop:=
 match k,x with
 | .i64,.mk n=>u (az n)/\K (.v (.int .i64 n))
 |k,.mk n=>K (.v (.int k (k.wrap n)))
def fM {op:BinOp} {k:IntKind} {u:Prop->Prop} {K:SV->Prop} (x:A (op,k,u,K) (Int×Int)):Prop:=
 match op,x with
 | .add,.mk (a,b)=>arith (.mk (k:=(k,u,K)) (a+b))
 | .sub,.mk (a,b)=>arith (.mk (k:=(k,u,K)) (a - b))
 | .mul,.mk (a,b)=>arith (.mk (k:=(k,u,K)) (a * b))
 | .quo,.mk (a,b)=>u (b≠0)/\arith (.mk (k:=(k,u,K)) (a.tdiv b))
 | .rem,.mk (a,b)=>u (b≠0)/\K (.v (.int k (a.tmod b)))
 | .and,.mk (a,b)=>K (.v (.int k (bits .and k a b)))
 | .or,.mk (a,b)=>K (.v (.int k (bits .or k a b)))
 | .xor,.mk (a,b)=>K (.v (.int k (bits .xor k a b)))
 | .andNot,.mk (a,b)=>K (.v (.int k (bits .andNot k a b)))
 | .eql,.mk (a,b)=>K (.v (.bool (decide (a=b))))
 | .neq,.mk (a,b)=>K (.v (.bool (!decide (a=b))))
 | .lss,.mk (a,b)=>K (.v (.bool (decide (a<b))))
 | .leq,.mk (a,b)=>K (.v (.bool (decide (a<=b))))
 | .gtr,.mk (a,b)=>K (.v (.bool (decide (b<a))))
 | .geq,.mk (a,b)=>K (.v (.bool (decide (b<=a))))
 | .shl,.mk (a,b)=>u (0<=b/\b<=k.bits)/\K (.v (.int k (k.wrap (a * 2 ^ b.toNat))))
 | .shr,.mk (a,b)=>u (0<=b/\b<=k.bits)/\K (.v (.int k (a / 2 ^ b.toNat)))
def oq {op:BinOp} {u:Prop->Prop} {K:SV->Prop} (x:A (op,u,K) (List UInt8×List UInt8)):Prop:=
 match op,x with
 | .add,.mk (a,b)=>u (a.length+b.length<=9223372036854775807)/\K (.v (.string (bs (a++b))))
 | .eql,.mk (a,b)=>K (.v (.bool (decide (a=b))))
 | .neq,.mk (a,b)=>K (.v (.bool (!decide (a=b))))
 | .lss,.mk (a,b)=>K (.v (.bool (Op.bytesLess a b)))
 | .geq,.mk (a,b)=>K (.v (.bool (!Op.bytesLess a b)))
 |_,_=>False
def kE:SV->SV->Option Bool
 | .v (.int k a),.v (.int k' b)=>if k=k' then some (decide (a=b)) else none
 | .v (.string a),.v (.string b)=>some (decide (tl a=tl b))
 | .v (.bool a),.v (.bool b)=>some (a==b)
 |_,_=>none
def gm:List SV->List SV->Option Bool
 |[],[]=>some true
 |a::x,b::y=>(kE a b).bind fun e=>(gm x y).map fun r=>e&&r
 |_,_=>none
def iT:SV->Option (List SV)
 | .agg cs=>some cs
 | .v (.agg ⟨l⟩)=>some (l.map .v)
 | .tup _=>none
 | .v (.tuple _)=>none
 |s=>some [s]
def lB:SV->Option (List SV)
 | .agg cs=>some cs
 | .v (.agg ⟨l⟩)=>some (l.map .v)
 |_=>none
def kI:SV->SV->Bool
 | .v (.int k _),.v (.int k' _)=>decide (k=k')
 | .v (.string _),.v (.string _)=>true
 | .v (.bool _),.v (.bool _)=>true
 |_,_=>false
def jn:List SV->List SV->Bool
 |[],[]=>true
 |z::zs,x::xs=>kI z x&&jn zs xs
 |_,_=>false
def sP (z:Option (List SV)) (xs:List SV):Bool:=
 match z with
 |some zs=>jn zs xs
 |none=>false
def wZ (P:Program) (t:TypeId):Prop:=
 ∀(xs ys:List Value) (b:Bool) (w:World) (o o' :Operand) (op:BinOp),gm (xs.map .v) (ys.map .v)=some b->sP (cY P t) (xs.map .v)=true->
  (eqGuard op t o o' (.agg xs.toArray) (.agg ys.toArray)).run P w= .ok () w/\(Op.equal t (.agg xs.toArray) (.agg ys.toArray)).run P w= .ok b w
def na {op:BinOp} {K:SV->Prop} (x:A (op,K) Bool):Prop:=
 match op,x with
 | .eql,.mk b=>K (.v (.bool b))
 | .neq,.mk b=>K (.v (.bool (!b)))
 |_,_=>False
def lW {P:Program} {op:BinOp} {t:TypeId} {u:Prop->Prop} {K:SV->Prop} (x:A (P,op,t,u,K) (SV×SV)):Prop:=
 match x with
 | .mk (.v (.int k a),.v (.int k' b))=>(op= .shl\/op= .shr\/k=k')/\fM (.mk (k:=(op,k,u,K)) (a,b))
 | .mk (.v (.string a),.v (.string b))=>oq (.mk (k:=(op,u,K)) (tl a,tl b))
 | .mk (.v (.bool a),.v (.bool b))=>P.underlying t=some .bool/\na (.mk (k:=(op,K)) (a==b))
 | .mk (.agg xs,y)=>wZ P t/\sP (cY P t) xs=true/\aA (.mk (k:=fun b=>na (.mk (k:=(op,K)) b)) ((lB y).bind fun ys=>gm xs ys))
 | .mk (.v (.agg xs),y)=>wZ P t/\sP (cY P t) (xs.toList.map .v)=true/\aA (.mk (k:=fun b=>na (.mk (k:=(op,K)) b)) ((lB y).bind fun ys=>gm (xs.toList.map .v) ys))
 | .mk (.v (.slice a _ _),.v (.slice none 0 0))=>op= .eql/\(eo P t).isSome=true/\K (.v (.bool a.isNone))
 |_=>False
def bk (a:Option Addr) (o:Nat):Value:= .pointer (a.map (·.add o))
def vZ (x:Value) (o:Nat):Value:=match x with | .pointer a=>bk a o |x=>x
def mU (x:Value):Prop:=∃a,x= .pointer (some a)
def pq:Value->Bool
 | .pointer none | .nilIface | .nilFunc=>false
 | .func (.func _) _ _=>true
 | .func _ _ _=>false
 |_=>true
def Rd (m:Mem) (x:Value) (cs:List Value):Prop:=
 ∃a,x= .pointer (some a)/\a.spot=none/\∀j,j<cs.length->m.w.cell? (a.add j)=cs[j]? /\a.off+j<m.D a.block
def bS (a:Option Addr) (n:Nat) (i:Int):Prop:=0<=i/\i<n/\a≠none
def aw (m:Mem) (a:Option Addr) (n sz:Nat) (xs:List Value):Prop:=
 xs.length=n * sz/\(0<n->∃ad,a=some ad/\ad.spot=none/\∀j,j<n * sz->m.w.cell? (ad.add j)=xs[j]? /\ad.off+j<m.D ad.block)
def gE (a:Option Addr) (c l h sz:Nat):Value:= .slice (if c=l then a else a.map (·.add (l * sz))) (h - l) (c - l)
def qV (l:List UInt8):List Value:=l.map fun b=> .int .u8 b.toNat
def lQ:SV->Option SV
 | .v x=>some (.v x)
 | .box k o=>some (.box k o)
 | .vec k u=>some (.vec k u)
 | .vp k u o=>some (.vp k u o)
 | .vo k u o z=>some (.vo k u o z)
 | .mp k=>some (.mp k)
 | .mv f k o=>some (.mv f k o)
 | .sl k n c=>some (.sl k n c)
 | .cl f ks=>some (.cl f ks)
 | .agg _=>none
 | .tup _=>none
def sb (cs:List SV) (off:Nat):Option Nat->Option SV
 |none=>(cs[off]?).bind lQ
 |some n=>if off+n<=cs.length then some (.agg ((cs.drop off).take n)) else none
def iG (cs:List SV) (off:Nat):List SV->List SV
 |[]=>cs
 |c::r=>iG (cs.set off c) (off+1) r
inductive PM where |and |or |gen
def yS:Operand->Operand->PM
 |_,.const (.bool false)=> .and
 | .const (.bool true),_=> .or
 |_,_=> .gen
def qv {md:PM} {K:SV->Prop} (x:A (md,K) (Bool×SV×SV)):Prop:=
 match md,x with
 | .and,.mk (c,.v (.bool a),.v (.bool false))=>K (.v (.bool (c&&a)))
 | .or,.mk (c,.v (.bool true),.v (.bool b))=>K (.v (.bool (c||b)))
 | .gen,.mk (c,.v (.bool a),.v (.bool b))=>K (.v (.bool (bif c then a else b)))
 |_,_=>False
def mE (o:Option SV) (d:Int):Option Int:=
 match o with
 |none=>some d
 |some (.v (.int _ n))=>some n
 |_=>none
def uo (st:LS) (p:bj) (o:Option Operand):Option (Option SV):=
 match o with
 |none=>some none
 |some x=>(bP st p x).map some
def rZ (P:Program) (t:TypeId) (st:LS) (p:bj):List (Nat×Operand)->List SV->Option (List SV)
 |[],cs=>some cs
 |(i,x)::r,cs=>(bf P t i).bind fun fo=>((bP st p x).bind iT).bind fun l=>
   if l.length=fo.2.2 then(if fo.1+l.length<=cs.length then rZ P t st p r (iG cs fo.1 l) else none) else none
def fV (P:Program) (t:TypeId):Bool:=
 match P.underlying t with
 |some (.struct fs)=>fs.toList.all fun x=>(P.info? x.type).isSome
 |_=>false
def qI {u:Prop->Prop} {K:SV->Prop} (x:A (u,K) SV):Prop:=
 match x with
 | .mk (.v x)=>u (pq x=true)/\K (.v x)
 | .mk (.box k o)=>K (.box k o)
 |_=>False
def qW {op:UnOp} {u:Prop->Prop} {K:SV->Prop} (x:A (op,u,K) SV):Prop:=
 match op,x with
 | .not,.mk (.v (.bool b))=>K (.v (.bool (!b)))
 | .neg,.mk (.v (.int k n))=>arith (.mk (k:=(k,u,K)) (0 - n))
 |_,_=>False
def Np (v:Value):Prop:=v= .nilIface\/∃t x,v= .iface t x
def v8:Value->Bool
 | .nilIface=>true
 |_=>false
def Fp (P:Program) (t:TypeId):Bool:=
 match P.underlying t with
 |some (.interface _)=>true
 |_=>false
def se {P:Program} {op:BinOp} {t:TypeId} {u:Prop->Prop} {K:SV->Prop} (x:A (P,op,t,u,K) SV):Prop:=
 match x with
 | .mk (.v v)=>Fp P t=true/\u (Np v)/\na (.mk (k:=(op,K)) (v8 v))
 |_=>False
def nW {u:Prop->Prop} {K:SV->Prop} (x:A (u,K) (LS×CvK×SV)):Prop:=
 match x with
 | .mk (_,.int k,.v (.int _ n))=>K (.v (.int k (k.wrap n)))
 | .mk (_,.same,.v (.string s))=>K (.v (.string s))
 | .mk (st,.b2s,.vec k v)=>aA (.mk (k:=fun b:Vc=>∃l,u (b.sz=1/\b.xs=qV l)/\K (.v (.string (bs l)))) (cz st.vc k v))
 | .mk (st,.b2s,.v (.slice a n _))=>∃l,u (aw st.m a n 1 (qV l))/\K (.v (.string (bs l)))
 |_=>False
def ph {u:Prop->Prop} {K:SV->Prop} (x:A (u,K) (LS×SV×Nat)):Prop:=
 match x with
 | .mk (_,.box k o,f)=>K (.box k (o+f))
 | .mk (st,.vp k v o,f)=>aA (.mk (k:=fun b:Vc=>u (o<b.xs.length)/\K (.vp k v (o+f))) (cz st.vc k v))
 | .mk (_,.v x,f)=>u (mU x)/\K (.v (vZ x f))
 |_=>False
def pg {P:Program} {u:Prop->Prop} {K:SV->Prop} (x:A (P,u,K) (LS×TypeId×SV×SV)):Prop:=
 match x with
 | .mk (_,e,.v (.slice a n _),.v (.int _ i))=>0<aM P e/\u (bS a n i)/\K (.v (bk a (i.toNat * aM P e)))
 | .mk (_,e,.sl k n _,.v (.int _ i))=>0<aM P e/\u (0<=i/\i<n)/\K (.box k (i.toNat * aM P e))
 | .mk (st,e,.vec k v,.v (.int _ i))=>aA (.mk (k:=fun b:Vc=>0<aM P e/\u (0<=i/\i<b.n/\b.sz=aM P e)/\K (.vp k v (i.toNat * aM P e))) (cz st.vc k v))
 |_=>False
def sW {P:Program} {t:TypeId} {u:Prop->Prop} {K:SV->Prop} (x:A (P,t,u,K) (SV×SV)):Prop:=
 match x with
 | .mk (.v (.string s),.v (.int _ i))=>P.underlying t=some .string/\u (0<=i/\i<(tl s).length)/\K (.v (.int .u8 ((tl s).getD i.toNat 0).toNat))
 |_=>False
def FH {s:List UInt8} {u:Prop->Prop} {K:SV->Prop} (x:A (s,u,K) (Int×Int)):Prop:=
 match x with
 | .mk (l,h)=>u (0<=l/\l<=h/\h<=s.length)/\K (.v (.string (bs ((s.take h.toNat).drop l.toNat))))
def pB {P:Program} {t:TypeId} {u:Prop->Prop} {K:SV->Prop} (x:A (P,t,u,K) (LS×SV×Option SV×Option SV)):Prop:=
 match x with
 | .mk (_,.v (.string s),lo,hi)=>P.underlying t=some .string/\
   aA (.mk (k:=fun l:Int=>aA (.mk (k:=fun h:Int=>FH (.mk (k:=(tl s,u,K)) (l,h))) (mE hi (tl s).length))) (mE lo 0))
 | .mk (_,.v (.slice a n c),lo,hi)=>aA (.mk (k:=fun l:Int=>aA (.mk (k:=fun h:Int=>aA (.mk (k:=fun e:TypeId=>
   0<aM P e/\u (0<=l/\l<=h/\h<=c)/\K (.v (gE a c l.toNat h.toNat (aM P e)))) (eo P t))) (mE hi n))) (mE lo 0))
 | .mk (st,.vec k v,lo,none)=>aA (.mk (k:=fun l:Int=>aA (.mk (k:=fun b:Vc=>aA (.mk (k:=fun e:TypeId=>
   0<aM P e/\u (0<=l/\l<=b.n)/\K (.vo k v l.toNat (aM P e))) (eo P t))) (cz st.vc k v))) (mE lo 0))
 |_=>False
def uJ {m:Mem} {x:Value} {u:Prop->Prop} {K:SV->Prop} (ag:A (m,x,u,K) (Option Nat)):Prop:=
 match ag with
 | .mk none=>∃c,u (Rd m x [c])/\K (.v c)
 | .mk (some n)=>∃cs,u (Rd m x cs/\cs.length=n)/\K (.v (.agg ⟨cs⟩))
def uk {b:Vc} {o:Nat} {u:Prop->Prop} {K:SV->Prop} (ag:A (b,o,u,K) (Option Nat)):Prop:=
 match ag with
 | .mk none=>u (o<b.xs.length)/\K (.v (b.xs.getD o undef))
 | .mk (some n)=>0<n/\u (o+n<=b.xs.length)/\K (.v (.agg ⟨(b.xs.drop o).take n⟩))
def lM {P:Program} {t:TypeId} {u:Prop->Prop} {K:SV->Prop} (x:A (P,t,u,K) (LS×SV)):Prop:=
 match x with
 | .mk (st,.box k o)=>aA (.mk (k:=fun b:Bx=>(b.ty<gv)/\aA (.mk (k:=fun ag:Option Nat=>aA (.mk (k:=K) (sb b.cs o ag))) (cH P t))) (dz st.bx k))
 | .mk (st,.vp k v o)=>aA (.mk (k:=fun b:Vc=>aA (.mk (k:=fun ag:Option Nat=>uk (.mk (k:=(b,o,u,K)) ag)) (cH P t))) (cz st.vc k v))
 | .mk (st,.v x)=>aA (.mk (k:=fun ag:Option Nat=>uJ (.mk (k:=(st.m,x,u,K)) ag)) (cH P t))
 |_=>False
def jd:SV->Option SV
 | .v x=>some (.v x)
 | .box k o=>some (.box k o)
 | .vec k u=>some (.vec k u)
 | .vp k u o=>some (.vp k u o)
 | .vo k u o z=>some (.vo k u o z)
 | .mp k=>some (.mp k)
 | .mv f k o=>some (.mv f k o)
 | .sl k n c=>some (.sl k n c)
 | .cl f ks=>some (.cl f ks)
 | .agg cs=>some (.agg cs)
 | .tup _=>none
def qJ {K:SV->Prop} (x:A K (SV×Nat)):Prop:=
 match x with
 | .mk (.tup l,i)=>aA (.mk (k:=K) (l[i]?.bind jd))
 | .mk (.v (.tuple ⟨l⟩),i)=>aA (.mk (k:=K) (l[i]?.map .v))
 |_=>False
def oc {P:Program} {t:TypeId} {K:SV->Prop} (x:A (P,t,K) (LS×SV)):Prop:=
 match x with
 | .mk (_,.v (.string s))=>P.underlying t=some .string/\K (.v (.int .i64 (tl s).length))
 | .mk (_,.v (.slice _ n _))=>aA (.mk (k:=fun _:TypeId=>K (.v (.int .i64 n))) (eo P t))
 | .mk (st,.vec k v)=>aA (.mk (k:=fun _:TypeId=>aA (.mk (k:=fun b:Vc=>K (.v (.int .i64 b.n))) (cz st.vc k v))) (eo P t))
 | .mk (_,.sl _ n _)=>aA (.mk (k:=fun _:TypeId=>K (.v (.int .i64 n))) (eo P t))
 |_=>False
def sE {K:SV->Prop} (x:A K (SV×SV)):Prop:=
 match x with
 | .mk (.v (.int k a),.v (.int _ b))=>K (.v (.int k (if b<a then b else a)))
 |_=>False
def sF {K:SV->Prop} (x:A K (SV×SV)):Prop:=
 match x with
 | .mk (.v (.int k a),.v (.int _ b))=>K (.v (.int k (if a<b then b else a)))
 |_=>False
def mx (a b:Int):Int:=if a<b then b else a
def sj {K:SV->Prop} (x:A K (SV×SV×SV×SV)):Prop:=
 match x with
 | .mk (.v (.int k a),.v (.int _ b),.v (.int _ c),.v (.int _ d))=>K (.v (.int k (mx (mx (mx a b) c) d)))
 |_=>False
def qu {p:bj} {a b:Operand} {st:LS} {g:Gd} {K:SV->Prop} (x:A (p,a,b,st,g,K) PM):Prop:=
 match g,x with
 |⟨i,_,q,.lit true⟩,_=>kJ q p=true/\aA (.mk (k:=K) (bP st ((i,true)::q) a))
 |⟨i,_,q,.lit false⟩,_=>kJ q p=true/\aA (.mk (k:=K) (bP st ((i,false)::q) b))
 |⟨i,_,q,.sym c⟩,.mk md=>kJ q p=true/\
   aA (.mk (k:=fun x:SV=>aA (.mk (k:=fun y:SV=>qv (.mk (k:=(md,K)) (c,x,y))) (bP st ((i,false)::q) b))) (bP st ((i,true)::q) a))
open Classical in
noncomputable def gN:List Value->Value->Option Value
 |k::v::r,s=>if k=s then some v else gN r s
 |_,_=>none
open Classical in
noncomputable def pj:List Value->Value->Value->List Value
 |k::v::r,s,x=>if k=s then k::x::r else k::v::pj r s x
 |_,s,x=>[s,x]
def zU:Option Value->Bool
 |some (.bool b)=>b
 |_=>false
def dU (P:Program) (t:TypeId):Nat×Option Value:=
 match P.underlying t with
 |some (.map k e)=>(match P.underlying k,P.underlying e with
  |some .string,some .bool=>(1000000,none)
  |some .string,_=>(1000002,some (((P.info? e).bind (·.zero)).getD undef))
  |_,some .bool=>(1000001,none)
  |_,_=>(0,none))
 |_=>(0,none)
def dN (g:Nat) (v:Value):Prop:=if g=1000001 then ∃s n,v= .agg ⟨[.string s,.int .i64 n]⟩ else ∃s,v= .string s
def gz (g:Nat) (v:Value):Prop:=if g=1000002 then True else ∃b,v= .bool b
open Classical in
noncomputable def s6:List MapEntry->Value->Nat->Option (Nat×Value)
 |[],_,_=>none
 |e::es,s,i=>if e.key=s then some (i,e.val) else s6 es s (i+1)
def pd (P:Program) (t:TypeId):Prop:=
 gv<=(dU P t).1/\∃k e,P.underlying t=some (.map k e)/\
  (∀w key em n,dN (dU P t).1 key->(Instr.checkKey em (n+2) k key).run P w= .ok () w)/\
  (∀w key es,dN (dU P t).1 key->(∀x∈es,dN (dU P t).1 x.key)->(Instr.findKey k key es).run P w= .ok (s6 es key 0) w)/\
  (∀w,(zeroValue e).run P w= .ok ((dU P t).2.getD (.bool false)) w)
def plain:SV->Option Value
 | .v x=>some x
 |_=>none
def jU:List SV->Option (List Value)
 |[]=>some []
 |s::r=>(plain s).bind fun x=>(jU r).map (x:: ·)
def lF:SV->Option Value
 | .v x=>some x
 | .agg cs=>(jU cs).map fun l=> .agg ⟨l⟩
 |_=>none
def iH (l:List (Value×Value)):List Value:=l.flatMap fun x=>[x.1,x.2]
def nI (m:Mem) (g:Nat) (y:Value) (l:List Value):Prop:=
 ∃b es fF ps,y= .map (some b)/\m.w.heap[b]? =some (.map es fF)/\0<m.D b/\l=iH ps/\es.toList.map (fun e=>(e.key,e.val))=ps/\∀x∈ps,dN g x.1/\gz g x.2
def oa {l:List Value} {key:Value} {K:SV->Prop} (x:A (l,key,K) (Bool×Option Value)):Prop:=
 match x with
 | .mk (false,none)=>K (.v (.bool (zU (gN l key))))
 | .mk (false,some z)=>(∀v,gN l key=some v->K (.v v))/\(gN l key=none->K (.v z))
 | .mk (true,some z)=>(∀v,gN l key=some v->K (.tup [.v v,.v (.bool true)]))/\(gN l key=none->K (.tup [.v z,.v (.bool false)]))
 |_=>False
def pf {P:Program} {t:TypeId} {c:Bool} {K:SV->Prop} (x:A (P,t,c,K) (LS×SV×Option Value)):Prop:=
 match x with
 | .mk (st,.mp k,some key)=>aA (.mk (k:=fun b:Bx=>(b.ty==(dU P t).1)=true/\pd P t/\dN b.ty key/\aA (.mk (k:=fun l:List Value=>oa (.mk (k:=(l,key,K)) (c,(dU P t).2))) (jU b.cs))) (dz st.bx k))
 | .mk (st,.v y,some key)=>pd P t/\dN (dU P t).1 key/\∃l,nI st.m (dU P t).1 y l/\oa (.mk (k:=(l,key,K)) (c,(dU P t).2))
 |_=>False
def qOp {P:Program} {op:Op} {K:SV->Prop} (x:A (P,op,K) (LS×bj)):Prop:=
 match op,x with
 | .move x,.mk (st,p) | .assign x,.mk (st,p)=>aA (.mk (k:=K) (bP st p x))
 | .pick (.tmp t) a b,.mk (st,p)=>aA (.mk (k:=fun g:Gd=>qu (.mk (k:=(p,a,b,st,g,K)) (yS a b))) (wO st.rho t))
 | .nilCheck x,.mk (st,p)=>aA (.mk (k:=fun s:SV=>qI (.mk (k:=(lZ st p,K)) s)) (bP st p x))
 | .binOp op t x (.const .nilIface) _,.mk (st,p)=>aA (.mk (k:=fun a:SV=>se (.mk (k:=(P,op,t,lZ st p,K)) a)) (bP st p x))
 | .binOp op t x y _,.mk (st,p)=>aA (.mk (k:=fun a:SV=>aA (.mk (k:=fun b:SV=>lW (.mk (k:=(P,op,t,lZ st p,K)) (a,b))) (bP st p y))) (bP st p x))
 | .unOp op _ x,.mk (st,p)=>aA (.mk (k:=fun s:SV=>qW (.mk (k:=(op,lZ st p,K)) s)) (bP st p x))
 | .convert src dst x,.mk (st,p)=>aA (.mk (k:=fun s:SV=>nW (.mk (k:=(lZ st p,K)) (st,oI P src dst,s))) (bP st p x))
 | .fieldAddr s x f,.mk (st,p)=>aA (.mk (k:=fun a:SV=>aA (.mk (k:=fun fo:Nat×Option Nat×Nat=>ph (.mk (k:=(lZ st p,K)) (st,a,fo.1))) (bf P s f))) (bP st p x))
 | .field s x f,.mk (st,p)=>aA (.mk (k:=fun cs:List SV=>aA (.mk (k:=fun fo:Nat×Option Nat×Nat=>aA (.mk (k:=K) (sb cs fo.1 fo.2.1))) (bf P s f))) ((bP st p x).bind lB))
 | .indexAddr t x i,.mk (st,p)=>aA (.mk (k:=fun a:SV=>aA (.mk (k:=fun i:SV=>aA (.mk (k:=fun e:TypeId=>pg (.mk (k:=(P,lZ st p,K)) (st,e,a,i))) (eo P t))) (bP st p i))) (bP st p x))
 | .index t x i,.mk (st,p)=>aA (.mk (k:=fun a:SV=>aA (.mk (k:=fun i:SV=>sW (.mk (k:=(P,t,lZ st p,K)) (a,i))) (bP st p i))) (bP st p x))
 | .slice t x lo hi none,.mk (st,p)=>aA (.mk (k:=fun a:SV=>aA (.mk (k:=fun lo:Option SV=>aA (.mk (k:=fun hi:Option SV=>pB (.mk (k:=(P,t,lZ st p,K)) (st,a,lo,hi))) (uo st p hi))) (uo st p lo))) (bP st p x))
 | .load t a,.mk (st,p)=>aA (.mk (k:=fun a:SV=>lM (.mk (k:=(P,t,lZ st p,K)) (st,a))) (bP st p a))
 | .extract x i,.mk (st,p)=>aA (.mk (k:=fun a:SV=>qJ (.mk (k:=K) (a,i))) (bP st p x))
 | .build t parts,.mk (st,p)=>fV P t=true/\aA (.mk (k:=fun z:List SV=>aA (.mk (k:=fun cs:List SV=>K (.agg cs)) (rZ P t st p parts.toList z))) (cY P t))
 | .call {callee:= .builtin .len,args:=⟨[x]⟩,argTypes:=⟨[t]⟩},.mk (st,p)=>aA (.mk (k:=fun a:SV=>oc (.mk (k:=(P,t,K)) (st,a))) (bP st p x))
 | .call {callee:= .builtin .min,args:=⟨[x,y]⟩,..},.mk (st,p)=>aA (.mk (k:=fun a:SV=>aA (.mk (k:=fun b:SV=>sE (.mk (k:=K) (a,b))) (bP st p y))) (bP st p x))
 | .lookup t x i c,.mk (st,p)=>aA (.mk (k:=fun a:SV=>aA (.mk (k:=fun i:SV=>pf (.mk (k:=(P,t,c,K)) (st,a,lF i))) (bP st p i))) (bP st p x))
 | .call {callee:= .builtin .max,args:=⟨[x,y]⟩,..},.mk (st,p)=>aA (.mk (k:=fun a:SV=>aA (.mk (k:=fun b:SV=>sF (.mk (k:=K) (a,b))) (bP st p y))) (bP st p x))
 | .call {callee:= .builtin .max,args:=⟨[x,y,z,u]⟩,..},.mk (st,p)=>aA (.mk (k:=fun a:SV=>aA (.mk (k:=fun b:SV=>aA (.mk (k:=fun c:SV=>aA (.mk (k:=fun d:SV=>sj (.mk (k:=K) (a,b,c,d))) (bP st p u))) (bP st p z))) (bP st p y))) (bP st p x))
 |_,_=>False
structure Hd where
 a:Option Addr
 n:Nat
 c:Nat
def Hd.val (h:Hd):Value:= .slice h.a h.n h.c
structure Vl where
 β:Nat->Nat
 γ:Nat->Nat->Hd
def aJ (V:Vl):SV->Value
 | .v x=>x
 | .box k o=> .pointer (some ⟨V.β k,o,none⟩)
 | .vec k u=>(V.γ k u).val
 | .vp k u o=> .pointer ((V.γ k u).a.map (·.add o))
 | .vo k u o z=>gE (V.γ k u).a (V.γ k u).c o (V.γ k u).n z
 | .mp k=> .map (some (V.β k))
 | .mv f k o=> .func (.func f) ⟨[.pointer (some ⟨V.β k,o,none⟩)]⟩ ⟨[]⟩
 | .sl k n c=> .slice (some ⟨V.β k,0,none⟩) n c
 | .cl f ks=> .func (.func f) ⟨[]⟩ ⟨ks.map fun k=> .pointer (some ⟨V.β k,0,none⟩)⟩
 |_=>undef
def fL (V:Vl):SV->Value
 | .agg cs=> .agg ⟨cs.map (aJ V)⟩
 |s=>aJ V s
def den (V:Vl):SV->Value
 | .tup l=> .tuple ⟨l.map (fL V)⟩
 |s=>fL V s
def mJ (d:Nat) (o o' :Option Obj):Prop:=
 match o with
 |some (.cells c _ _)=>∃c' t' f',o' =some (.cells c' t' f')/\∀j,j<d->c'[j]? =c[j]?
 |o=>o' =o
def Mem.le (m m' :Mem):Prop:=∀b,m.D b<=m'.D b/\(0<m.D b->b<m.w.heap.size/\mJ (m.D b) m.w.heap[b]? m'.w.heap[b]?)
def Hd.blk (h:Hd):Option Nat:=h.a.map (·.block)
def gP (ty:TypeId) (vs:List Value) (o:Obj):Prop:=
 if ty<gv then o= .cells ⟨vs⟩ ty (0,0)
 else ∃es fF l,o= .map es fF/\vs=iH l/\es.toList.map (fun e=>(e.key,e.val))=l/\∀x∈l,dN ty x.1/\gz ty x.2
theorem W7 (s:ByteArray):dN 1000000 (.string s)=True:=eq_true (by unfold dN;rw[ae (by decide)];exact⟨s,rfl⟩)
theorem LQ (s:ByteArray) (n:Int):dN 1000001 (.agg ⟨[.string s,.int .i64 n]⟩)=True:=eq_true (by unfold dN;rw[ak rfl];exact⟨s,n,rfl⟩)
theorem LP (s:ByteArray):dN 1000002 (.string s)=True:=eq_true (by unfold dN;rw[ae (by decide)];exact⟨s,rfl⟩)
theorem Ws (b:Bool):gz 1000000 (.bool b)=True:=eq_true (by unfold gz;rw[ae (by decide)];exact⟨b,rfl⟩)
theorem Wr (b:Bool):gz 1000001 (.bool b)=True:=eq_true (by unfold gz;rw[ae (by decide)];exact⟨b,rfl⟩)
theorem Lu (v:Value):gz 1000002 v=True:=eq_true (by unfold gz;rw[ak rfl];trivial)
def Aw (V:Vl) (D:Nat->Nat) (w:World) (b:Bx):Prop:=
 (∃o,w.heap[V.β b.id]? =some o/\gP b.ty (b.cs.map (aJ V)) o)/\D (V.β b.id)=0
def vk (V:Vl) (D:Nat->Nat) (w:World) (b:Vc):Prop:=
 w.ownsRow 0 b.el b.sz (V.γ b.id b.ver).val b.n b.xs/\(∀g,(V.γ b.id b.ver).blk=some g->D g<=b.n * b.sz)/\0<b.sz/\∀u∈b.xs,u.oneCell' =true
def aE (V:Vl) (H:Hp):List Nat:=H.bx.map (fun b=>V.β b.id)++H.vc.filterMap fun b=>(V.γ b.id b.ver).blk
structure HSat (V:Vl) (D:Nat->Nat) (w:World) (H:Hp):Prop where
 bx:∀b∈H.bx,Aw V D w b
 vc:∀b∈H.vc,vk V D w b
 apart:(aE V H).Nodup
 uniq:(H.vc.map (·.id)).Nodup
structure Frm (F:Nat->Prop) (w:World) (D:Nat->Nat) (w' :World) (D' :Nat->Nat):Prop where
 os:w'.os=w.os
 tape:w'.tape=w.tape
 output:w'.output=w.output
 size:w.heap.size<=w'.heap.size
 same:∀b,b<w.heap.size->¬F b->w'.heap[b]? =w.heap[b]? /\D' b=D b
def Wf (w:World) (D:Nat->Nat):Prop:=∀b,w.heap.size<=b->D b=0
def FnH (P:Program) (f:FuncId) (args:List SV) (H:Hp) (m:Mem) (R:SV->Hp->Mem->Prop):Prop:=
 ∀(V:Vl) (w:World) (D:Nat->Nat),Wf w D->m.le ⟨w,D⟩->HSat V D w H->
  Calls P f ⟨args.map (den V)⟩ w fun e w' =>∃(r:SV) (V' :Vl) (D' :Nat->Nat) (H' :Hp) (m' :Mem),
   e= .returned (den V' r)/\Wf w' D' /\HSat V' D' w' H' /\(∀b∈H.bx,V'.β b.id=V.β b.id)/\(∀b∈H.vc,∀u,u<=b.ver->V'.γ b.id u=V.γ b.id u)/\
   Frm (· ∈aE V H) w D w' D' /\(∀b∈aE V' H',b∈aE V H\/w.heap.size<=b)/\
   Mem.le ⟨w,D⟩ ⟨w',D'⟩/\m.le m' /\m'.le ⟨w',D'⟩/\R r H' m'
structure Ctx where
 w0:World
 D0:Nat->Nat
 F:Nat->Prop
 H0:Hp
 V0:Vl
 m0:Mem
def ef (rho:List Gd) (p:bj):Prop:=∀x∈p,∃g,ev rho x.1=some g
def ba:List Vc->Nat->Nat->Prop
 |[],_,_=>True
 |⟨k',u',_,_,_,_⟩::r,k,u=>if k' =k then u<=u' else ba r k u
def sY (nid:Nat):List Nat->Prop
 |[]=>True
 |k::r=>k<nid/\sY nid r
def gU (nid:Nat) (vc:List Vc):SV->Prop
 | .v _=>True
 | .box k _=>k<nid
 | .vec k u=>k<nid/\ba vc k u
 | .vp k u _=>k<nid/\ba vc k u
 | .vo k u _ _=>k<nid/\ba vc k u
 | .mp k=>k<nid
 | .mv _ k _=>k<nid
 | .sl k _ _=>k<nid
 | .cl _ ks=>sY nid ks
 | .agg _=>True
 | .tup _=>True
def cP (nid:Nat) (vc:List Vc):List SV->Prop
 |[]=>True
 |s::r=>gU nid vc s/\cP nid vc r
def okB (nid:Nat) (vc:List Vc):SV->Prop
 | .agg cs=>cP nid vc cs
 |s=>gU nid vc s
def uM (nid:Nat) (vc:List Vc):List SV->Prop
 |[]=>True
 |s::r=>okB nid vc s/\uM nid vc r
def fq (nid:Nat) (vc:List Vc):SV->Prop
 | .tup l=>uM nid vc l
 |s=>okB nid vc s
structure SatF (n:Nat) (env:List Ev) (rho:List Gd) (a:Act) (V:Vl):Prop where
 defers:a.defers=[]
 size:a.tmps.size=n
 pth:∀e∈env,ef rho e.p
 env:∀t p s,ef rho p->dX env t p=some s->bG rho p=true->a.tmps[t]? =some (den V s)
 rho:∀g∈rho,ev rho g.i=some g/\ef rho g.p/\a.tmps[g.slot]? =some (if bG rho g.p=true then .bool g.b.val else undef)
structure SatW (C:Ctx) (bx:List Bx) (vc:List Vc) (nid:Nat) (m:Mem) (V:Vl) (D:Nat->Nat) (w:World):Prop where
 heap:HSat V D w ⟨bx,vc⟩
 wf:Wf w D
 frm:Frm C.F C.w0 C.D0 w D
 own:∀b∈aE V ⟨bx,vc⟩,C.F b\/C.w0.heap.size<=b
 baseB:∀b∈C.H0.bx,V.β b.id=C.V0.β b.id/\b.id<nid
 baseV:∀b∈C.H0.vc,(∀u,u<=b.ver->V.γ b.id u=C.V0.γ b.id u)/\b.id<nid/\ba vc b.id b.ver
 ids:(∀b∈bx,b.id<nid/\cP nid vc b.cs)/\∀b∈vc,b.id<nid
 le0:Mem.le ⟨C.w0,C.D0⟩ ⟨w,D⟩
 m0:C.m0.le m
 mle:m.le ⟨w,D⟩
structure Sat (C:Ctx) (n:Nat) (st:LS) (a:Act) (V:Vl) (D:Nat->Nat) (w:World):Prop where
 f:SatF n st.env st.rho a V
 ids:∀e∈st.env,fq st.nid st.vc e.s
 w:SatW C st.bx st.vc st.nid st.m V D w
theorem Sat.env {C:Ctx} {n:Nat} {st:LS} {a:Act} {V:Vl} {D:Nat->Nat} {w:World} (h:Sat C n st a V D w):∀t p s,ef st.rho p->dX st.env t p=some s->bG st.rho p=true->a.tmps[t]? =some (den V s):=h.f.env
theorem Sat.rho {C:Ctx} {n:Nat} {st:LS} {a:Act} {V:Vl} {D:Nat->Nat} {w:World} (h:Sat C n st a V D w):∀g∈st.rho,ev st.rho g.i=some g/\ef st.rho g.p/\a.tmps[g.slot]? =some (if bG st.rho g.p=true then .bool g.b.val else undef):=h.f.rho
theorem Sat.heap {C:Ctx} {n:Nat} {st:LS} {a:Act} {V:Vl} {D:Nat->Nat} {w:World} (h:Sat C n st a V D w):HSat V D w ⟨st.bx,st.vc⟩:=h.w.heap
theorem Sat.mle {C:Ctx} {n:Nat} {st:LS} {a:Act} {V:Vl} {D:Nat->Nat} {w:World} (h:Sat C n st a V D w):st.m.le ⟨w,D⟩:=h.w.mle
def jq (C:Ctx) (n:Nat) (st:LS) (a:Act) (w:World):Prop:=st.rho=[]/\∃V D,Sat C n st a V D w
def WP (P:Program) (n:Nat) (c:Code) (Q:Exit->LS->Prop) (st:LS):Prop:=
 ∀(C:Ctx) (a:Act) (w:World),jq C n st a w->c.wp P (fun e a' w' =>∃ah,jq C n ah a' w' /\Q e ah) a w
def jR {P:Program} {n:Nat} {c:Code} {Q:Exit->LS->Prop} (x:A (P,n,c,Q) LS):Prop:=match x with | .mk st=>WP P n c Q st
def C5 {P:Program} {f:FuncId} {R:SV->Hp->Mem->Prop} (x:A (P,f,R) (List SV×Hp×Mem)):Prop:=match x with | .mk (args,H,m)=>FnH P f args H m R
/-! Operations that act. -/
def tM:List SV->Option (List Value)
 |[]=>some []
 |s::r=>(lF s).bind fun x=>(tM r).map (x:: ·)
def eU:List SV->Bool
 |[]=>true
 | .v x::r=>x.oneCell' &&eU r
 | .box _ _::r=>eU r
 | .vec _ _::r=>eU r
 | .vp _ _ _::r=>eU r
 | .vo _ _ _ _::r=>eU r
 | .mp _::r=>eU r
 | .mv _ _ _::r=>eU r
 | .sl _ _ _::r=>eU r
 | .cl _ _::r=>eU r
 | .agg _::_=>false
 | .tup _::_=>false
def fX:List Bx->Nat->List SV->List Bx
 |[],_,_=>[]
 |⟨k',t',bh⟩::r,k,cs=>if k' =k then⟨k',t',cs⟩::r else⟨k',t',bh⟩::fX r k cs
def gR:List Bx->Nat->List Bx
 |[],_=>[]
 |⟨k',t',bh⟩::r,k=>if k' =k then r else⟨k',t',bh⟩::gR r k
def gQ:List Vc->Nat->List Vc
 |[],_=>[]
 |⟨k',u',e',z',n',x'⟩::r,k=>if k' =k then r else⟨k',u',e',z',n',x'⟩::gQ r k
def gA:List Vc->Nat->Vc->List Vc
 |[],_,_=>[]
 |⟨k',u',e',z',n',x'⟩::r,k,x=>if k' =k then x::r else⟨k',u',e',z',n',x'⟩::gA r k x
def FD (xs:List Value) (off:Nat):List Value->List Value
 |[]=>xs
 |c::r=>FD (xs.set off c) (off+1) r
def BY {st:LS} {K:Value->LS->Prop} (x:A (st,K) Vc):Prop:=
 match x with
 | .mk b=>∀(a:Option Addr) (c:Nat) (m1:Mem),st.m.le m1->b.n<=c->aw m1 a b.n b.sz b.xs->K (.slice a b.n c) ⟨st.env,st.rho,st.bx,st.vc,st.nid,m1⟩
def jA:List SV->(List SV->LS->Prop)->LS->Prop
 |[],K,st=>K [] st
 | .vec k u::r,K,st=>aA (.mk (k:=fun b:Vc=>BY (.mk (k:=(st,fun v ah=>jA r (fun r' ji=>K (.v v::r') ji) ah)) b)) (cz st.vc k u))
 | .v x::r,K,st=>jA r (fun r' ah=>K (.v x::r') ah) st
 | .box k o::r,K,st=>jA r (fun r' ah=>K (.box k o::r') ah) st
 | .vp k u o::r,K,st=>jA r (fun r' ah=>K (.vp k u o::r') ah) st
 | .vo k u o z::r,K,st=>jA r (fun r' ah=>K (.vo k u o z::r') ah) st
 | .mp k::r,K,st=>jA r (fun r' ah=>K (.mp k::r') ah) st
 | .mv f k o::r,K,st=>jA r (fun r' ah=>K (.mv f k o::r') ah) st
 | .sl k n c::r,K,st=>jA r (fun r' ah=>K (.sl k n c::r') ah) st
 | .cl f ks::r,K,st=>jA r (fun r' ah=>K (.cl f ks::r') ah) st
 | .agg cs::r,K,st=>jA r (fun r' ah=>K (.agg cs::r') ah) st
 | .tup cs::r,K,st=>jA r (fun r' ah=>K (.tup cs::r') ah) st
def fJ {K:List SV->LS->Prop} (x:A K (LS×List SV)):Prop:=match x with | .mk (st,l)=>jA l K st
def yQ:List SV->(List SV->LS->Prop)->LS->Prop
 |[],K,st=>K [] st
 | .agg cs::r,K,st=>jA cs (fun bh ah=>yQ r (fun r' ji=>K (.agg bh::r') ji) ah) st
 |s::r,K,st=>jA [s] (fun s' ah=>yQ r (fun r' ji=>K (s' ++r') ji) ah) st
def jk {K:List SV->LS->Prop} (x:A K (LS×List SV)):Prop:=match x with | .mk (st,l)=>yQ l K st
def qE (acc:List Nat) (k:Nat):List Nat:=if acc.contains k=true then acc else acc++[k]
def BM:List Nat->List Nat->List Nat
 |acc,[]=>acc
 |acc,k::r=>BM (qE acc k) r
def eJ (acc:List Nat):List SV->List Nat
 |[]=>acc
 | .box k _::r=>eJ (qE acc k) r
 | .vec k _::r=>eJ (qE acc k) r
 | .vp k _ _::r=>eJ (qE acc k) r
 | .vo k _ _ _::r=>eJ (qE acc k) r
 | .mp k::r=>eJ (qE acc k) r
 | .mv _ k _::r=>eJ (qE acc k) r
 | .sl k _ _::r=>eJ (qE acc k) r
 | .cl _ ks::r=>eJ (BM acc ks) r
 | .v _::r=>eJ acc r
 | .agg _::r=>eJ acc r
 | .tup _::r=>eJ acc r
def cellsOf:Option Bx->List SV
 |some b=>b.cs
 |none=>[]
def lf (acc:List Nat):List SV->List Nat
 |[]=>acc
 | .agg cs::r=>lf (eJ acc cs) r
 |s::r=>lf (eJ acc [s]) r
def wQ (bx:List Bx):List Nat->List Nat->List Nat
 |acc,[]=>acc
 |acc,k::r=>wQ bx (eJ acc (cellsOf (dz bx k))) r
def qf (bx:List Bx) (l:List Nat):List Nat:=wQ bx (wQ bx l l) (wQ bx l l)
def idxOf:List Nat->Nat->Option Nat
 |[],_=>none
 |j::r,i=>if j=i then some 0 else(idxOf r i).map (· +1)
def fp (L:List Nat) (base:Nat) (i:Nat):Nat:=((idxOf L i).map fun j=>j).getD (base+i)
def dw (L:List Nat) (base:Nat) (j:Nat):Nat:=(L[j]?).getD (base+j)
def im (ρ:Nat->Nat):SV->SV
 | .box k o=> .box (ρ k) o
 | .vec k u=> .vec (ρ k) u
 | .vp k u o=> .vp (ρ k) u o
 | .vo k u o z=> .vo (ρ k) u o z
 | .mp k=> .mp (ρ k)
 | .mv f k o=> .mv f (ρ k) o
 | .sl k n c=> .sl (ρ k) n c
 | .cl f ks=> .cl f (ks.map ρ)
 | .v x=> .v x
 | .agg cs=> .agg cs
 | .tup cs=> .tup cs
def wI (ρ:Nat->Nat):SV->SV
 | .agg cs=> .agg (cs.map (im ρ))
 |s=>im ρ s
def qH (ρ:Nat->Nat):SV->SV
 | .tup l=> .tup (l.map (wI ρ))
 |s=>wI ρ s
def lL (ρ:Nat->Nat):Bx->Bx |⟨k,t,cs⟩=>⟨ρ k,t,cs.map (im ρ)⟩
def gq (ρ:Nat->Nat):Vc->Vc |⟨k,u,e,z,n,xs⟩=>⟨ρ k,u,e,z,n,xs⟩
def ka:List Vc->Nat->Option Vc
 |[],_=>none
 |⟨k',u',e',z',n',x'⟩::r,i=>if k' =i then some ⟨k',u',e',z',n',x'⟩ else ka r i
def er (L:List Nat):List Bx->List Bx
 |[]=>[]
 |⟨k',t',bh⟩::r=>if L.contains k' =true then⟨k',t',bh⟩::er L r else er L r
def dS (L:List Nat):List Vc->List Vc
 |[]=>[]
 |⟨k',u',e',z',n',x'⟩::r=>if L.contains k' =true then⟨k',u',e',z',n',x'⟩::dS L r else dS L r
def kC (L:List Nat):List Bx->List Bx
 |[]=>[]
 |⟨k',t',bh⟩::r=>if L.contains k' =true then kC L r else⟨k',t',bh⟩::kC L r
def jY (L:List Nat):List Vc->List Vc
 |[]=>[]
 |⟨k',u',e',z',n',x'⟩::r=>if L.contains k' =true then jY L r else⟨k',u',e',z',n',x'⟩::jY L r
def jF:List Bx->Nat |[]=>0 |⟨k,_,_⟩::r=>max (k+1) (jF r)
def jE:List Vc->Nat |[]=>0 |⟨k,_,_,_,_,_⟩::r=>max (k+1) (jE r)
structure Cfg where
 own:FuncId->Bool
 pure:FuncId->Option (Mem->List Value->Option (Prop×Value))
def r7 (st:LS) (L:List Nat) (H' :Hp) (m' :Mem):LS:=
 ⟨st.env,st.rho,H'.bx.map (lL (dw L st.nid))++kC L st.bx,H'.vc.map (gq (dw L st.nid))++jY L st.vc,st.nid+max (jF H'.bx) (jE H'.vc),m'⟩
def zS:List Nat->Prop
 |[]=>True
 |k::r=>r.contains k=false/\zS r
def qY (n:Nat):List Nat->Prop
 |[]=>True
 |k::r=>k<n/\qY n r
def zV (L:List Nat):List Nat->Prop
 |[]=>True
 |k::r=>L.contains k=true/\zV L r
def lk (L:List Nat):SV->Prop
 | .v _=>True
 | .box k _=>L.contains k=true
 | .vec k _=>L.contains k=true
 | .vp k _ _=>L.contains k=true
 | .vo k _ _ _=>L.contains k=true
 | .mp k=>L.contains k=true
 | .mv _ k _=>L.contains k=true
 | .sl k _ _=>L.contains k=true
 | .cl _ ks=>zV L ks
 | .agg _=>True
 | .tup _=>False
def nv (L:List Nat):List SV->Prop
 |[]=>True
 |s::r=>lk L s/\nv L r
def CG (L:List Nat):SV->Prop
 | .agg cs=>nv L cs
 |s=>lk L s
def zt (L:List Nat):List SV->Prop
 |[]=>True
 |s::r=>CG L s/\zt L r
def wP (L:List Nat):List Bx->Prop
 |[]=>True
 |⟨_,_,cs⟩::r=>nv L cs/\wP L r
def FK (st:LS) (L:List Nat) (args:List SV):Prop:=zS L/\qY st.nid L/\zt L args/\wP L (er L st.bx)
def Au (nB:List Nat) (len:Nat):List Nat->Prop
 |[]=>True
 |j::r=>(if j<len then nB.contains j=true else True)/\Au nB len r
def ly (nB nV:List Nat) (len:Nat):SV->Prop
 | .v _=>True
 | .box j _=>if j<len then nB.contains j=true else True
 | .vec j _=>if j<len then nV.contains j=true else True
 | .vp j _ _=>if j<len then nV.contains j=true else True
 | .vo j _ _ _=>if j<len then nV.contains j=true else True
 | .mp j=>if j<len then nB.contains j=true else True
 | .mv _ j _=>if j<len then nB.contains j=true else True
 | .sl j _ _=>if j<len then nB.contains j=true else True
 | .cl _ ks=>Au nB len ks
 | .agg _=>True
 | .tup _=>True
def nH (nB nV:List Nat) (len:Nat):List SV->Prop
 |[]=>True
 |s::r=>ly nB nV len s/\nH nB nV len r
def Av (nB nV:List Nat) (len:Nat):SV->Prop
 | .agg cs=>nH nB nV len cs
 |s=>ly nB nV len s
def At (nB nV:List Nat) (len:Nat):List SV->Prop
 |[]=>True
 |s::r=>Av nB nV len s/\At nB nV len r
def C3 (nB nV:List Nat) (len:Nat):SV->Prop
 | .tup l=>At nB nV len l
 |s=>Av nB nV len s
def wW (nB nV:List Nat) (len:Nat):List Bx->Prop
 |[]=>True
 |⟨k,_,cs⟩::r=>(if k<len then nB.contains k=true else True)/\nH nB nV len cs/\wW nB nV len r
def wV (nV:List Nat) (len:Nat):List Vc->Prop
 |[]=>True
 |⟨k,_,_,_,_,_⟩::r=>(if k<len then nV.contains k=true else True)/\wV nV len r
def wu (nid:Nat) (vc:List Vc):List Bx->Prop
 |[]=>True
 |⟨_,_,cs⟩::r=>cP nid vc cs/\wu nid vc r
def yO (L:List Nat) (dq:List Vc):List Vc->Prop
 |[]=>True
 |⟨k,u,_,_,_,_⟩::r=>(if L.contains k=true then ba dq k u else True)/\yO L dq r
def j5:List Bx->List Nat
 |[]=>[]
 |⟨k,_,_⟩::r=>k::j5 r
def jD:List Vc->List Nat
 |[]=>[]
 |⟨k,_,_,_,_,_⟩::r=>k::jD r
def ee (st:LS) (L:List Nat):Hp:=⟨(er L st.bx).map (lL (fp L 0)),(dS L st.vc).map (gq (fp L 0))⟩
def KM {L:List Nat} {r:SV} {H' :Hp} (x:A (L,r,H') (LS×LS×Hp)):Prop:=
 match x with
 | .mk (st,ah,Hi)=>C3 (j5 Hi.bx) (jD Hi.vc) L.length r/\wW (j5 Hi.bx) (jD Hi.vc) L.length H'.bx/\wV (jD Hi.vc) L.length H'.vc/\
   fq ah.nid ah.vc (qH (dw L st.nid) r)/\wu ah.nid ah.vc (H'.bx.map (lL (dw L st.nid)))/\yO L (H'.vc.map (gq (dw L st.nid))) st.vc
def E9 (st:LS) (L:List Nat) (r:SV) (H' :Hp) (m' :Mem):Prop:=KM (.mk (k:=(L,r,H')) (st,r7 st L H' m',ee st L))
def Fy {P:Program} {f:FuncId} {st:LS} {args:List SV} {K:SV->LS->Prop} (x:A (P,f,st,args,K) (List Nat)):Prop:=
 match x with
 | .mk L=>FK st L args/\C5 (.mk (k:=(P,f,fun r H' m' =>E9 st L r H' m' /\K (qH (dw L st.nid) r) (r7 st L H' m')))
   (args.map (qH (fp L 0)),ee st L,st.m))
def zc {P:Program} {f:FuncId} {K:SV->LS->Prop} (x:A (P,f,K) (LS×List SV)):Prop:=
 match x with
 | .mk (st,args)=>Fy (.mk (k:=(P,f,st,args,K)) (qf st.bx (lf [] args)))
def wF {P:Program} {f:FuncId} {st:LS} {args:List SV} {K:SV->LS->Prop} (x:A (P,f,st,args,K) Bool):Prop:=
 match x with
 | .mk true=>zc (.mk (k:=(P,f,K)) (st,args))
 | .mk false=>jk (.mk (k:=fun qD ah=>zc (.mk (k:=(P,f,K)) (ah,qD))) (st,args))
def pe (st:LS) (p:bj):List Operand->Option (List SV)
 |[]=>some []
 |x::r=>(bP st p x).bind fun s=>(pe st p r).map (s:: ·)
def lG (sz:Nat) (st:LS) (p:bj):List (Nat×Operand)->List SV->Option (List SV)
 |[],cs=>some cs
 |(i,x)::r,cs=>((bP st p x).bind iT).bind fun l=>if l.length=sz then(if i * sz+sz<=cs.length then lG sz st p r (iG cs (i * sz) l) else none) else none
def qj (sz:Nat) (st:LS) (p:bj):Nat->List (Nat×Operand)->Option (List SV)
 |_,[]=>some []
 |i,(j,x)::r=>if j=i then((bP st p x).bind iT).bind fun l=>if l.length=sz then(qj sz st p (i+1) r).map (l++ ·) else none else none
def yH (sz:Nat) (st:LS) (p:bj) (parts:List (Nat×Operand)) (len:Nat) (z:List SV):Option (List SV)->Option (List SV)
 |some cs=>if cs.length=len * sz then some cs else lG sz st p parts (List.replicate len z).flatten
 |none=>lG sz st p parts (List.replicate len z).flatten
def fI:Vc->Nat->List Value->Vc |⟨k,u,e,z,_,_⟩,n,xs=>⟨k,u+1,e,z,n,xs⟩
def room (n tC:Nat):Prop:=n * tC<=140737488355328/\n<=maxLen
def oT {P:Program} {tx:TypeId} {sz:Nat} {K:Nat->List Value->Prop} (x:A (P,tx,sz,K) (LS×SV)):Prop:=
 match x with
 | .mk (st,.vec k u)=>aA (.mk (k:=fun _:TypeId=>aA (.mk (k:=fun b:Vc=>b.sz=sz/\K b.n b.xs) (cz st.vc k u))) (eo P tx))
 | .mk (st,.v (.slice a n _))=>aA (.mk (k:=fun _:TypeId=>∃xs,aw st.m a n sz xs/\(∀u∈xs,u.oneCell' =true)/\K n xs) (eo P tx))
 | .mk (_,.v (.string s))=>P.underlying tx=some .string/\sz=1/\K (tl s).length (qV (tl s))
 |_=>False
def sH {P:Program} {e tx:TypeId} {y:SV} {K:SV->LS->Prop} (x:A (P,e,tx,y,K) (LS×SV)):Prop:=
 match x with
 | .mk (st,.vec k u)=>aA (.mk (k:=fun b:Vc=>b.sz=aM P e/\b.el=e/\0<aM P e/\aA (.mk (k:=fun z:List SV=>z.length=aM P e/\oT (.mk (k:=(P,tx,aM P e,fun n xs=>room (b.n+n) (iP P e)/\
   K (.vec k (u+1)) ⟨st.env,st.rho,st.bx,gA st.vc k (fI b (b.n+n) (b.xs++xs)),st.nid,st.m⟩)) (st,y))) (cY P e))) (cz st.vc k u))
 | .mk (st,.sl k n c)=>aA (.mk (k:=fun b:Bx=>b.ty=e/\e<gv/\0<aM P e/\(b.cs.length=c * aM P e/\n<=c/\c<=maxLen)/\aA (.mk (k:=fun z:List SV=>z.length=aM P e/\oT (.mk (k:=(P,tx,aM P e,fun m xs=>room (n+m) (iP P e)/\
   ∀(c' :Nat) (rest:List Value),n+m<=c' ->c' <=maxLen->rest.length=(c' - (n+m)) * aM P e->
    K (.sl st.nid (n+m) c') ⟨st.env,st.rho,⟨st.nid,e,b.cs.take (n * aM P e)++(xs.map .v++rest.map .v)⟩::gR st.bx k,st.vc,st.nid+1,st.m⟩)) (st,y))) (cY P e))) (dz st.bx k))
 | .mk (st,.vo k u o z)=>aA (.mk (k:=fun b:Vc=>b.sz=aM P e/\z=aM P e/\b.el=e/\0<aM P e/\o<=b.n/\aA (.mk (k:=fun z0:List SV=>z0.length=aM P e/\oT (.mk (k:=(P,tx,aM P e,fun n xs=>room (b.n+n) (iP P e)/\
   ∀(a:Option Addr) (c:Nat) (m1:Mem),st.m.le m1->b.n - o+n<=c->aw m1 a (b.n - o+n) (aM P e) (b.xs.drop (o * aM P e)++xs)->K (.v (.slice a (b.n - o+n) c)) ⟨st.env,st.rho,st.bx,gQ st.vc k,st.nid+1,m1⟩)) (st,y))) (cY P e))) (cz st.vc k u))
 | .mk (st,.v (.slice none 0 0))=>0<aM P e/\aA (.mk (k:=fun z:List SV=>z.length=aM P e/\oT (.mk (k:=(P,tx,aM P e,fun n xs=>room n (iP P e)/\
   K (.vec st.nid 0) ⟨st.env,st.rho,st.bx,⟨st.nid,0,e,aM P e,n,xs⟩::st.vc,st.nid+1,st.m⟩)) (st,y))) (cY P e))
 |_=>False
def Ca {sz:Nat} {cs:List SV} {K:SV->LS->Prop} (x:A (sz,cs,K) (LS×SV)):Prop:=
 match x with
 | .mk (st,.box k o)=>aA (.mk (k:=fun b:Bx=>b.ty<gv/\0<sz/\cs.length=sz/\eU cs=true/\cP st.nid st.vc cs/\o+cs.length<=b.cs.length/\K (.v undef) ⟨st.env,st.rho,fX st.bx k (iG b.cs o cs),st.vc,st.nid,st.m⟩) (dz st.bx k))
 |_=>False
def CE {P:Program} {e:TypeId} {z:List Value} {K:SV->LS->Prop} (x:A (P,e,z,K) (LS×SV×SV)):Prop:=
 match x with
 | .mk (st,.v (.int _ l),.v (.int _ cp))=>0<=l/\l<=cp/\room cp.toNat (iP P e)/\z.length=aM P e/\0<aM P e/\eU (z.map .v)=true/\
   K (.vec st.nid 0) ⟨st.env,st.rho,st.bx,⟨st.nid,0,e,aM P e,l.toNat,(List.replicate l.toNat z).flatten⟩::st.vc,st.nid+1,st.m⟩
 |_=>False
def dp (P:Program) (f:FuncId):Bool:=
 match P.funcs[f]? with
 |some fn=> !(fn.name== "runtime.NumGoroutine")&&fn.body.isSome
 |none=>false
def wy {c:Cfg} {P:Program} {l:List SV} {K:SV->LS->Prop} (x:A (c,P,l,K) (LS×SV)):Prop:=
 match x with
 | .mk (st,.v (.func (.func f) ⟨[]⟩ ⟨[]⟩))=>dp P f=true/\wF (.mk (k:=(P,f,st,l,K)) (c.own f))
 | .mk (st,.mv f k o)=>dp P f=true/\wF (.mk (k:=(P,f,st,.box k o::l,K)) (c.own f))
 | .mk (st,.cl f ks)=>dp P f=true/\wF (.mk (k:=(P,f,st,l++ks.map fun k=> .box k 0,K)) (c.own f))
 |_=>False
def tY:List SV->Option (List Nat)
 |[]=>some []
 | .box k 0::r=>(tY r).map (k:: ·)
 |_=>none
def CD {f:FuncId} {K:SV->LS->Prop} (x:A (f,K) (LS×SV)):Prop:=
 match x with
 | .mk (st,.box k o)=>K (.mv f k o) st
 |_=>False
def Cb {P:Program} {t:TypeId} {K:SV->LS->Prop} (x:A (P,t,K) (LS×SV×Option Value×Option Value)):Prop:=
 match x with
 | .mk (st,.mp k,some key,some v)=>aA (.mk (k:=fun b:Bx=>(b.ty==(dU P t).1)=true/\pd P t/\dN b.ty key/\gz b.ty v/\aA (.mk (k:=fun l:List Value=>K (.v undef) ⟨st.env,st.rho,fX st.bx k ((pj l key v).map .v),st.vc,st.nid,st.m⟩) (jU b.cs))) (dz st.bx k))
 |_=>False
def kM {c:Cfg} {P:Program} {op:Op} {K:SV->LS->Prop} (x:A (c,P,op,K) (LS×bj)):Prop:=
 match op,x with
 | .alloc t,.mk (st,_)=>aA (.mk (k:=fun cs:List SV=>t<gv/\cP st.nid st.vc cs/\K (.box st.nid 0) ⟨st.env,st.rho,⟨st.nid,t,cs⟩::st.bx,st.vc,st.nid+1,st.m⟩) (cY P t))
 | .box t x,.mk (st,p)=>aA (.mk (k:=fun cs:List SV=>t<gv/\cP st.nid st.vc cs/\K (.box st.nid 0) ⟨st.env,st.rho,⟨st.nid,t,cs⟩::st.bx,st.vc,st.nid+1,st.m⟩) ((bP st p x).bind iT))
 | .store t a x,.mk (st,p)=>aA (.mk (k:=fun a:SV=>aA (.mk (k:=fun cs:List SV=>Ca (.mk (k:=(aM P t,cs,K)) (st,a))) ((bP st p x).bind iT))) (bP st p a))
 | .buildSlice t len parts,.mk (st,p)=>aA (.mk (k:=fun e:TypeId=>aA (.mk (k:=fun z:List SV=>z.length=aM P e/\0<aM P e/\len * aM P e<=16777216/\
   aA (.mk (k:=fun cs:List SV=>fJ (.mk (k:=fun bh ah=>aA (.mk (k:=fun l:List Value=>eU bh=true/\
    K (.vec ah.nid 0) ⟨ah.env,ah.rho,ah.bx,⟨ah.nid,0,e,aM P e,len,l⟩::ah.vc,ah.nid+1,ah.m⟩) (jU bh))) (st,cs)))
    (yH (aM P e) st p parts.toList len z (qj (aM P e) st p 0 parts.toList)))) (cY P e))) (eo P t))
 | .call {callee:= .builtin .append,args:=⟨[s,x]⟩,argTypes:=⟨[t,tx]⟩},.mk (st,p)=>
   aA (.mk (k:=fun s:SV=>aA (.mk (k:=fun y:SV=>aA (.mk (k:=fun e:TypeId=>sH (.mk (k:=(P,e,tx,y,K)) (st,s))) (eo P t))) (bP st p x))) (bP st p s))
 | .makeSlice t l cp,.mk (st,p)=>aA (.mk (k:=fun l:SV=>aA (.mk (k:=fun cp:SV=>aA (.mk (k:=fun e:TypeId=>aA (.mk (k:=fun z:List Value=>CE (.mk (k:=(P,e,z,K)) (st,l,cp))) ((cY P e).bind jU))) (eo P t))) (bP st p cp))) (bP st p l))
 | .makeMap t none,.mk (st,_)=>pd P t/\K (.mp st.nid) ⟨st.env,st.rho,⟨st.nid,(dU P t).1,[]⟩::st.bx,st.vc,st.nid+1,st.m⟩
 | .makeFunc (.func f) ⟨[]⟩ ⟨l⟩,.mk (st,p)=>aA (.mk (k:=fun ss:List SV=>aA (.mk (k:=fun ks:List Nat=>K (.cl f ks) st) (tY ss))) (pe st p l))
 | .makeFunc (.func f) ⟨[r]⟩ ⟨[]⟩,.mk (st,p)=>aA (.mk (k:=fun s:SV=>CD (.mk (k:=(f,K)) (st,s))) (bP st p r))
 | .mapUpdate t m k x,.mk (st,p)=>aA (.mk (k:=fun a:SV=>aA (.mk (k:=fun i:SV=>aA (.mk (k:=fun y:SV=>Cb (.mk (k:=(P,t,K)) (st,a,lF i,lF y))) (bP st p x))) (bP st p k))) (bP st p m))
 | .call {callee:= .value f,args,..},.mk (st,p)=>aA (.mk (k:=fun l:List SV=>aA (.mk (k:=fun f:SV=>wy (.mk (k:=(c,P,l,K)) (st,f))) (bP st p f))) (pe st p args.toList))
 |_,_=>False
inductive OpK where
 |qt
 |pu (F:Mem->List Value->Option (Prop×Value))
 |ac
def pk:Option (Mem->List Value->Option (Prop×Value))->OpK
 |some F=> .pu F
 |none=> .ac
def eL (c:Cfg):Op->OpK
 | .move _ | .assign _ | .pick .. | .nilCheck _ | .binOp .. | .unOp .. | .convert .. | .fieldAddr .. | .field .. | .indexAddr .. | .index .. | .slice .. | .load .. | .extract .. | .build .. | .lookup .. => .qt
 | .call {callee:= .builtin .len,..}=> .qt
 | .call {callee:= .builtin .min,..}=> .qt
 | .call {callee:= .builtin .max,..}=> .qt
 | .call {callee:= .value (.func f),..}=>pk (c.pure f)
 |_=> .ac
def vL:Op->List Operand
 | .call {args,..}=>args.toList
 |_=>[]
def Fl {F:List Value->Option (Prop×Value)} {u:Prop->Prop} {K:SV->Prop} (x:A (F,u,K) (Option (List SV))):Prop:=
 match x with
 | .mk l=>aA (.mk (k:=fun y:Prop×Value=>u y.1/\K (.v y.2)) ((l.bind tM).bind F))
/-! A region, in the order of the text. -/
def jm:List Gd->Nat->Bool->List Gd
 |[],_,_=>[]
 |⟨i',t',p',b'⟩::r,j,x=>if i' =j then⟨i',t',p',.lit x⟩::jm r j x else⟨i',t',p',b'⟩::jm r j x
def nZ {j:Nat} {w:Bool} {dead live:LS->Prop} (x:A (j,w,dead,live) (LS×Gd)):Prop:=
 match w,x with
 |true,.mk (st,⟨_,t,q,.sym b⟩)=>
   (b=true->live ⟨⟨t,q,.v (.bool true)⟩::st.env,jm st.rho j true,st.bx,st.vc,st.nid,st.m⟩)/\
   (b=false->dead ⟨⟨t,q,.v (.bool false)⟩::st.env,jm st.rho j false,st.bx,st.vc,st.nid,st.m⟩)
 |false,.mk (st,⟨_,t,q,.sym b⟩)=>
   (b=false->live ⟨⟨t,q,.v (.bool false)⟩::st.env,jm st.rho j false,st.bx,st.vc,st.nid,st.m⟩)/\
   (b=true->dead ⟨⟨t,q,.v (.bool true)⟩::st.env,jm st.rho j true,st.bx,st.vc,st.nid,st.m⟩)
 |true,.mk (st,⟨_,_,_,.lit true⟩)=>live st
 |false,.mk (st,⟨_,_,_,.lit false⟩)=>live st
 |true,.mk (st,⟨_,_,_,.lit false⟩)=>dead st
 |false,.mk (st,⟨_,_,_,.lit true⟩)=>dead st
def BF:bj->(LS->Prop)->(LS->Prop)->LS->Prop
 |[],_,live,st=>live st
 |(j,w)::p,dead,live,st=>BF p dead (fun ah=>aA (.mk (k:=fun g:Gd=>nZ (.mk (k:=(j,w,dead,live)) (ah,g))) (ev ah.rho j))) st
def BU {dead live:LS->Prop} (x:A (dead,live) (LS×bj)):Prop:=match x with | .mk (st,p)=>BF p dead live st
def put (st:LS) (d:Option Nat) (p:bj) (s:SV):LS:=
 match d with
 |some d=>⟨⟨d,p,s⟩::st.env,st.rho,st.bx,st.vc,st.nid,st.m⟩
 |none=>st
def jB (st:LS) (i:Nat) (d:Option Nat) (p:bj) (mv:Bool) (s:SV):LS:=
 match mv,d,s with
 |true,some d,.v (.bool b)=>⟨st.env,⟨i,d,p,.sym b⟩::st.rho,st.bx,st.vc,st.nid,st.m⟩
 |_,_,_=>st
def kX:Op->Bool
 | .move _=>true
 |_=>false
def pathOf (st:LS):Option (Nat×Bool)->Option bj
 |none=>some []
 |some (j,w)=>(ev st.rho j).map fun g=>(j,w)::g.p
def jC (st:LS) (i:Nat) (d:Option Nat) (p:bj) (mv:Bool):LS:=
 match mv,d with
 |true,some d=>⟨st.env,⟨i,d,p,.sym false⟩::st.rho,st.bx,st.vc,st.nid,st.m⟩
 |_,_=>st
def uq {c:Cfg} {P:Program} {i:Nat} {o:Oper} {K:LS->Prop} {q:OpK} {dead:Bool} (x:A (c,P,i,o,K,q,dead) (LS×bj)):Prop:=
 match dead,q,x with
 |true,_,.mk (st,p)=>K (jC (put st o.dst p (.v undef)) i o.dst p (kX o.op))
 |false,.qt,.mk (st,p)=>qOp (.mk (k:=(P,o.op,fun s=>fq st.nid st.vc s/\K (jB (put st o.dst p s) i o.dst p (kX o.op) s))) (st,p))
 |false,.pu F,.mk (st,p)=>Fl (.mk (k:=(F st.m,lZ st p,fun s=>K (put st o.dst p s))) (pe st p (vL o.op)))
 |false,.ac,.mk (st,p)=>BU (.mk (k:=(fun ah=>K (put ah o.dst p (.v undef)),fun ah=>kM (.mk (k:=(c,P,o.op,fun s ji=>fq ji.nid ji.vc s/\K (put ji o.dst p s))) (ah,p)))) (st,p))
def gT:List Gd->Option Nat->Bool
 |[],_=>false
 |_::_,none=>false
 |⟨_,t',_,_⟩::r,some d=>if t' =d then true else gT r (some d)
def zo {c:Cfg} {P:Program} {i:Nat} {o:Oper} {K:LS->Prop} {st:LS} {p:bj} (x:A (c,P,i,o,K,st,p) (OpK×Bool×Bool)):Prop:=
 match x with
 | .mk (q,dead,false)=>uq (.mk (k:=(c,P,i,o,K,q,dead)) (st,p))
 | .mk (_,_,true)=>False
def one {c:Cfg} {P:Program} {i:Nat} {o:Oper} {K:LS->Prop} (x:A (c,P,i,o,K) (LS×bj)):Prop:=
 match x with
 | .mk (st,p)=>zo (.mk (k:=(c,P,i,o,K,st,p)) (eL c o.op,sw st.rho p,gT st.rho o.dst))
def fy:List Nat->Nat->Bool
 |[],_=>false
 |y::r,x=>if y=x then true else fy r x
def kD:List Nat->List Ev->List Ev
 |_,[]=>[]
 |dead,⟨t,[],s⟩::r=>if fy dead t=true then kD dead r else⟨t,[],s⟩::kD dead r
 |dead,⟨t,_::_,_⟩::r=>kD (t::dead) r
def clean (st:LS):LS:=⟨kD [] st.env,[],st.bx,st.vc,st.nid,st.m⟩
def zg (c:Cfg) (P:Program):List Oper->Nat->(LS->Prop)->LS->Prop
 |[],_,K,st=>K (clean st)
 |o::r,i,K,st=>aA (.mk (k:=fun p:bj=>one (.mk (k:=(c,P,i,o,fun ah=>zg c P r (i+1) K ah)) (st,p))) (pathOf st o.guard))
def xb {c:Cfg} {P:Program} {i:Nat} {l:List Oper} {K:LS->Prop} (x:A (c,P,i,l,K) LS):Prop:=match x with | .mk st=>zg c P l i K st
/-! Code. -/
def oQ:SV->Option Bool
 | .v (.bool b)=>some b
 |_=>none
def jH:Code->Bool
 | .ret | .exit _ | .goto _ | .loop _=>false
 | .seq a b=>jH a&&jH b
 | .cond _ a b=>jH a||jH b
 |_=>true
def iC (K:LS->Prop) (Q:Exit->LS->Prop):Exit->LS->Prop
 | .normal,st=>K st
 |e,st=>Q e st
def Mg (l:Nat) (J:LS->Prop) (Q:Exit->LS->Prop):Exit->LS->Prop
 | .goto l',st=>l' =l/\J st
 |e,st=>Q e st
def we (id:Nat) (Q:Exit->LS->Prop):Exit->LS->Prop
 | .exit id',st=>if id' =id then Q .normal st else Q (.exit id') st
 |e,st=>Q e st
def j8 (c:Cfg) (P:Program) (n:Nat):Code->(Exit->LS->Prop)->LS->Prop
 | .skip,Q,st=>Q .normal st
 | .region _ ⟨ops⟩ false,Q,st=>xb (.mk (k:=(c,P,0,ops,Q .normal)) st)
 | .seq (.cond x a b) rest,Q,st=>
  match jH a&&jH b with
  |true=>jR (.mk (k:=(P,n,.seq (.cond x a b) rest,Q)) st)
  |false=>aA (.mk (k:=fun t:Bool=>(t=true->j8 c P n a (iC (j8 c P n rest Q) Q) st)/\(t=false->j8 c P n b (iC (j8 c P n rest Q) Q) st)) ((bP st [] x).bind oQ))
 | .seq a b,Q,st=>j8 c P n a (iC (j8 c P n b Q) Q) st
 | .cond x a b,Q,st=>aA (.mk (k:=fun t:Bool=>(t=true->j8 c P n a Q st)/\(t=false->j8 c P n b Q st)) ((bP st [] x).bind oQ))
 | .block id a,Q,st=>j8 c P n a (we id Q) st
 | .exit id,Q,st=>Q (.exit id) st
 | .ret,Q,st=>Q .ret st
 | .label _,Q,st=>Q .normal st
 | .goto l,Q,st=>Q (.goto l) st
 |x,Q,st=>jR (.mk (k:=(P,n,x,Q)) st)
def cZ {c:Cfg} {P:Program} {n:Nat} {x:Code} {Q:Exit->LS->Prop} (y:A (c,P,n,x,Q) LS):Prop:=match y with | .mk st=>j8 c P n x Q st
def F8 {c:Cfg} {P:Program} {n:Nat} {t e:Code} {Q:Exit->LS->Prop} {st:LS} (y:A (c,P,n,t,e,Q,st) Bool):Prop:=
 match y with
 | .mk b=>(b=true->cZ (.mk (k:=(c,P,n,t,Q)) st))/\(b=false->cZ (.mk (k:=(c,P,n,e,Q)) st))
/-! Results, loops, joins. -/
def uj:List SV->SV
 |[x]=>x
 |l=> .tup l
def BX (P:Program) (st:LS) (t:TypeId):Option SV->Option SV
 |some (.box k o)=>(dz st.bx k).bind fun b=>if b.ty<gv then(cH P t).bind fun ag=>sb b.cs o ag else none
 |_=>none
def lS (P:Program) (st:LS):List ResultVar->Option (List SV)
 |[]=>some []
 | .tmp t::r=>((dX st.env t []).bind jd).bind fun s=>(lS P st r).map (s:: ·)
 | .cell a t::r=>((BX P st t (dX st.env a [])).bind jd).bind fun s=>(lS P st r).map (s:: ·)
def FY {st:LS} {l:List SV} {R:SV->Hp->Mem->Prop} (x:A (st,l,R) (List Nat)):Prop:=
 match x with
 | .mk L=>R (uj l) ⟨er L st.bx,dS L st.vc⟩ st.m
def wU (P:Program) (res:List ResultVar) (qL:List Nat) (R:SV->Hp->Mem->Prop):Exit->LS->Prop
 | .ret,st=>aA (.mk (k:=fun l:List SV=>FY (.mk (k:=(st,l,R)) (qf st.bx (lf qL l)))) (lS P st res))
 | .normal,st=>aA (.mk (k:=fun l:List SV=>FY (.mk (k:=(st,l,R)) (qf st.bx (lf qL l)))) (lS P st res))
 |_,_=>False
def qQ (i:Nat):List SV->List Ev
 |[]=>[]
 |s::r=>⟨i,[],s⟩::qQ (i+1) r
def wR (H:Hp):List Nat:=H.bx.map (·.id)++H.vc.map (·.id)
def zL (args:List SV) (H:Hp) (m:Mem):LS:=⟨qQ 0 args,[],H.bx,H.vc,max (jF H.bx) (jE H.vc),m⟩
/-! What a function starts from; the head of a loop. -/
def zp (nid:Nat) (vc:List Vc):List SV->Prop
 |[]=>True
 |s::r=>fq nid vc s/\zp nid vc r
def BC (args:List SV) (H:Hp):Prop:=zp (max (jF H.bx) (jE H.vc)) H.vc args/\wu (max (jF H.bx) (jE H.vc)) H.vc H.bx
def zq (nid:Nat) (vc:List Vc):List Ev->Prop
 |[]=>True
 |⟨_,_,s⟩::r=>fq nid vc s/\zq nid vc r
def wM (nid:Nat) (vc:List Vc):List Bx->Prop
 |[]=>True
 |⟨k,_,cs⟩::r=>k<nid/\cP nid vc cs/\wM nid vc r
def wL (nid:Nat):List Vc->Prop
 |[]=>True
 |⟨k,_,_,_,_,_⟩::r=>k<nid/\wL nid r
def po (st:LS):Prop:=zq st.nid st.vc st.env/\wM st.nid st.vc st.bx/\wL st.nid st.vc
def wN (st:LS):List Ev->Prop
 |[]=>True
 |⟨t,p,s⟩::r=>dX st.env t []=some s/\p=[]/\wN st r
def pE (st:LS):List Bx->Prop
 |[]=>True
 |⟨k,t,cs⟩::r=>dz st.bx k=some ⟨k,t,cs⟩/\dz r k=none/\pE st r
def pD (st:LS):List Vc->Prop
 |[]=>True
 |⟨k,u,e,z,n,xs⟩::r=>ka st.vc k=some ⟨k,u,e,z,n,xs⟩/\ka r k=none/\pD st r
def af (m m' :Mem):Prop:=m=m' \/m.le m'
theorem fR (m:Mem):af m m=True:=eq_true (.inl rfl)
def Match (st ah:LS):Prop:=wN st ah.env/\ah.rho=[]/\pE st ah.bx/\pD st ah.vc/\af ah.m st.m
section
variable {c:Cfg} {P:Program} {n i:Nat}
theorem TS {K:LS->Prop} {st:LS}:xb (.mk (k:=(c,P,i,[],K)) st)=K (clean st):=rfl
theorem Ru {K:LS->Prop} {st:LS} {o:Oper} {r:List Oper}:xb (.mk (k:=(c,P,i,o::r,K)) st)=
  aA (.mk (k:=fun p:bj=>one (.mk (k:=(c,P,i,o,fun ah=>xb (.mk (k:=(c,P,i+1,r,K)) ah))) (st,p))) (pathOf st o.guard)):=rfl
theorem Jr {K:List SV->LS->Prop} {st:LS}:fJ (.mk (k:=K) (st,[]))=K [] st:=rfl
theorem R9 {K:List SV->LS->Prop} {st:LS} {k u:Nat} {r:List SV}:fJ (.mk (k:=K) (st,.vec k u::r))=
  aA (.mk (k:=fun b:Vc=>BY (.mk (k:=(st,fun v ah=>fJ (.mk (k:=fun r' ji=>K (.v v::r') ji) (ah,r)))) b)) (cz st.vc k u)):=rfl
theorem LH {K:List SV->LS->Prop} {st:LS} {x:Value} {r:List SV}:fJ (.mk (k:=K) (st,.v x::r))=fJ (.mk (k:=fun r' ah=>K (.v x::r') ah) (st,r)):=rfl
theorem Sa {K:List SV->LS->Prop} {st:LS} {k u:Nat} {r:List SV}:fJ (.mk (k:=K) (st,.box k u::r))=fJ (.mk (k:=fun r' ah=>K (.box k u::r') ah) (st,r)):=rfl
theorem Uf {K:List SV->LS->Prop} {st:LS} {k u o:Nat} {r:List SV}:fJ (.mk (k:=K) (st,.vp k u o::r))=fJ (.mk (k:=fun r' ah=>K (.vp k u o::r') ah) (st,r)):=rfl
theorem Ui {K:List SV->LS->Prop} {st:LS} {k:Nat} {r:List SV}:fJ (.mk (k:=K) (st,.mp k::r))=fJ (.mk (k:=fun r' ah=>K (.mp k::r') ah) (st,r)):=rfl
theorem Uh {K:List SV->LS->Prop} {st:LS} {f:FuncId} {k o:Nat} {r:List SV}:fJ (.mk (k:=K) (st,.mv f k o::r))=fJ (.mk (k:=fun r' ah=>K (.mv f k o::r') ah) (st,r)):=rfl
theorem Ug {K:List SV->LS->Prop} {st:LS} {k n c:Nat} {r:List SV}:fJ (.mk (k:=K) (st,.sl k n c::r))=fJ (.mk (k:=fun r' ah=>K (.sl k n c::r') ah) (st,r)):=rfl
theorem Uj {K:List SV->LS->Prop} {st:LS} {f:FuncId} {ks:List Nat} {r:List SV}:fJ (.mk (k:=K) (st,.cl f ks::r))=fJ (.mk (k:=fun r' ah=>K (.cl f ks::r') ah) (st,r)):=rfl
theorem Ud {K:List SV->LS->Prop} {st:LS} {k:Nat} {r:List SV}:jk (.mk (k:=K) (st,.mp k::r))=jk (.mk (k:=fun r' ah=>K (.mp k::r') ah) (st,r)):=rfl
theorem Uc {K:List SV->LS->Prop} {st:LS} {f:FuncId} {k o:Nat} {r:List SV}:jk (.mk (k:=K) (st,.mv f k o::r))=jk (.mk (k:=fun r' ah=>K (.mv f k o::r') ah) (st,r)):=rfl
theorem Ub {K:List SV->LS->Prop} {st:LS} {k n c:Nat} {r:List SV}:jk (.mk (k:=K) (st,.sl k n c::r))=jk (.mk (k:=fun r' ah=>K (.sl k n c::r') ah) (st,r)):=rfl
theorem Ue {K:List SV->LS->Prop} {st:LS} {f:FuncId} {ks:List Nat} {r:List SV}:jk (.mk (k:=K) (st,.cl f ks::r))=jk (.mk (k:=fun r' ah=>K (.cl f ks::r') ah) (st,r)):=rfl
theorem R6 {K:List SV->LS->Prop} {st:LS}:jk (.mk (k:=K) (st,[]))=K [] st:=rfl
theorem R8 {K:List SV->LS->Prop} {st:LS} {cs r:List SV}:jk (.mk (k:=K) (st,.agg cs::r))=
  fJ (.mk (k:=fun bh ah=>jk (.mk (k:=fun r' ji=>K (.agg bh::r') ji) (ah,r))) (st,cs)):=rfl
theorem WI {K:List SV->LS->Prop} {st:LS} {x:Value} {r:List SV}:jk (.mk (k:=K) (st,.v x::r))=jk (.mk (k:=fun r' ah=>K (.v x::r') ah) (st,r)):=rfl
theorem R7 {K:List SV->LS->Prop} {st:LS} {k u:Nat} {r:List SV}:jk (.mk (k:=K) (st,.box k u::r))=jk (.mk (k:=fun r' ah=>K (.box k u::r') ah) (st,r)):=rfl
theorem R5 {K:List SV->LS->Prop} {st:LS} {k u:Nat} {r:List SV}:jk (.mk (k:=K) (st,.vec k u::r))=
  aA (.mk (k:=fun b:Vc=>BY (.mk (k:=(st,fun v ah=>jk (.mk (k:=fun r' ji=>K (.v v::r') ji) (ah,r)))) b)) (cz st.vc k u)):=rfl
theorem QS {dead live:LS->Prop} {st:LS}:BU (.mk (k:=(dead,live)) (st,[]))=live st:=rfl
theorem Py {dead live:LS->Prop} {st:LS} {j:Nat} {w:Bool} {p:bj}:BU (.mk (k:=(dead,live)) (st,(j,w)::p))=
  BU (.mk (k:=(dead,fun ah=>aA (.mk (k:=fun g:Gd=>nZ (.mk (k:=(j,w,dead,live)) (ah,g))) (ev ah.rho j)))) (st,p)):=rfl
variable {Q:Exit->LS->Prop} {st:LS}
theorem Rv:cZ (.mk (k:=(c,P,n,.skip,Q)) st)=Q .normal st:=rfl
theorem OU {id:Nat} {l:List Oper}:cZ (.mk (k:=(c,P,n,.region id ⟨l⟩ false,Q)) st)=xb (.mk (k:=(c,P,0,l,Q .normal)) st):=rfl
theorem RH {id:Nat} {l:Array Oper}:cZ (.mk (k:=(c,P,n,.region id l true,Q)) st)=jR (.mk (k:=(P,n,.region id l true,Q)) st):=by cases l;rfl
theorem RE {x:Operand} {t e rest:Code} (h:(jH t&&jH e)=true):cZ (.mk (k:=(c,P,n,.seq (.cond x t e) rest,Q)) st)=jR (.mk (k:=(P,n,.seq (.cond x t e) rest,Q)) st):=by
 simp only[cZ,j8,h]
theorem Wq {x:Operand} {t e rest:Code} (h:(jH t&&jH e)=false):cZ (.mk (k:=(c,P,n,.seq (.cond x t e) rest,Q)) st)=
  aA (.mk (k:=fun b:Bool=>F8 (.mk (k:=(c,P,n,t,e,iC (fun ah=>cZ (.mk (k:=(c,P,n,rest,Q)) ah)) Q,st)) b)) ((bP st [] x).bind oQ)):=by
 simp only[cZ,j8,h];rfl
theorem Rx {id:Nat} {l:Array Oper} {d:Bool} {b:Code}:cZ (.mk (k:=(c,P,n,.seq (.region id l d) b,Q)) st)=cZ (.mk (k:=(c,P,n,.region id l d,iC (fun ah=>cZ (.mk (k:=(c,P,n,b,Q)) ah)) Q)) st):=rfl
theorem RB {id:Nat} {a b:Code}:cZ (.mk (k:=(c,P,n,.seq (.block id a) b,Q)) st)=cZ (.mk (k:=(c,P,n,.block id a,iC (fun ah=>cZ (.mk (k:=(c,P,n,b,Q)) ah)) Q)) st):=rfl
theorem Rw {x y b:Code}:cZ (.mk (k:=(c,P,n,.seq (.seq x y) b,Q)) st)=cZ (.mk (k:=(c,P,n,.seq x y,iC (fun ah=>cZ (.mk (k:=(c,P,n,b,Q)) ah)) Q)) st):=rfl
theorem RA {x b:Code}:cZ (.mk (k:=(c,P,n,.seq (.loop x) b,Q)) st)=jR (.mk (k:=(P,n,.loop x,iC (fun ah=>cZ (.mk (k:=(c,P,n,b,Q)) ah)) Q)) st):=rfl
theorem Ry {x b:Code}:cZ (.mk (k:=(c,P,n,.seq (.scope x) b,Q)) st)=jR (.mk (k:=(P,n,.scope x,iC (fun ah=>cZ (.mk (k:=(c,P,n,b,Q)) ah)) Q)) st):=rfl
theorem Rz {b:Code}:cZ (.mk (k:=(c,P,n,.seq .skip b,Q)) st)=cZ (.mk (k:=(c,P,n,b,Q)) st):=rfl
theorem RI {x:Operand} {t e:Code}:cZ (.mk (k:=(c,P,n,.cond x t e,Q)) st)=
  aA (.mk (k:=fun b:Bool=>F8 (.mk (k:=(c,P,n,t,e,Q,st)) b)) ((bP st [] x).bind oQ)):=rfl
theorem PZ {id:Nat} {a:Code}:cZ (.mk (k:=(c,P,n,.block id a,Q)) st)=cZ (.mk (k:=(c,P,n,a,we id Q)) st):=rfl
theorem RD {a:Code}:cZ (.mk (k:=(c,P,n,.loop a,Q)) st)=jR (.mk (k:=(P,n,.loop a,Q)) st):=rfl
theorem PX {a:Code}:cZ (.mk (k:=(c,P,n,.scope a,Q)) st)=jR (.mk (k:=(P,n,.scope a,Q)) st):=rfl
theorem RG {id:Nat}:cZ (.mk (k:=(c,P,n,.exit id,Q)) st)=Q (.exit id) st:=rfl
theorem PY {l:Nat}:cZ (.mk (k:=(c,P,n,.label l,Q)) st)=Q .normal st:=rfl
theorem RF {l:Nat}:cZ (.mk (k:=(c,P,n,.goto l,Q)) st)=Q (.goto l) st:=rfl
theorem RC {l:Nat} {b:Code}:cZ (.mk (k:=(c,P,n,.seq (.label l) b,Q)) st)=cZ (.mk (k:=(c,P,n,b,Q)) st):=rfl
theorem TT:cZ (.mk (k:=(c,P,n,.ret,Q)) st)=Q .ret st:=rfl
end
attribute [go_sem] GB.val.eq_1 GB.val.eq_2 gv.eq_1 mS.eq_1 mS.eq_2 mS.eq_3 kJ.eq_1 kJ.eq_2 dX.eq_1 dX.eq_2 ev.eq_1 ev.eq_2 wO.eq_1 wO.eq_2 dz.eq_1 dz.eq_2 cz.eq_1 cz.eq_2 lg.eq_1 bG.eq_1 bG.eq_2 uf.eq_1 uf.eq_2 uf.eq_3 sw.eq_1 sw.eq_2 lZ.eq_1 bP.eq_1 bP.eq_2 bP.eq_3 bP.eq_4 aA.eq_1 aA.eq_2 arith.eq_1 arith.eq_2 fM.eq_1 fM.eq_2 fM.eq_3 fM.eq_4 fM.eq_5 fM.eq_6 fM.eq_7 fM.eq_8 fM.eq_9 fM.eq_10 fM.eq_11 fM.eq_12 fM.eq_13 fM.eq_14 fM.eq_15 fM.eq_16 fM.eq_17 oq.eq_1 oq.eq_2 oq.eq_3 oq.eq_4 oq.eq_5 oq.eq_6 kE.eq_1 kE.eq_2 kE.eq_3 kE.eq_4 gm.eq_1 gm.eq_2 gm.eq_3 kI.eq_1 kI.eq_2 kI.eq_3 kI.eq_4 jn.eq_1 jn.eq_2 jn.eq_3 sP.eq_1 sP.eq_2 iT.eq_1 iT.eq_2 iT.eq_3 iT.eq_4 iT.eq_5 lB.eq_1 lB.eq_2 lB.eq_3 na.eq_1 na.eq_2 na.eq_3 lW.eq_1 lW.eq_2 lW.eq_3 lW.eq_4 lW.eq_5 lW.eq_6 lW.eq_7 vZ.eq_1 vZ.eq_2 pq.eq_1 pq.eq_2 pq.eq_3 pq.eq_4 pq.eq_5 pq.eq_6 lQ.eq_1 lQ.eq_2 lQ.eq_3 lQ.eq_4 lQ.eq_5 lQ.eq_6 lQ.eq_7 lQ.eq_8 lQ.eq_9 lQ.eq_10 lQ.eq_11 sb.eq_1 sb.eq_2 iG.eq_1 iG.eq_2 yS.eq_1 yS.eq_2 yS.eq_3 qv.eq_1 qv.eq_2 qv.eq_3 qv.eq_4 mE.eq_1 mE.eq_2 mE.eq_3 uo.eq_1 uo.eq_2 rZ.eq_1 rZ.eq_2 qI.eq_1 qI.eq_2 qI.eq_3 qW.eq_1 qW.eq_2 qW.eq_3 se.eq_1 se.eq_2 v8.eq_1 v8.eq_2 Mg.eq_1 Mg.eq_2 nW.eq_1 nW.eq_2 nW.eq_3 nW.eq_4 nW.eq_5 ph.eq_1 ph.eq_2 ph.eq_3 ph.eq_4 pg.eq_1 pg.eq_2 pg.eq_3 pg.eq_4 sW.eq_1 sW.eq_2 FH.eq_1 pB.eq_1 pB.eq_2 pB.eq_3 pB.eq_4 uJ.eq_1 uJ.eq_2 uk.eq_1 uk.eq_2 oa.eq_1 oa.eq_2 oa.eq_3 oa.eq_4 pf.eq_1 pf.eq_2 pf.eq_3 lM.eq_1 lM.eq_2 lM.eq_3 lM.eq_4 jd.eq_1 jd.eq_2 jd.eq_3 jd.eq_4 jd.eq_5 jd.eq_6 jd.eq_7 jd.eq_8 jd.eq_9 jd.eq_10 jd.eq_11 qJ.eq_1 qJ.eq_2 qJ.eq_3 oc.eq_1 oc.eq_2 oc.eq_3 oc.eq_4 oc.eq_5 sE.eq_1 sE.eq_2 sF.eq_1 sF.eq_2 sj.eq_1 sj.eq_2 qu.eq_1 qu.eq_2 qu.eq_3 qOp.eq_1 qOp.eq_2 qOp.eq_3 qOp.eq_4 qOp.eq_5 qOp.eq_6 qOp.eq_7 qOp.eq_8 qOp.eq_9 qOp.eq_10 qOp.eq_11 qOp.eq_12 qOp.eq_13 qOp.eq_14 qOp.eq_15 qOp.eq_16 qOp.eq_17 qOp.eq_18 qOp.eq_19 qOp.eq_20 qOp.eq_21 qOp.eq_22 plain.eq_1 plain.eq_2 jU.eq_1 jU.eq_2 lF.eq_1 lF.eq_2 lF.eq_3 tM.eq_1 tM.eq_2 eU.eq_1 eU.eq_2 eU.eq_3 eU.eq_4 eU.eq_5 eU.eq_6 eU.eq_7 eU.eq_8 eU.eq_9 eU.eq_10 eU.eq_11 eU.eq_12 fX.eq_1 fX.eq_2 gR.eq_1 gR.eq_2 sY.eq_1 sY.eq_2 BM.eq_1 BM.eq_2 zV.eq_1 zV.eq_2 Au.eq_1 Au.eq_2 tY.eq_1 tY.eq_2 tY.eq_3 gA.eq_1 gA.eq_2 gQ.eq_1 gQ.eq_2 FD.eq_1 FD.eq_2 BY.eq_1 qE.eq_1 eJ.eq_1 eJ.eq_2 eJ.eq_3 eJ.eq_4 eJ.eq_5 eJ.eq_6 eJ.eq_7 eJ.eq_8 eJ.eq_9 eJ.eq_10 eJ.eq_11 eJ.eq_12 cellsOf.eq_1 cellsOf.eq_2 lf.eq_1 lf.eq_2 lf.eq_3 wQ.eq_1 wQ.eq_2 qf.eq_1 idxOf.eq_1 idxOf.eq_2 fp.eq_1 dw.eq_1 im.eq_1 im.eq_2 im.eq_3 im.eq_4 im.eq_5 im.eq_6 im.eq_7 im.eq_8 im.eq_9 im.eq_10 im.eq_11 wI.eq_1 wI.eq_2 qH.eq_1 qH.eq_2 lL.eq_1 gq.eq_1 ka.eq_1 ka.eq_2 er.eq_1 er.eq_2 dS.eq_1 dS.eq_2 kC.eq_1 kC.eq_2 jY.eq_1 jY.eq_2 jF.eq_1 jF.eq_2 jE.eq_1 jE.eq_2 r7.eq_1 zS.eq_1 zS.eq_2 qY.eq_1 qY.eq_2 lk.eq_1 lk.eq_2 lk.eq_3 lk.eq_4 lk.eq_5 lk.eq_6 lk.eq_7 lk.eq_8 lk.eq_9 lk.eq_10 lk.eq_11 nv.eq_1 nv.eq_2 CG.eq_1 CG.eq_2 zt.eq_1 zt.eq_2 wP.eq_1 wP.eq_2 FK.eq_1 ly.eq_1 ly.eq_2 ly.eq_3 ly.eq_4 ly.eq_5 ly.eq_6 ly.eq_7 ly.eq_8 ly.eq_9 ly.eq_10 ly.eq_11 nH.eq_1 nH.eq_2 Av.eq_1 Av.eq_2 At.eq_1 At.eq_2 C3.eq_1 C3.eq_2 wW.eq_1 wW.eq_2 wV.eq_1 wV.eq_2 wu.eq_1 wu.eq_2 yO.eq_1 yO.eq_2 j5.eq_1 j5.eq_2 jD.eq_1 jD.eq_2 ee.eq_1 KM.eq_1 E9.eq_1 ba.eq_1 ba.eq_2 gU.eq_1 gU.eq_2 gU.eq_3 gU.eq_4 gU.eq_5 gU.eq_6 gU.eq_7 gU.eq_8 gU.eq_9 gU.eq_10 gU.eq_11 cP.eq_1 cP.eq_2 okB.eq_1 okB.eq_2 uM.eq_1 uM.eq_2 fq.eq_1 fq.eq_2 Fy.eq_1 zc.eq_1 wF.eq_1 wF.eq_2 pe.eq_1 pe.eq_2 lG.eq_1 lG.eq_2 qj.eq_1 qj.eq_2 yH.eq_1 yH.eq_2 fI.eq_1 oT.eq_1 oT.eq_2 oT.eq_3 oT.eq_4 sH.eq_1 sH.eq_2 sH.eq_3 sH.eq_4 sH.eq_5 Ca.eq_1 Ca.eq_2 CE.eq_1 CE.eq_2 Cb.eq_1 Cb.eq_2 CD.eq_1 CD.eq_2 wy.eq_1 wy.eq_2 wy.eq_3 wy.eq_4 kM.eq_1 kM.eq_2 kM.eq_3 kM.eq_4 kM.eq_5 kM.eq_6 kM.eq_7 kM.eq_8 kM.eq_9 kM.eq_10 kM.eq_11 kM.eq_12 pk.eq_1 pk.eq_2 eL.eq_1 eL.eq_2 eL.eq_3 eL.eq_4 eL.eq_5 eL.eq_6 eL.eq_7 eL.eq_8 eL.eq_9 eL.eq_10 eL.eq_11 eL.eq_12 eL.eq_13 eL.eq_14 eL.eq_15 eL.eq_16 eL.eq_17 eL.eq_18 eL.eq_19 eL.eq_20 eL.eq_21 vL.eq_1 vL.eq_2 Fl.eq_1 jm.eq_1 jm.eq_2 nZ.eq_1 nZ.eq_2 nZ.eq_3 nZ.eq_4 nZ.eq_5 nZ.eq_6 put.eq_1 put.eq_2 jB.eq_1 jB.eq_2 jC.eq_1 jC.eq_2 kX.eq_1 kX.eq_2 gT.eq_1 gT.eq_2 gT.eq_3 pathOf.eq_1 pathOf.eq_2 uq.eq_1 uq.eq_2 uq.eq_3 uq.eq_4 zo.eq_1 zo.eq_2 one.eq_1 fy.eq_1 fy.eq_2 kD.eq_1 kD.eq_2 kD.eq_3 clean.eq_1 oQ.eq_1 oQ.eq_2 jH.eq_1 jH.eq_2 jH.eq_3 jH.eq_4 jH.eq_5 jH.eq_6 jH.eq_7 iC.eq_1 iC.eq_2 we.eq_1 we.eq_2 F8.eq_1 uj.eq_1 uj.eq_2 BX.eq_1 BX.eq_2 lS.eq_1 lS.eq_2 lS.eq_3 FY.eq_1 wU.eq_1 wU.eq_2 wU.eq_3 qQ.eq_1 qQ.eq_2 wR.eq_1 zL.eq_1 zp.eq_1 zp.eq_2 BC.eq_1 zq.eq_1 zq.eq_2 wM.eq_1 wM.eq_2 wL.eq_1 wL.eq_2 po.eq_1 wN.eq_1 wN.eq_2 pE.eq_1 pE.eq_2 pD.eq_1 pD.eq_2 Match.eq_1 TS Ru Jr R9 LH Sa Uf Ui Uh Ug Uj Ud Uc Ub Ue R6 R8 WI R7 R5 QS Py Rv OU RH RE Wq Rx RB Rw RA Ry Rz RI PZ RD PX RG TT fR PY RF RC W7 LQ LP Ws Wr Lu
theorem dm (V:Vl) (x:Value):den V (.v x)=x:=rfl
theorem vU (V:Vl) (k o:Nat):den V (.box k o)= .pointer (some ⟨V.β k,o,none⟩):=rfl
theorem EY (V:Vl) (cs:List SV):den V (.agg cs)= .agg ⟨cs.map (aJ V)⟩:=rfl
theorem Vv (V:Vl) (cs:List SV):den V (.tup cs)= .tuple ⟨cs.map (fL V)⟩:=rfl
theorem wv (V:Vl) (l:List Value):(l.map SV.v).map (aJ V)=l:=by
 induction l with
 |nil=>rfl
 |cons x l ih=>simp only[aG,ih];rfl
theorem AE {V:Vl} {s:SV} {cs:List SV} (h:iT s=some cs):(den V s).cells=⟨cs.map (aJ V)⟩:=by
 cases s with
 |agg l=>simp only[iT,cv] at h;subst h;rfl
 |tup l=>simp [iT] at h
 |v x=>
  cases x with
  |agg a=>obtain⟨l⟩:=a;simp only[iT,cv] at h;subst h;simp only[wv];rfl
  |tuple a=>simp [iT] at h
  |_=>simp only[iT,cv] at h;subst h;rfl
 |_=>simp only[iT,cv] at h;subst h;rfl
/-! Paths. -/
theorem Br {rho:List Gd} {j:Nat} {w:Bool} {g:Gd} (h:ev rho j=some g):lg rho j w=(if w=true then g.b.val else !g.b.val):=by
 unfold lg;rw[h]
theorem BQ {rho:List Gd} {i:Nat} {g:Gd} (h:ev rho i=some g):g.i=i/\g∈rho:=by
 induction rho with
 |nil=>cases h
 |cons x r ih=>
  obtain⟨i',t',p',b'⟩:=x;simp only[ev] at h;split at h
  ·rename_i e;cases h;exact⟨e,bN ..⟩
  ·exact⟨(ih h).1,bw _ (ih h).2⟩
theorem Ef:∀{p q:bj},mS p q=true->p=q
 |[],[],_=>rfl
 |(j,w)::p,(k,u)::q,h=>by
  simp only[mS] at h;split at h
  ·split at h
   ·rename_i e e';subst e;subst e';rw[Ef h]
   ·cases h
  ·cases h
 |[],_::_,h=>by simp [mS] at h
 |_::_,[],h=>by simp [mS] at h
theorem Jg {p:bj}:∀{q:bj},kJ p q=true->∃r,q=r++p
 |[],h=>⟨[],by simp only[kJ] at h;rw[Ef h];rfl⟩
 |x::q,h=>by
  simp only[kJ] at h;split at h
  ·rename_i e;exact⟨[],by rw[Ef e];rfl⟩
  ·obtain⟨r,hr⟩:=Jg h;exact⟨x::r,by rw[hr];rfl⟩
theorem IQ {rho:List Gd}:∀{p q:bj},bG rho (p++q)=(bG rho p&&bG rho q)
 |[],q=>by simp [bG]
 |(j,w)::p,q=>by simp [bG,IQ (p:=p),Bool.and_assoc]
theorem A1 {rho:List Gd} {p q:bj} (h:kJ p q=true) (hq:bG rho q=true):bG rho p=true:=by
 obtain⟨r,rfl⟩:=Jg h;rw[IQ,bB] at hq;exact hq.2
theorem nM {rho:List Gd}:ef rho []:=fun _ h=>by cases h
theorem A0 {rho:List Gd}:∀{p:bj},sw rho p=true->bG rho p=false
 |[],h=>by simp [sw] at h
 |(j,w)::p,h=>by
  simp only[sw] at h;split at h
  ·rename_i e;simp only[bG,Bool.and_eq_false_iff];refine .inl ?_;cases hg:ev rho j with
   |none=>rw[hg] at e;cases w<;>simp [uf] at e
   |some g=>
    rw[hg] at e;rw[Br hg];obtain⟨i',t',p',b'⟩:=g;cases b' with
    |lit b=>cases b<;>cases w<;>simp_all [uf,GB.val]
    |sym b=>cases w<;>simp [uf] at e
  ·simp only[bG,Bool.and_eq_false_iff];exact .inr (A0 h)
section
variable {C:Ctx} {n:Nat} {st:LS} {a:Act} {V:Vl} {D:Nat->Nat} {w:World} {P:Program}
theorem cB (hS:Sat C n st a V D w) {p:bj} (hp:ef st.rho p) (hc:bG st.rho p=true) {x:Operand} {s:SV} (h:bP st p x=some s):a.eval x=den V s:=by
 cases x with
 |tmp t=>
  have:=hS.env t p s hp h hc;simp [Act.eval,this]
 |const v=>simp only[bP,cv] at h;subst h;rfl
 |func f=>simp only[bP,cv] at h;subst h;rfl
 |global g=>simp only[bP,cv] at h;subst h;rfl
theorem nN {l:List Bx} {k:Nat} {b:Bx} (h:dz l k=some b):b.id=k/\b∈l:=by
 induction l with
 |nil=>cases h
 |cons x r ih=>
  obtain⟨i',t',p'⟩:=x;simp only[dz] at h;split at h
  ·rename_i e;cases h;exact⟨e,bN ..⟩
  ·exact⟨(ih h).1,bw _ (ih h).2⟩
theorem yq {l:List Vc} {k u:Nat} {b:Vc} (h:cz l k u=some b):b.id=k/\b.ver=u/\b∈l:=by
 induction l with
 |nil=>cases h
 |cons x r ih=>
  obtain⟨i',u',e',z',n',x'⟩:=x;simp only[cz] at h;split at h
  ·rename_i e;split at h
   ·rename_i e';cases h;exact⟨e,e',bN ..⟩
   ·cases h
  ·exact⟨(ih h).1,(ih h).2.1,bw _ (ih h).2.2⟩
end
def Yl (c:Bool) (P:Program) (x:Sem Value) (w:World) (v:Value):Prop:=c=true->x.run P w= .ok v w
section
variable {P:Program} {c:Bool} {w:World}
abbrev U (c:Bool):Prop->Prop:=fun B=>c=true->B
theorem xL {k:IntKind} {V:Vl} {K:SV->Prop} {n:Int} (h:arith (.mk (k:=(k,U c,K)) n)):
  ∃s,K s/\(c=true->den V s= .int k (k.wrap n)):=by
 cases k;case i64=>
  simp only[arith] at h;refine⟨_,h.2,fun hc=> ?_⟩;have hb:=h.1 hc;rw[dm];have:IntKind.i64.wrap n=n:=by
   rw[IntKind.wrap_i64];unfold az at hb;omega
  rw[this]
 all_goals exact⟨_,h,fun _=>rfl⟩
theorem PN {op:BinOp} {k k' :IntKind} {x y:Int} {t:TypeId} {o o' :Operand} {V:Vl} {K:SV->Prop} (hk:op= .shl\/op= .shr\/k=k') (h:fM (.mk (k:=(op,k,U c,K)) (x,y))):
  ∃s,K s/\Yl c P (do eqGuard op t o o' (.int k x) (.int k' y);binOp op t (.int k x) (.int k' y)) w (den V s):=by
 by_cases hs:op= .shl\/op= .shr
 ·rcases hs with rfl |rfl
  ·simp only[fM] at h;refine⟨_,h.2,fun hc=> ?_⟩;simp [go_sem,shift_shl _ _ _ _ (h.1 hc).1 (h.1 hc).2,dm]
  ·simp only[fM] at h;refine⟨_,h.2,fun hc=> ?_⟩;simp [go_sem,shift_shr _ _ _ _ (h.1 hc).1 (h.1 hc).2,dm]
 ·have uY:k=k' :=by
   rcases hk with h1 |h1 |h1
   ·exact absurd (.inl h1) hs
   ·exact absurd (.inr h1) hs
   ·exact h1
  subst uY;cases op<;>simp only[fM] at h;case shl=>exact absurd (.inl rfl) hs
  case shr=>exact absurd (.inr rfl) hs
  case add=>obtain⟨s,h1,h2⟩:=xL (V:=V) h;exact⟨s,h1,fun hc=>by rw[h2 hc];simp [go_sem,Op.intArith]⟩
  case sub=>obtain⟨s,h1,h2⟩:=xL (V:=V) h;exact⟨s,h1,fun hc=>by rw[h2 hc];simp [go_sem,Op.intArith]⟩
  case mul=>obtain⟨s,h1,h2⟩:=xL (V:=V) h;exact⟨s,h1,fun hc=>by rw[h2 hc];simp [go_sem,Op.intArith]⟩
  case quo=>obtain⟨s,h1,h2⟩:=xL (V:=V) h.2;exact⟨s,h1,fun hc=>by rw[h2 hc];simp [go_sem,Op.intDiv,h.1 hc]⟩
  case rem=>exact⟨_,h.2,fun hc=>by simp [go_sem,Op.intDiv,h.1 hc,dm]⟩
  case eql=>exact⟨_,h,fun _=>by simp [go_sem,dm];rfl⟩
  case neq=>exact⟨_,h,fun _=>by simp [go_sem,dm,bne];rfl⟩
  all_goals exact⟨_,h,fun _=>by simp [go_sem,dm]⟩
end
theorem Rf (x y:ByteArray):x++y=bs (tl x++tl y):=by
 obtain⟨a⟩:=x;obtain⟨b⟩:=y;obtain⟨a⟩:=a;obtain⟨b⟩:=b;exact ByteArray.mk_append_mk a b
theorem vC (x:ByteArray):x.toList=tl x:=ByteArray.toList_eq x
theorem vW (x:ByteArray):(tl x).length=x.size:=by unfold tl ByteArray.size;exact Array.length_toList
theorem Lr (x y:List UInt8):(x==y)=decide (x=y):=by
 rw[Bool.eq_iff_iff];simp only[beq_iff_eq,cE]
theorem ax {α:Type} {K:α->Prop} {x:Option α} (h:aA (.mk (k:=K) x)):∃s,x=some s/\K s:=by
 cases x with
 |none=>exact h.elim
 |some s=>exact⟨s,rfl,h⟩
section
variable {P:Program} {c:Bool} {w:World}
theorem PK {op:BinOp} {x y:ByteArray} {t:TypeId} {o o' :Operand} {V:Vl} {K:SV->Prop} (h:oq (.mk (k:=(op,U c,K)) (tl x,tl y))):
  ∃s,K s/\Yl c P (do eqGuard op t o o' (.string x) (.string y);binOp op t (.string x) (.string y)) w (den V s):=by
 cases op<;>simp only[oq] at h;case add=>
  refine⟨_,h.2,fun hc=> ?_⟩;have hl:=h.1 hc;rw[vW,vW] at hl;have:¬((x.size+y.size:Nat):Int)>IntKind.i64.max:=by rw[IntKind.max_i64];omega
  simp only[go_sem,binOp,Op.stringOp,Sem.run_bind,Sem.run_pure,Result.andThen_ok];rw[ae this];rw[Rf,dm];rfl
 case eql=>exact⟨_,h,fun _=>by simp [go_sem,dm,vC,Lr]⟩
 case neq=>exact⟨_,h,fun _=>by simp [go_sem,dm,vC,Lr]⟩
 case lss=>exact⟨_,h,fun _=>by simp [go_sem,dm,vC]⟩
 case geq=>exact⟨_,h,fun _=>by simp [binOp,Op.stringOp,go_sem,dm,vC]⟩
theorem PH {V:Vl} {x y:SV} {b:Bool} (h:kE x y=some b):kE (.v (aJ V x)) (.v (aJ V y))=some b:=by
 unfold kE at h;split at h<;>first |exact h |cases h
theorem S4 {V:Vl} {z x:SV} (h:kI z x=true):kI z (.v (aJ V x))=true:=by
 unfold kI at h;split at h<;>first |exact h |cases h
theorem JX {V:Vl}:∀{z x:List SV},jn z x=true->jn z ((x.map (aJ V)).map .v)=true
 |[],[],h=>h
 |z::zs,x::xs,h=>by
  simp only[jn,bB] at h;simp only[aG,jn,S4 h.1,JX h.2,Bool.and_self]
 |[],_::_,h=>by simp [jn] at h
 |_::_,[],h=>by simp [jn] at h
theorem S2 {V:Vl} {z:Option (List SV)} {x:List SV} (h:sP z x=true):sP z ((x.map (aJ V)).map .v)=true:=by
 cases z with
 |none=>cases h
 |some z=>exact JX h
theorem Hv {V:Vl}:∀{x y:List SV} {b:Bool},gm x y=some b->gm ((x.map (aJ V)).map .v) ((y.map (aJ V)).map .v)=some b
 |[],[],_,h=>h
 |x::xs,y::ys,b,h=>by
  simp only[gm,Option.bind_eq_some_iff,Option.map_eq_some_iff] at h;obtain⟨e,he,r,hr,rfl⟩:=h;simp only[aG,gm,PH he,Hv hr,Option.bind_some,Option.map_some]
 |[],_::_,_,h=>by simp [gm] at h
 |_::_,[],_,h=>by simp [gm] at h
theorem DE {op:BinOp} {b:Bool} {K:SV->Prop} {V:Vl} (h:na (.mk (k:=(op,K)) b)):
  ∃s,K s/\((op= .eql/\den V s= .bool b)\/(op= .neq/\den V s= .bool (!b))):=by
 cases op<;>simp only[na] at h;case eql=>exact⟨_,h,.inl ⟨rfl,rfl⟩⟩
 case neq=>exact⟨_,h,.inr ⟨rfl,rfl⟩⟩
theorem He {V:Vl} {y:SV} {ys:List SV} (h:lB y=some ys):den V y= .agg ⟨ys.map (aJ V)⟩:=by
 cases y with
 |agg l=>simp only[lB,cv] at h;subst h;rfl
 |v x=>
  cases x with
  |agg a=>obtain⟨l⟩:=a;simp only[lB,cv] at h;subst h;rw[wv];rfl
  |_=>simp [lB] at h
 |_=>simp [lB] at h
theorem Hs {op:BinOp} {t:TypeId} {o o' :Operand} {V:Vl} {K:SV->Prop} {xs:List SV} {y:SV} {xv:Value} (hxv:xv= .agg ⟨xs.map (aJ V)⟩) 
  (he:wZ P t) (hl:sP (cY P t) xs=true) (h:aA (.mk (k:=fun b=>na (.mk (k:=(op,K)) b)) ((lB y).bind fun ys=>gm xs ys))):
  ∃s,K s/\Yl c P (do eqGuard op t o o' xv (den V y);binOp op t xv (den V y)) w (den V s):=by
 obtain⟨b,hb,hK⟩:=ax h;simp only[Option.bind_eq_some_iff] at hb;obtain⟨ys,hys,hb⟩:=hb;have hyv:den V y= .agg ⟨ys.map (aJ V)⟩:=He hys;have hE:=fun op=>he (xs.map (aJ V)) (ys.map (aJ V)) b w o o' op (Hv hb) (S2 hl)
 obtain⟨s,hs,hh⟩:=DE (V:=V) hK;refine⟨s,hs,fun hc=> ?_⟩;rw[hxv,hyv];rcases hh with ⟨rfl,hr⟩ |⟨rfl,hr⟩
 ·rw[hr];simp only[Sem.run_bind,(hE .eql).1,Result.andThen_ok,binOp,(hE .eql).2,Sem.run_pure]
 ·rw[hr];simp only[Sem.run_bind,(hE .neq).1,Result.andThen_ok,binOp,(hE .neq).2,Sem.run_pure]
theorem run_equal_bool {t:TypeId} (x y:Bool) (h:P.underlying t=some .bool):(Op.equal t (.bool x) (.bool y)).run P w= .ok (x==y) w:=by
 have hd:∀d:Nat,(Op.equalIn (d+1) t (.bool x) (.bool y)).run P w= .ok (x==y) w:=fun d=>by
  simp only[Op.equalIn,Sem.run_bind,run_underlying h,Result.andThen_ok,Sem.run_pure]
 exact hd 9999
theorem G4 {t:TypeId} {v:Value} (h:Fp P t=true) (hv:Np v):(Op.equal t v .nilIface).run P w= .ok (v8 v) w:=by
 unfold Fp at h;split at h
 ·rename_i ms hu;have hd:∀d:Nat,(Op.equalIn (d+1) t v .nilIface).run P w= .ok (v8 v) w:=fun d=>by
   rcases hv with rfl |⟨ty,x,rfl⟩<;>simp only[Op.equalIn,Sem.run_bind,run_underlying hu,Result.andThen_ok,Sem.run_pure,v8]
  exact hd 9999
 ·cases h
theorem OC {op:BinOp} {x:SV} {t:TypeId} {o:Operand} {V:Vl} {K:SV->Prop} (h:se (.mk (k:=(P,op,t,U c,K)) x)):
  ∃s,K s/\Yl c P (do eqGuard op t o (.const .nilIface) (den V x) .nilIface;binOp op t (den V x) .nilIface) w (den V s):=by
 unfold se at h;split at h
 ·rename_i v e;cases e;obtain⟨h1,h2,h3⟩:=h;obtain⟨s,hs,hh⟩:=DE (V:=V) h3;refine⟨s,hs,fun hc=> ?_⟩;have hv:=h2 hc;have hg:∀op,(eqGuard op t o (.const .nilIface) v .nilIface).run P w= .ok () w:=fun op=>by
   unfold eqGuard;rcases hv with rfl |⟨ty,x,rfl⟩<;>cases op<;>simp
  have kq:binOp .eql t v .nilIface=(do let b <- Op.equal t v .nilIface;pure (.bool b)):=by
   rcases hv with rfl |⟨ty,x,rfl⟩<;>rfl
  have Al:binOp .neq t v .nilIface=(do let b <- Op.equal t v .nilIface;pure (.bool (!b))):=by
   rcases hv with rfl |⟨ty,x,rfl⟩<;>rfl
  rcases hh with ⟨rfl,hr⟩ |⟨rfl,hr⟩
  ·rw[hr];simp only[Sem.run_bind,dm,hg,Result.andThen_ok,kq,G4 h1 hv,Sem.run_pure]
  ·rw[hr];simp only[Sem.run_bind,dm,hg,Result.andThen_ok,Al,G4 h1 hv,Sem.run_pure]
 ·cases h
theorem PL {op:BinOp} {x y:SV} {t:TypeId} {o o' :Operand} {V:Vl} {K:SV->Prop} (h:lW (.mk (k:=(P,op,t,U c,K)) (x,y))):
  ∃s,K s/\Yl c P (do eqGuard op t o o' (den V x) (den V y);binOp op t (den V x) (den V y)) w (den V s):=by
 unfold lW at h;split at h
 ·rename_i k a k' b e;cases e;exact PN h.1 h.2
 ·rename_i a b e;cases e;exact PK h
 ·rename_i a b e;cases e;obtain⟨s,hs,hh⟩:=DE (V:=V) h.2;refine⟨s,hs,fun hc=> ?_⟩;rcases hh with ⟨rfl,hr⟩ |⟨rfl,hr⟩
  ·rw[hr];simp only[Sem.run_bind,eqGuard_at_bool,dm,Sem.run_pure,Result.andThen_ok,binOp,run_equal_bool a b h.1]
  ·rw[hr];simp only[Sem.run_bind,eqGuard_at_bool,dm,Sem.run_pure,Result.andThen_ok,binOp,run_equal_bool a b h.1]
 ·rename_i xs y e;cases e;exact Hs rfl h.1 h.2.1 h.2.2
 ·rename_i xs y e;cases e;obtain⟨l⟩:=xs;refine Hs (xs:=l.map .v) (by rw[wv];rfl) h.1 h.2.1 h.2.2
 ·rename_i a n' c' e;cases e;obtain⟨rfl,h2,h3⟩:=h;refine⟨_,h3,fun hc=> ?_⟩;obtain⟨e,he⟩:∃e,P.underlying t=some (.slice e):=by
   unfold eo at h2;split at h2
   ·rename_i e he;exact⟨e,he⟩
   ·cases h2
  have hr:(binOp .eql t (.slice a n' c') (.slice none 0 0)).run P w= .ok (.bool a.isNone) w:=by
   have h1:∀d,(Op.equalIn (d+1) t (.slice a n' c') (.slice none 0 0)).run P w= .ok a.isNone w:=fun d=>by cases a<;>simp [Op.equalIn,run_underlying he]
   simp only[binOp];simp [Op.equal,Op.maxDepth,h1 9999]
  simp only[Sem.run_bind,eqGuard_at_slice,dm,Sem.run_pure,Result.andThen_ok];exact hr
 ·cases h
end
section
variable {P:Program} {w:World}
theorem vP {t:TypeId} (h:0<aM P t):(sizeOf t).run P w= .ok (aM P t) w:=by
 unfold aM at h ⊢;cases hi:P.info? t with
 |none=>rw[hi] at h;simp at h
 |some i=>simp [sizeOf,typeInfo,hi]
theorem G7 {t:TypeId} (h:cH P t=some none):(isAgg t).run P w= .ok false w:=by
 unfold cH at h;split at h
 ·simp at h
 ·simp at h
 ·rename_i d h1 h2 hd;simp only[isAgg,Sem.run_bind,run_underlying hd,Result.andThen_ok];rfl
 ·cases h
theorem Ay {t:TypeId} {n:Nat} (h:cH P t=some (some n)):(isAgg t).run P w= .ok true w/\(sizeOf t).run P w= .ok n w:=by
 unfold cH at h;split at h
 ·rename_i fs hd;simp only[Option.map_eq_some_iff,cv] at h;obtain⟨i,hi,rfl⟩:=h;exact⟨by simp [isAgg,run_underlying hd],by simp [sizeOf,typeInfo,hi]⟩
 ·rename_i fs k hd;simp only[Option.map_eq_some_iff,cv] at h;obtain⟨i,hi,rfl⟩:=h;exact⟨by simp [isAgg,run_underlying hd],by simp [sizeOf,typeInfo,hi]⟩
 ·cases h
 ·cases h
theorem vm {t:TypeId} {ad:Addr} {ag:Option Nat} {cs:List Value} {v:Value} (h:cH P t=some ag) (hc:∀j u,cs[j]? =some u->w.cell? (ad.add j)=some u)
  (hv:match ag with |none=>cs=[v] |some n=>cs.length=n/\v= .agg ⟨cs⟩):(loadVar t ad).run P w= .ok v w:=by
 cases ag with
 |none=>
  subst hv;have h0:=hc 0 v rfl;rw[Addr.add_zero'] at h0;simp only[loadVar,Sem.run_bind,G7 h,Result.andThen_ok,Bool.false_eq_true,if_false];rw[run_load];simp [h0]
 |some n=>
  obtain⟨hl,rfl⟩:=hv;simp only[loadVar,Sem.run_bind,(Ay h).1,(Ay h).2,Result.andThen_ok,if_true];subst hl;rw[run_loadCells_list w ad cs hc];rfl
theorem IE {D:Nat} {o o' :Option Obj} {c:Array Value} {t:TypeId} {f:Nat×Nat} (h:mJ D o o') (ho:o=some (.cells c t f)):∃c' t' f',o' =some (.cells c' t' f')/\∀j,j<D->c'[j]? =c[j]? :=by
 subst ho;exact h
theorem AO {m:Mem} {D:Nat->Nat} (hle:m.le ⟨w,D⟩) {ad:Addr} {v:Value} (hs:ad.spot=none) (hd:ad.off<m.D ad.block) (h:m.w.cell? ad=some v):w.cell? ad=some v:=by
 obtain⟨_,hk⟩:=hle ad.block;obtain⟨_,hk⟩:=hk (by omega);unfold World.cell? at h ⊢;split at h
 ·rename_i c t f hc;obtain⟨c',t',f',ho,hj⟩:=IE hk hc;dsimp only at ho;rw[ho];simp only[hs,Option.isSome_none,Bool.false_eq_true,if_false] at h ⊢;rw[hj _ hd];exact h
 ·cases h
theorem kU (ad:Addr) (j:Nat) (h:ad.spot=none):(ad.add j).block=ad.block/\(ad.add j).off=ad.off+j/\(ad.add j).spot=none:=by
 unfold Addr.add;split
 ·rename_i e;subst e;exact⟨rfl,rfl,h⟩
 ·exact⟨rfl,rfl,rfl⟩
theorem Ms {m:Mem} {D:Nat->Nat} (hle:m.le ⟨w,D⟩) {x:Value} {cs:List Value} (h:Rd m x cs):∃ad,x= .pointer (some ad)/\∀j u,cs[j]? =some u->w.cell? (ad.add j)=some u:=by
 obtain⟨ad,hx,hs,hc⟩:=h;refine⟨ad,hx,fun j u hu=> ?_⟩;have hj:j<cs.length:=(List.getElem?_eq_some_iff.1 hu).1;obtain⟨h1,h2⟩:=hc j hj;obtain⟨e1,e2,e3⟩:=kU ad j hs;exact AO hle e3 (by rw[e1,e2];exact h2) (h1.trans hu)
theorem L1 {m:Mem} {D:Nat->Nat} (hle:m.le ⟨w,D⟩) {x:Option Addr} {n sz:Nat} {cs:List Value} (h:aw m x n sz cs) (hn:0<n):∃ad,x=some ad/\∀j u,cs[j]? =some u->w.cell? (ad.add j)=some u:=by
 obtain⟨hl,h⟩:=h;obtain⟨ad,hx,hs,hc⟩:=h hn;refine⟨ad,hx,fun j u hu=> ?_⟩;have hj:j<cs.length:=(List.getElem?_eq_some_iff.1 hu).1;obtain⟨h1,h2⟩:=hc j (by omega);obtain⟨e1,e2,e3⟩:=kU ad j hs;exact AO hle e3 (by rw[e1,e2];exact h2) (h1.trans hu)
theorem gL {x:Sem Value} {v:Value} {w' :World} (h:x.run P w= .ok v w'):(do pure (Next.value (<- x)):Sem Next).run P w= .ok (.value v) w' :=by
 simp [h]
theorem H8 {V:Vl} {cs:List SV} {off:Nat} {ag:Option Nat} {s:SV} (h:sb cs off ag=some s):
  match ag with |none=>(cs.map (aJ V))[off]? =some (den V s) |some n=>den V s= .agg ⟨((cs.map (aJ V)).drop off).take n⟩/\off+n<=cs.length:=by
 cases ag with
 |none=>
  obtain⟨x,hx,hs⟩:=Option.bind_eq_some_iff.1 h;dsimp only;rw[List.getElem?_map,hx];cases x<;>simp only[lQ,cv] at hs<;>first |(subst hs;rfl) |cases hs
 |some n=>
  simp only[sb] at h;split at h
  ·rename_i hl;simp only[cv] at h;subst h;exact⟨by rw[EY,List.map_take,List.map_drop],hl⟩
  ·cases h
end
theorem Sx {rho:List Gd} {t:Nat} {g:Gd} (h:wO rho t=some g):g.slot=t/\g∈rho:=by
 induction rho with
 |nil=>cases h
 |cons x r ih=>
  obtain⟨i',t',p',b'⟩:=x;simp only[wO] at h;split at h
  ·rename_i e;cases h;exact⟨e,bN ..⟩
  ·exact⟨(ih h).1,bw _ (ih h).2⟩
theorem rG {α β:Type} {o:Option α} {f:α->Option β} {y:β} (h:o.bind f=some y):∃x,o=some x/\f x=some y:=Option.bind_eq_some_iff.1 h
def Run (P:Program) (c:Bool) (x:Sem Next) (w:World) (v:Value):Prop:=c=true->x.run P w= .ok (.value v) w
theorem Yl.run {P:Program} {c:Bool} {x:Sem Value} {w:World} {v:Value} (h:Yl c P x w v):Run P c (do pure (.value (<- x))) w v:=fun hc=>gL (h hc)
section
variable {C:Ctx} {n:Nat} {st:LS} {a:Act} {V:Vl} {D:Nat->Nat} {w:World} {P:Program} {p:bj} {K:SV->Prop} {c:Bool}
theorem O7 {s:SV} (h:qI (.mk (k:=(U c,K)) s)):∃r,K r/\den V r=den V s/\(c=true->pq (den V s)=true):=by
 unfold qI at h;split at h
 ·rename_i x e;cases e;exact⟨_,h.2,rfl,fun hc=>h.1 hc⟩
 ·rename_i k o e;cases e;exact⟨_,h,rfl,fun _=>rfl⟩
 ·cases h
theorem S8 {o:Oper} {x:Operand} (ho:o.op= .nilCheck x) (h:pq (a.eval x)=true):(execOp a.eval o).run P w= .ok (.value (a.eval x)) w:=by
 unfold execOp;simp only[ho];revert h;generalize a.eval x=v
 intro h;cases v with
 |pointer q=>cases q with
  |none=>cases h
  |some q=>rfl
 |nilIface=>cases h
 |nilFunc=>cases h
 |func f b d=>cases f<;>first |rfl |cases h
 |_=>rfl
theorem Qh {op:UnOp} {s:SV} (h:qW (.mk (k:=(op,U c,K)) s)):∃r,K r/\Yl c P (Op.unary op (den V s)) w (den V r):=by
 unfold qW at h;split at h
 ·rename_i b e;cases e;exact⟨_,h,fun _=>rfl⟩
 ·rename_i k m e;cases e;obtain⟨r,h1,h2⟩:=xL (V:=V) h;exact⟨r,h1,fun hc=>by rw[h2 hc];rfl⟩
 ·cases h
theorem adM {l:List UInt8} {j:Nat} {u:Value} (h:(qV l)[j]? =some u):∃b:UInt8,l[j]? =some b/\u= .int .u8 b.toNat:=by
 simp only[qV,List.getElem?_map,Option.map_eq_some_iff] at h;obtain⟨b,hb,rfl⟩:=h;exact⟨b,hb,rfl⟩
theorem Vz {P:Program} {src dst:TypeId} {k:IntKind} {m:Int} {k' :IntKind} (h:oI P src dst= .int k):(convert src dst (.int k' m)).run P w= .ok (.int k (k.wrap m)) w:=by
 unfold oI at h;split at h
 ·rename_i k1 k2 h1 h2;cases h;simp [convert,run_underlying h1,run_underlying h2,Conv.intToInt]
 ·cases h
 ·split at h<;>cases h
 ·cases h
theorem Ti {P:Program} {src dst:TypeId} {s:ByteArray} (h:oI P src dst= .same):(convert src dst (.string s)).run P w= .ok (.string s) w:=by
 unfold oI at h;split at h
 ·cases h
 ·rename_i h1 h2;simp [convert,run_underlying h1,run_underlying h2]
 ·split at h<;>cases h
 ·cases h
theorem VA {P:Program} {src dst:TypeId} (h:oI P src dst= .b2s):∃e,P.underlying src=some (.slice e)/\P.underlying e=some (.int .u8)/\P.underlying dst=some .string:=by
 unfold oI at h;split at h
 ·cases h
 ·cases h
 ·rename_i e h1 h2;split at h
  ·rename_i h3;exact⟨e,h1,h3,h2⟩
  ·cases h
 ·cases h
theorem Kv {P:Program} {src dst:TypeId} {l:List UInt8} {x:Option Addr} {n cp:Nat} (h:oI P src dst= .b2s) (hn:l.length=n) (hx:0<n->∃ad,x=some ad/\∀j u,(qV l)[j]? =some u->w.cell? (ad.add j)=some u):
  (convert src dst (.slice x n cp)).run P w= .ok (.string (bs l)) w:=by
 obtain⟨e,h1,h2,h3⟩:=VA h;rcases Nat.eq_zero_or_pos n with h0 |h0
 ·subst h0;have:l=[]:=List.eq_nil_of_length_eq_zero hn;subst this;cases x with
  |none=>rw[run_convert_bytes_string w src dst e none _ cp h1 h2 h3];simp [Conv.bytesToString];rfl
  |some ad=>exact run_convert_bytes_back w src dst e ad cp [] h1 h2 h3 (fun j hj=>absurd hj (by simp))
 ·obtain⟨ad,rfl,hc⟩:=hx h0;subst hn;exact run_convert_bytes_back w src dst e ad cp l h1 h2 h3 (fun j hj=>hc j _ (by simp [qV,List.getElem?_eq_getElem hj]))
theorem rV {e:TypeId} {sz:Nat} {h:Hd} {m:Nat} {xs:List Value} (ho:w.ownsRow 0 e sz h.val m xs):h.n=m/\xs.length=m * sz/\(0<m->∃g,h.a=some ⟨g,0,none⟩/\∀j u,xs[j]? =some u->w.cell? ⟨g,j,none⟩=some u):=by
 obtain⟨hl,hv⟩:=ho;rcases hv with ⟨hv,rfl⟩ |⟨g,cap,cur,hv,_,hh,pL,_,fe,rj⟩
 ·simp only[Hd.val,Value.slice.injEq] at hv;exact⟨hv.2.1,hl,fun h0=>absurd h0 (by omega)⟩
 ·simp only[Hd.val,Value.slice.injEq] at hv;refine⟨hv.2.1,hl,fun _=>⟨g,hv.1,fun j u hu=> ?_⟩⟩;have hj:j<m * sz:=by have:=(List.getElem?_eq_some_iff.1 hu).1;omega
  rw[<- rj,List.getElem?_take,ak hj] at hu;simp only[World.cell?,hh,Option.isSome_none,Bool.false_eq_true,if_false];rw[<- hu,Array.getElem?_toList]
theorem AB (g j:Nat):(Addr.add ⟨g,0,none⟩ j)=⟨g,j,none⟩:=by
 unfold Addr.add;split
 ·rename_i h;subst h;rfl
 ·simp
theorem qm (hS:Sat C n st a V D w) {k u:Nat} {b:Vc} (h:cz st.vc k u=some b):vk V D w b/\b.id=k/\b.ver=u:=
 ⟨hS.heap.vc b (yq h).2.2,(yq h).1,(yq h).2.1⟩
theorem OE (hS:Sat C n st a V D w) {src dst:TypeId} {s:SV} (h:nW (.mk (k:=(U c,K)) (st,oI P src dst,s))):
  ∃r,K r/\Yl c P (convert src dst (den V s)) w (den V r):=by
 unfold nW at h;split at h
 ·rename_i k k' m e;simp only[A.mk.injEq,Prod.mk.injEq] at e;obtain⟨rfl,e2,rfl⟩:=e;exact⟨_,h,fun _=>Vz e2⟩
 ·rename_i s' e;simp only[A.mk.injEq,Prod.mk.injEq] at e;obtain⟨rfl,e2,rfl⟩:=e;exact⟨_,h,fun _=>Ti e2⟩
 ·rename_i ah k v e;simp only[A.mk.injEq,Prod.mk.injEq] at e;obtain⟨rfl,e2,rfl⟩:=e;obtain⟨b,hb,l,h1,h2⟩:=ax h;refine⟨_,h2,fun hc=> ?_⟩;obtain⟨e1,e3⟩:=h1 hc;obtain⟨hv,rfl,rfl⟩:=qm hS hb;obtain⟨hn,hl,hx⟩:=rV hv.1;have vd:l.length=b.n:=by rw[e1,Nat.mul_one,e3] at hl;simpa [qV] using hl
  refine Kv e2 (by rw[vd,hn]) (fun h0=> ?_);obtain⟨g,hg,b8⟩:=hx (by omega);refine⟨_,hg,fun j y hy=> ?_⟩;rw[AB];exact b8 j y (by rw[e3];exact hy)
 ·rename_i ah x m cp e;simp only[A.mk.injEq,Prod.mk.injEq] at e;obtain⟨rfl,e2,rfl⟩:=e;obtain⟨l,h1,h2⟩:=h;refine⟨_,h2,fun hc=> ?_⟩;have hr:=h1 hc;refine Kv e2 (by have:=hr.1;simpa [qV] using this) (fun h0=>L1 hS.mle hr h0)
 ·cases h
theorem Es {P:Program} {s:TypeId} {f off sz:Nat} {ag:Option Nat} (h:bf P s f=some (off,ag,sz)):∃fs x,P.underlying s=some (.struct fs)/\fs[f]? =some x/\x.offset=off/\cH P x.type=some ag/\0<aM P x.type/\aM P x.type=sz:=by
 unfold bf at h;split at h
 ·rename_i fs hs;obtain⟨x,hx,h⟩:=rG h;split at h
  ·rename_i h0;simp only[Option.map_eq_some_iff,Prod.mk.injEq] at h;obtain⟨g,hg,rfl,rfl,rfl⟩:=h;exact⟨fs,x,hs,hx,rfl,hg,h0,rfl⟩
  ·cases h
 ·cases h
theorem Df {P:Program} {s:TypeId} {f off sz:Nat} {ag:Option Nat} {ad:Addr} (h:bf P s f=some (off,ag,sz)):(Instr.fieldAt s (.pointer (some ad)) f).run P w= .ok (.pointer (some (ad.add off))) w:=by
 obtain⟨fs,x,hs,hx,rfl,_,h0,_⟩:=Es h;have:aM P x.type≠0:=by omega
 simp [Instr.fieldAt,run_underlying hs,hx,Instr.sureAddr,fieldPlace,vP h0,this]
theorem mL (b o f:Nat):(Addr.add ⟨b,o,none⟩ f)=⟨b,o+f,none⟩:=by
 unfold Addr.add;split
 ·rename_i h;subst h;rfl
 ·rfl
theorem Pf (hS:Sat C n st a V D w) {s:TypeId} {x:SV} {f off sz:Nat} {ag:Option Nat} (hf:bf P s f=some (off,ag,sz))
  (h:ph (.mk (k:=(U c,K)) (st,x,off))):∃r,K r/\Yl c P (Instr.fieldAt s (den V x) f) w (den V r):=by
 unfold ph at h;split at h
 ·rename_i ah k o f' e;simp only[A.mk.injEq,Prod.mk.injEq] at e;obtain⟨rfl,rfl,rfl⟩:=e;exact⟨_,h,fun _=>by rw[vU,Df hf,mL];rfl⟩
 ·rename_i ah k v o f' e;simp only[A.mk.injEq,Prod.mk.injEq] at e;obtain⟨rfl,rfl,rfl⟩:=e;obtain⟨b,hb,h1,h2⟩:=ax h;refine⟨_,h2,fun hc=> ?_⟩;obtain⟨hv,rfl,rfl⟩:=qm hS hb;obtain⟨_,hl,hx⟩:=rV hv.1;have ho:=h1 hc;have hn:0<b.n:=by
   rcases Nat.eq_zero_or_pos b.n with h0 |h0
   ·rw[h0,Nat.zero_mul] at hl;omega
   ·exact h0
  obtain⟨g,hg,_⟩:=hx hn;show(Instr.fieldAt s (.pointer ((V.γ b.id b.ver).a.map (·.add o))) f).run P w= .ok (.pointer ((V.γ b.id b.ver).a.map (·.add (o+off)))) w;rw[hg];simp only[Option.map_some,mL,Df hf,Nat.zero_add]
 ·rename_i ah y f' e;simp only[A.mk.injEq,Prod.mk.injEq] at e;obtain⟨rfl,rfl,rfl⟩:=e;refine⟨_,h.2,fun hc=> ?_⟩;obtain⟨ad,rfl⟩:=h.1 hc;exact Df hf
 ·cases h
theorem Ea {P:Program} {t:TypeId} {ag:Option Nat} {cs:List Value} {off:Nat} {v:Value} (h:cH P t=some ag)
  (hv:match ag with |none=>cs[off]? =some v |some k=>v= .agg ⟨(cs.drop off).take k⟩/\off+k<=cs.length):(part t ⟨cs⟩ off).run P w= .ok v w:=by
 cases ag with
 |none=>
  simp only[part,Sem.run_bind,G7 h,Result.andThen_ok,Bool.false_eq_true,if_false];dsimp only at hv;have:(⟨cs⟩:Array Value)[off]? =some v:=by rw[<- hv,<- Array.getElem?_toList]
  rw[this];rfl
 |some k=>
  obtain⟨rfl,hl⟩:=hv;simp only[part,Sem.run_bind,(Ay h).1,(Ay h).2,Result.andThen_ok,if_true,Sem.run_pure];have:(Array.mk cs).extract off (off+k)=⟨(cs.drop off).take k⟩:=by
   apply Array.ext'
   simp [List.extract,Nat.add_sub_cancel_left]
  rw[this]
theorem Ol {s:TypeId} {x:SV} {f off sz:Nat} {ag:Option Nat} {cs:List SV} {r:SV} (hf:bf P s f=some (off,ag,sz)) (hx:lB x=some cs) (h:sb cs off ag=some r):
  (Instr.field s (den V x) f).run P w= .ok (den V r) w:=by
 obtain⟨fs,y,hs,hy,rfl,hg,_,_⟩:=Es hf;have hd:den V x= .agg ⟨cs.map (aJ V)⟩:=He hx;simp only[Instr.field,Sem.run_bind,run_underlying hs,Result.andThen_ok,hy,hd,asAgg,Sem.run_pure];refine Ea hg ?_;have ht:=H8 (V:=V) h;cases ag with
 |none=>
  exact ht
 |some k=>exact⟨ht.1,by rw[List.length_map];exact ht.2⟩
end
section
variable {C:Ctx} {n:Nat} {st:LS} {a:Act} {V:Vl} {D:Nat->Nat} {w:World} {P:Program} {p:bj} {K:SV->Prop} {c:Bool}
theorem iR {t e:TypeId} (h:eo P t=some e):P.underlying t=some (.slice e):=by
 unfold eo at h;split at h
 ·rename_i e' h';cases h;exact h'
 ·cases h
theorem De {t e:TypeId} {ad:Addr} {len cp:Nat} {k:IntKind} {i:Int} (h:eo P t=some e) (h0:0<aM P e) (hi:0<=i) (hl:i<len):
  (Instr.indexAt t (.slice (some ad) len cp) (.int k i)).run P w= .ok (.pointer (some (ad.add (i.toNat * aM P e)))) w:=by
 simp [Instr.indexAt,asIntOf,run_underlying (iR h),hi,hl,vP h0]
theorem Pe (hS:Sat C n st a V D w) {t e:TypeId} {x i:SV} (he:eo P t=some e) (h:pg (.mk (k:=(P,U c,K)) (st,e,x,i))):
  ∃r,K r/\Yl c P (Instr.indexAt t (den V x) (den V i)) w (den V r):=by
 unfold pg at h;split at h
 ·rename_i ah e' x m cp k j q;simp only[A.mk.injEq,Prod.mk.injEq] at q;obtain⟨rfl,rfl,rfl,rfl⟩:=q;refine⟨_,h.2.2,fun hc=> ?_⟩;obtain⟨h1,h2,h3⟩:=h.2.1 hc;cases x with
  |none=>exact absurd rfl h3
  |some ad=>exact De he h.1 h1 h2
 ·rename_i ah e' k nn cp kk j q;simp only[A.mk.injEq,Prod.mk.injEq] at q;obtain⟨rfl,rfl,rfl,rfl⟩:=q;refine⟨_,h.2.2,fun hc=> ?_⟩;obtain⟨h1,h2⟩:=h.2.1 hc;have:=De (P:=P) (w:=w) (ad:=⟨V.β k,0,none⟩) (cp:=cp) (k:=kk) he h.1 h1 h2;show(Instr.indexAt t (.slice (some ⟨V.β k,0,none⟩) nn cp) (.int kk j)).run P w= .ok (.pointer (some ⟨V.β k,j.toNat * aM P e,none⟩)) w;rw[this,Addr.add_lit,Nat.zero_add]
 ·rename_i ah e' k v kk j q;simp only[A.mk.injEq,Prod.mk.injEq] at q;obtain⟨rfl,rfl,rfl,rfl⟩:=q;obtain⟨b,hb,h0,h1,h2⟩:=ax h;refine⟨_,h2,fun hc=> ?_⟩;obtain⟨hv,rfl,rfl⟩:=qm hS hb;obtain⟨i0,i1,_⟩:=h1 hc;obtain⟨hn,hl,hx⟩:=rV hv.1;obtain⟨g,hg,_⟩:=hx (by omega);show(Instr.indexAt t (V.γ b.id b.ver).val (.int kk j)).run P w= .ok (.pointer ((V.γ b.id b.ver).a.map (·.add (j.toNat * aM P e)))) w;unfold Hd.val;rw[hg,hn];exact De he h0 i0 i1
 ·cases h
theorem byte_at (s:ByteArray) (i:Nat) (h:i<(tl s).length):s[i]? =some ((tl s).getD i 0):=by
 have hs:i<s.size:=by rw[<- vW];exact h
 have e1:s[i]? =some s[i]:=getElem?_pos s i hs;rw[e1];rw[List.getD_eq_getElem?_getD,List.getElem?_eq_getElem h];rfl
theorem Qn {t:TypeId} {x i:SV} (h:sW (.mk (k:=(P,t,U c,K)) (x,i))):∃r,K r/\Yl c P (Instr.index t (den V x) (den V i)) w (den V r):=by
 unfold sW at h;split at h
 ·rename_i s k j q;simp only[A.mk.injEq,Prod.mk.injEq] at q;obtain⟨rfl,rfl⟩:=q;refine⟨_,h.2.2,fun hc=> ?_⟩;obtain⟨h1,h2⟩:=h.2.1 hc;have hb:=byte_at s j.toNat (by omega);simp only[dm,Instr.index,asIntOf,Sem.run_bind,Sem.run_pure,Result.andThen_ok,run_underlying h.1,ak h1,hb]
 ·cases h
theorem G6 {o:Option SV} {d l:Int} (h:mE o d=some l):(o=none/\l=d)\/∃k,o=some (.v (.int k l)):=by
 unfold mE at h;split at h
 ·cases h;exact .inl ⟨rfl,rfl⟩
 ·cases h;exact .inr ⟨_,rfl⟩
 ·cases h
theorem By {k:IntKind} {i:Int} {y:Nat} {code:BoundsCode} (h0:0<=i) (h1:i<=y):(Instr.sliceBound (.int k i) y code).run P w= .ok i.toNat w:=by
 simp [Instr.sliceBound,asIntOf,h0,h1]
theorem EL {isS:Bool} {len cp:Nat} {lo hi:Option SV} {l h:Int} (hl:mE lo 0=some l) (hh:mE hi len=some h) (h0:0<=l) (h1:l<=h) (h2:h<=cp):
  (Instr.sliceBounds isS len cp (lo.map (den V)) (hi.map (den V)) none).run P w= .ok (l.toNat,h.toNat,cp) w:=by
 have eh:(h.toNat:Int)=h:=Int.toNat_of_nonneg (by omega);rcases G6 hl with ⟨rfl,rfl⟩ |⟨k,rfl⟩<;>rcases G6 hh with ⟨rfl,rfl⟩ |⟨k',rfl⟩
 ·simp [Instr.sliceBounds]
 ·simp only[Instr.sliceBounds,Option.map_none,Option.map_some,Sem.run_bind,Sem.run_pure,Result.andThen_ok,dm];rw[By (by omega) h2];rfl
 ·simp only[Instr.sliceBounds,Option.map_none,Option.map_some,Sem.run_bind,Sem.run_pure,Result.andThen_ok,dm];rw[By h0 h1];simp
 ·simp only[Instr.sliceBounds,Option.map_none,Option.map_some,Sem.run_bind,Sem.run_pure,Result.andThen_ok,dm];rw[By (by omega) h2];simp only[Result.andThen_ok];rw[By h0 (by omega)];rfl
theorem PD (s:ByteArray) (l h:Nat):s.extract l h=bs (((tl s).take h).drop l):=by
 rw[<- eY (s.extract l h)];congr 1
 show(s.extract l h).data.toList=_;rw[Lib.extract_data,List.drop_take];rfl
theorem Qi (hS:Sat C n st a V D w) {t:TypeId} {x:SV} {lo hi:Option SV} (h:pB (.mk (k:=(P,t,U c,K)) (st,x,lo,hi))):
  ∃r,K r/\Yl c P (Instr.sliceAt t (den V x) (lo.map (den V)) (hi.map (den V)) none) w (den V r):=by
 unfold pB at h;split at h
 ·rename_i s lo hi q;simp only[A.mk.injEq,Prod.mk.injEq] at q;obtain⟨rfl,rfl,rfl,rfl⟩:=q;obtain⟨ht,h⟩:=h;obtain⟨l,hl,h⟩:=ax h;obtain⟨r,hr,h⟩:=ax h;simp only[FH] at h;refine⟨_,h.2,fun hc=> ?_⟩;obtain⟨h0,h1,h2⟩:=h.1 hc;rw[vW] at hr h2;rw[dm,run_sliceAt_string (h:=ht)];simp only[Instr.slice,Sem.run_bind,run_underlying ht,Result.andThen_ok,Option.isSome_none,Bool.false_eq_true,if_false,Sem.run_pure];rw[EL hl hr h0 h1 h2];simp only[Result.andThen_ok,PD];rfl
 ·rename_i x m cp lo hi q;simp only[A.mk.injEq,Prod.mk.injEq] at q;obtain⟨rfl,rfl,rfl,rfl⟩:=q;obtain⟨l,hl,h⟩:=ax h;obtain⟨r,hr,h⟩:=ax h;obtain⟨e,he,hz,h⟩:=ax h;refine⟨_,h.2,fun hc=> ?_⟩;obtain⟨h0,h1,h2⟩:=h.1 hc;have hu:=iR he;have Ad:P.underlying t=some (.slice (P.elem t)):=by
   rw[hu];unfold Program.elem;rw[hu]
  rw[dm,run_sliceAt_slice (h:=Ad)];simp only[Instr.slice,Sem.run_bind,run_underlying hu,Result.andThen_ok];rw[EL hl hr h0 h1 h2];simp only[Result.andThen_ok,vP hz,Sem.run_pure];rfl
 ·rename_i ah k v lo q;simp only[A.mk.injEq,Prod.mk.injEq] at q;obtain⟨rfl,rfl,rfl,rfl⟩:=q;obtain⟨l,hl,h⟩:=ax h;obtain⟨b,hb,h⟩:=ax h;obtain⟨e,he,hz,h⟩:=ax h;obtain⟨hv,jQ,hbv⟩:=qm hS hb;refine⟨_,h.2,fun hc=> ?_⟩;obtain⟨h0,h1⟩:=h.1 hc;subst jQ;subst hbv;obtain⟨hn,_,_⟩:=rV hv.1;have zB:b.n<=(V.γ b.id b.ver).c:=by
   rcases hv.1.2 with ⟨hq,h2⟩ |⟨g,cap,cur,hq,_,_,h2,_⟩
   ·omega
   ·simp only[Hd.val,Value.slice.injEq] at hq;omega
  have hu:=iR he;have Ad:P.underlying t=some (.slice (P.elem t)):=by
   rw[hu];unfold Program.elem;rw[hu]
  show(Instr.sliceAt t (.slice (V.γ b.id b.ver).a (V.γ b.id b.ver).n (V.γ b.id b.ver).c) (lo.map (den V)) (Option.map (den V) none) none).run P w= .ok (gE (V.γ b.id b.ver).a (V.γ b.id b.ver).c l.toNat (V.γ b.id b.ver).n (aM P e)) w;rw[hn,run_sliceAt_slice (h:=Ad)];simp only[Instr.slice,Sem.run_bind,run_underlying hu,Result.andThen_ok];rw[EL (hi:=none) hl rfl h0 h1 (by omega)];simp only[Result.andThen_ok,vP hz,Sem.run_pure];rfl
 ·cases h
theorem xV {t:TypeId} {ad:Addr} {v:Value} (h:(loadVar t ad).run P w= .ok v w):(Instr.loadAt t (.pointer (some ad))).run P w= .ok v w:=by
 simp [Instr.loadAt,Instr.sureAddr,h]
theorem Lo (hS:Sat C n st a V D w) {k:Nat} {b:Bx} (h:dz st.bx k=some b) (dE:b.ty<gv) (j:Nat):w.cell? ⟨V.β k,j,none⟩=(b.cs.map (aJ V))[j]? :=by
 obtain⟨rfl,hm⟩:=nN h;obtain⟨o,this,ho⟩:=(hS.heap.bx b hm).1;unfold gP at ho;rw[ak dE] at ho;subst ho;simp only[World.cell?,this,Option.isSome_none,Bool.false_eq_true,if_false];rw[<- Array.getElem?_toList]
theorem Hh (hS:Sat C n st a V D w) {t:TypeId} {x:SV} (h:lM (.mk (k:=(P,t,U c,K)) (st,x))):∃r,K r/\Yl c P (Instr.loadAt t (den V x)) w (den V r):=by
 unfold lM at h;split at h
 ·rename_i ah k o q;simp only[A.mk.injEq,Prod.mk.injEq] at q;obtain⟨rfl,rfl⟩:=q;obtain⟨b,hb,dE,h⟩:=ax h;obtain⟨ag,eV,h⟩:=ax h;obtain⟨r,hr,h⟩:=ax h;refine⟨r,h,fun _=>xV ?_⟩;have ht:=H8 (V:=V) hr;cases ag with
  |none=>
   refine vm (cs:=[den V r]) eV (fun j u hu=> ?_) rfl;cases j with
   |zero=>rw[mL,Lo hS hb dE];simp only[List.getElem?_cons_zero] at hu;rw[<- hu];exact ht
   |succ j=>simp at hu
  |some k' =>
   refine vm (cs:=((b.cs.map (aJ V)).drop o).take k') eV (fun j u hu=> ?_) ⟨?_,ht.1⟩
   ·rw[mL,Lo hS hb dE];rw[List.getElem?_take] at hu;split at hu
    ·rw[List.getElem?_drop] at hu;exact hu
    ·cases hu
   ·have:=ht.2;simp only[List.length_take,gI,List.length_map];omega
 ·rename_i ah k v o q;simp only[A.mk.injEq,Prod.mk.injEq] at q;obtain⟨rfl,rfl⟩:=q;obtain⟨b,hb,h⟩:=ax h;obtain⟨ag,eV,h⟩:=ax h;obtain⟨hv,rfl,rfl⟩:=qm hS hb;obtain⟨_,hl,hx⟩:=rV hv.1;have key:o<b.xs.length->∃g,den V (.vp b.id b.ver o)= .pointer (some ⟨g,o,none⟩)/\∀j u,b.xs[j]? =some u->w.cell? ⟨g,j,none⟩=some u:=by
   intro ho;have hn:0<b.n:=by
    rcases Nat.eq_zero_or_pos b.n with h0 |h0
    ·rw[h0,Nat.zero_mul] at hl;omega
    ·exact h0
   obtain⟨g,hg,hc⟩:=hx hn;refine⟨g,?_,hc⟩;show Value.pointer ((V.γ b.id b.ver).a.map (·.add o))=_;rw[hg];simp only[Option.map_some,AB]
  cases ag with
  |none=>
   simp only[uk] at h;refine⟨_,h.2,fun hc=> ?_⟩;have ho:=h.1 hc;obtain⟨g,hg,b8⟩:=key ho;rw[hg,dm];refine xV (vm (cs:=[b.xs.getD o undef]) eV (fun j u hu=> ?_) rfl);cases j with
   |zero=>
    simp only[List.getElem?_cons_zero,cv] at hu;rw[mL];refine b8 _ _ ?_;rw[<- hu,Nat.add_zero,List.getD_eq_getElem?_getD,List.getElem?_eq_getElem ho];rfl
   |succ j=>simp at hu
  |some k' =>
   simp only[uk] at h;obtain⟨hk,h⟩:=h;refine⟨_,h.2,fun hc=> ?_⟩;have ho:=h.1 hc;obtain⟨g,hg,b8⟩:=key (by omega);rw[hg,dm];refine xV (vm (cs:=(b.xs.drop o).take k') eV (fun j u hu=> ?_) ⟨by simp only[List.length_take,gI];omega,rfl⟩);rw[mL];refine b8 _ _ ?_;rw[List.getElem?_take] at hu;split at hu
   ·rw[List.getElem?_drop] at hu;exact hu
   ·cases hu
 ·rename_i ah x q;simp only[A.mk.injEq,Prod.mk.injEq] at q;obtain⟨rfl,rfl⟩:=q;obtain⟨ag,eV,h⟩:=ax h;cases ag with
  |none=>
   simp only[uJ] at h;obtain⟨v,h1,h2⟩:=h;refine⟨_,h2,fun hc=> ?_⟩;obtain⟨ad,rfl,b8⟩:=Ms hS.mle (h1 hc);exact xV (vm eV b8 rfl)
  |some k' =>
   simp only[uJ] at h;obtain⟨cs,h1,h2⟩:=h;refine⟨_,h2,fun hc=> ?_⟩;obtain⟨hr,hlen⟩:=h1 hc;obtain⟨ad,rfl,b8⟩:=Ms hS.mle hr;exact xV (vm eV b8 ⟨hlen,rfl⟩)
 ·cases h
end
open Classical in
noncomputable def j9:List (Value×Value)->Value->Value->List (Value×Value)
 |[],s,x=>[(s,x)]
 |(a,v)::r,s,x=>if a=s then(a,x)::r else(a,v)::j9 r s x
open Classical in
noncomputable def ki:List (Value×Value)->Value->Option (Nat×Value)
 |[],_=>none
 |(a,v)::r,s=>if a=s then some (0,v) else(ki r s).map fun x=>(x.1+1,x.2)
theorem IP (a v:Value) (l:List (Value×Value)):iH ((a,v)::l)=a::v::iH l:=rfl
theorem DQ (s:Value):∀(l:List (Value×Value)),gN (iH l) s=(ki l s).map (·.2)
 |[]=>rfl
 |(a,v)::l=>by
  rw[IP,gN,ki];by_cases h:a=s
  ·rw[ak h,ak h];rfl
  ·rw[ae h,ae h,DQ s l];cases ki l s<;>rfl
theorem Jq (s x:Value):∀(l:List (Value×Value)),pj (iH l) s x=iH (j9 l s x)
 |[]=>rfl
 |(a,v)::l=>by
  rw[IP,pj,j9];by_cases h:a=s
  ·rw[ak h,ak h];rfl
  ·rw[ae h,ae h,Jq s x l];rfl
theorem ET (s:Value):∀(es:List MapEntry) (i:Nat),s6 es s i=(ki (es.map fun e=>(e.key,e.val)) s).map fun x=>(i+x.1,x.2)
 |[],_=>rfl
 |e::es,i=>by
  simp only[s6,aG,ki];by_cases h:e.key=s
  ·rw[ak h,ak h];rfl
  ·rw[ae h,ae h,ET s es (i+1)];cases ki (es.map fun e=>(e.key,e.val)) s with
   |none=>rfl
   |some x=>simp only[Option.map_some];rw[show i+1+x.1=i+(x.1+1) by omega]
theorem KZ {g:Nat}:∀{l:List (Value×Value)} {s:Value} {y:Nat×Value},(∀x∈l,dN g x.1/\gz g x.2)->ki l s=some y->gz g y.2
 |[],_,_,_,h=>by cases h
 |(a,v)::l,s,y,hl,h=>by
  simp only[ki] at h;split at h
  ·cases h;exact(hl (a,v) (bN ..)).2
  ·obtain⟨y',h',rfl⟩:=Option.map_eq_some_iff.1 h;exact KZ (l:=l) (s:=s) (y:=y') (fun x hx=>hl x (bw _ hx)) h'
theorem Kz {g:Nat} {s x:Value} (hs:dN g s) (hx:gz g x):∀{l:List (Value×Value)},(∀y∈l,dN g y.1/\gz g y.2)->∀y∈j9 l s x,dN g y.1/\gz g y.2
 |[],_,y,hy=>by
  rw[List.mem_singleton.1 hy];exact⟨hs,hx⟩
 |(a,v)::l,hl,y,hy=>by
  rw[j9] at hy;have ha:=hl (a,v) (bN ..);have hr:=fun z hz=>hl z (bw _ hz)
  split at hy
  ·rcases List.mem_cons.1 hy with rfl |hy
   ·exact⟨ha.1,hx⟩
   ·exact hr y hy
  ·rcases List.mem_cons.1 hy with rfl |hy
   ·exact ha
   ·exact Kz hs hx hr y hy
theorem QG {P:Program} {t:TypeId} (h:(dU P t).2=none):(dU P t).1≠1000002:=by
 unfold dU at h ⊢;split<;>rename_i hu
 ·rw[hu] at h;simp only at h ⊢;split<;>rename_i hk he
  ·simp
  ·exfalso;revert h;split
   ·simp_all
   ·simp
   ·simp_all
   ·simp_all
  ·simp
  ·simp
 ·simp
theorem P0 {g:Nat} {v:Value} (h:gz g v) (hg:g≠1000002):∃b,v= .bool b:=by
 unfold gz at h;rwa [ae hg] at h
theorem SH {P:Program} {w:World} {g:Nat} {v:Value} (h:dN g v):(Instr.keyThatStays v v).run P w= .ok v w:=by
 have e:Instr.sameBits 10000 v v=true:=by
  unfold dN at h;split at h
  ·obtain⟨s,n,rfl⟩:=h;have hs:(s==s)=true:=(MapKept.bytes_beq s s).2 rfl;simp [Instr.sameBits,hs]
  ·obtain⟨s,rfl⟩:=h;have hs:(s==s)=true:=(MapKept.bytes_beq s s).2 rfl;simp [Instr.sameBits,hs]
 unfold Instr.keyThatStays;rw[e];rfl
def zr (c:Bool) (z:Value):Option Value->Value
 |some v=>if c=true then .tuple #[v,.bool true] else v
 |none=>if c=true then .tuple #[z,.bool false] else z
section
variable {P:Program} {w:World} {t:TypeId} {r fF:Nat} {es:Array MapEntry} {l:List (Value×Value)}
theorem KX {g:Nat} (cJ:es.toList.map (fun e=>(e.key,e.val))=l) (hk:∀x∈l,dN g x.1/\gz g x.2):∀x∈es.toList,dN g x.key:=fun x hx=>by
 have:(x.key,x.val)∈l:=by rw[<- cJ];exact List.mem_map.2 ⟨x,hx,rfl⟩
 exact(hk _ this).1
theorem HR (ht:pd P t) (hb:w.heap[r]? =some (.map es fF)) (cJ:es.toList.map (fun e=>(e.key,e.val))=l) (hk:∀x∈l,dN (dU P t).1 x.1/\gz (dU P t).1 x.2) {key:Value} (py:dN (dU P t).1 key) (c:Bool):
  (Instr.lookup t (.map (some r)) key c).run P w= .ok (zr c ((dU P t).2.getD (.bool false)) (gN (iH l) key)) w:=by
 obtain⟨_,k,e,h1,h2,h3,h4⟩:=ht;have hc:=h2 w key es.isEmpty 9998 py;have hf:=h3 w key es.toList py (KX cJ hk);rw[ET,cJ] at hf;have hz:=h4 w;rw[DQ];cases hx:ki l key with
 |none=>
  rw[hx] at hf;cases c<;>simp [Instr.lookup,run_underlying h1,MapKept.run_getObj_map hb,hc,hf,hz,Result.andThen,zr]
 |some x=>
  rw[hx] at hf;cases c<;>simp [Instr.lookup,run_underlying h1,MapKept.run_getObj_map hb,hc,hf,Result.andThen,zr]
theorem Jp {s x:Value}:∀{l:List (Value×Value)},ki l s=none->j9 l s x=l++[(s,x)]
 |[],_=>rfl
 |(a,v)::l,h=>by
  simp only[ki] at h;split at h
  ·cases h
  ·rename_i hs;rw[j9,ae hs,Jp (Option.map_eq_none_iff.1 h)];rfl
theorem Jo {s x:Value}:∀{l:List (Value×Value)} {y:Nat×Value},ki l s=some y->∃h:y.1<l.length,l[y.1].1=s/\j9 l s x=l.set y.1 (s,x)
 |[],_,h=>by cases h
 |(a,v)::l,y,h=>by
  simp only[ki] at h;split at h
  ·rename_i hs;cases h;exact⟨Nat.zero_lt_succ _,hs,by rw[j9,ak hs,hs];rfl⟩
  ·rename_i hs;obtain⟨y',h',rfl⟩:=Option.map_eq_some_iff.1 h;obtain⟨h1,h2,h3⟩:=Jo (x:=x) h';exact⟨Nat.succ_lt_succ h1,h2,by rw[j9,ae hs,h3];rfl⟩
theorem OV (ht:pd P t) (hb:w.heap[r]? =some (.map es fF)) (cJ:es.toList.map (fun e=>(e.key,e.val))=l) (hk:∀x∈l,dN (dU P t).1 x.1/\gz (dU P t).1 x.2) {key:Value} (py:dN (dU P t).1 key) (v:Value):
  ∃tm uD,(Instr.mapUpdate t (.map (some r)) key v).run P w= .ok () {w with heap:=w.heap.setIfInBounds r (.map tm uD)}/\
   tm.toList.map (fun e=>(e.key,e.val))=j9 l key v:=by
 obtain⟨_,k,e,h1,h2,h3,h4⟩:=ht;have hc:=h2 w key false 9998 py;have hf:=h3 w key es.toList py (KX cJ hk);rw[ET,cJ] at hf;cases hx:ki l key with
 |none=>
  rw[hx] at hf;refine⟨es.push {key:=key,val:=v,born:=fF},fF+1,?_,?_⟩
  ·simp [Instr.mapUpdate,run_underlying h1,MapKept.run_getObj_map hb,hc,hf,MapKept.run_setObj_map _ hb,Result.andThen]
  ·rw[Jp hx,Array.toList_push,List.map_append,cJ];rfl
 |some y=>
  rw[hx] at hf;obtain⟨hy,hky,hput⟩:=Jo (x:=v) hx;have hlen:es.toList.length=l.length:=by have:=congrArg List.length cJ;simpa using this
  have hj:y.1<es.size:=by rw[<- Array.length_toList,hlen];exact hy
  have Zn:(es[y.1]).key=key:=by
   have:=congrArg (·[y.1]?) cJ;simp only[List.getElem?_map,Array.getElem?_toList,Array.getElem?_eq_getElem hj,List.getElem?_eq_getElem hy,Option.map_some,cv] at this;rw[<- hky,<- this]
  refine⟨es.modify y.1 fun e=>{e with key:=key,val:=v},fF,?_,?_⟩
  ·simp [Instr.mapUpdate,run_underlying h1,MapKept.run_getObj_map hb,hc,hf,MapKept.run_setObj_map _ hb,Result.andThen,hj,Zn,SH py]
  ·rw[hput];apply List.ext_getElem?
   intro q;have hq:=congrArg (·[q]?) cJ;simp only[List.getElem?_map,Array.getElem?_toList] at hq ⊢;rw[List.getElem?_set,Array.getElem?_modify];by_cases e:y.1=q
   ·subst e;simp [hj,hy]
   ·simp only[ae e];exact hq
end
/-! Which maps are so. -/
theorem Hq {s:ByteArray}:∀(es:List MapEntry) (i:Nat),(∀x∈es,∃a,x.key= .string a)->Instr.findNow .string (.string s) es i=some (s6 es (.string s) i)
 |[],_,_=>rfl
 |e::es,i,h=>by
  obtain⟨a,ha⟩:=h e (bN ..);have ih:=Hq (s:=s) es (i+1) fun x hx=>h x (bw _ hx)
  simp only[Instr.findNow,ha,Instr.sameNow,s6];by_cases hs:s=a
  ·have:(s==a)=true:=(MapKept.bytes_beq s a).2 hs;rw[this,ak (by rw[ha,hs])]
  ·have:(s==a)=false:=by
    cases hb:(s==a) with
    |false=>rfl
    |true=>exact absurd ((MapKept.bytes_beq s a).1 hb) hs
   rw[this,ae (fun h=>hs (Value.string.inj (ha.symm.trans h)).symm)];exact ih
theorem En {g:Nat} {v:Value} (hg:g≠1000001):dN g v↔∃s,v= .string s:=by unfold dN;rw[ae hg]
theorem Iz {P:Program} {t k e:TypeId} (h1:P.underlying t=some (.map k e)) (h2:P.underlying k=some .string) (hg:gv<=(dU P t).1/\(dU P t).1≠1000001)
  (hz:∀w,(zeroValue e).run P w= .ok ((dU P t).2.getD (.bool false)) w):pd P t:=by
 refine⟨hg.1,k,e,h1,fun w key em n hk=> ?_,fun w key es hk cJ=> ?_,hz⟩
 ·obtain⟨s,rfl⟩:=(En hg.2).1 hk;exact MapKept.run_checkKey (P:=P) (w:=w) (kt:=k) h2 (by simp [MapKept.IsKey]) em (n+1)
 ·obtain⟨s,rfl⟩:=(En hg.2).1 hk;exact MapKept.run_findKey (P:=P) (w:=w) (kt:=k) h2 (Hq es 0 fun x hx=>(En hg.2).1 (cJ x hx))
theorem DF {P:Program} {e:TypeId} {i:TypeInfo} {z:Value} (h1:P.info? e=some i) (h2:i.zero=some z) (w:World):(zeroValue e).run P w= .ok z w:=by simp [zeroValue,typeInfo,h1,h2]
section
variable {P:Program} {C:Ctx} {n:Nat} {st:LS} {a:Act} {V:Vl} {D:Nat->Nat} {w:World} {K:SV->Prop}
theorem AS {V:Vl}:∀{cs:List SV} {l:List Value},jU cs=some l->cs.map (aJ V)=l
 |[],l,h=>by simp only[jU,cv] at h;subst h;rfl
 |s::r,l,h=>by
  simp only[jU,Option.bind_eq_some_iff,Option.map_eq_some_iff] at h;obtain⟨x,hx,l',hl,rfl⟩:=h;simp only[aG];rw[AS hl];cases s<;>simp only[plain,cv] at hx<;>first |(subst hx;rfl) |cases hx
theorem AT {V:Vl} {s:SV} {v:Value} (h:lF s=some v):den V s=v:=by
 cases s with
 |v x=>cases h;rfl
 |agg cs=>
  obtain⟨l,hl,rfl⟩:=Option.map_eq_some_iff.1 h;show Value.agg ⟨_⟩=_;rw[AS hl]
 |box k o=>cases h
 |vec k u=>cases h
 |vp k u o=>cases h
 |vo k u o z=>cases h
 |mp k=>cases h
 |mv f k o=>cases h
 |sl k n c=>cases h
 |cl f ks=>cases h
 |tup l=>cases h
theorem LJ (hS:Sat C n st a V D w) {k:Nat} {b:Bx} (hb:dz st.bx k=some b) (dE:gv<=b.ty):
  ∃es fF l,w.heap[V.β k]? =some (.map es fF)/\b.cs.map (aJ V)=iH l/\es.toList.map (fun e=>(e.key,e.val))=l/\∀x∈l,dN b.ty x.1/\gz b.ty x.2:=by
 obtain⟨rfl,hm⟩:=nN hb;obtain⟨o,ho,jL⟩:=(hS.heap.bx b hm).1;unfold gP at jL;rw[ae (Nat.not_lt.2 dE)] at jL;obtain⟨es,fF,l,rfl,h1,h2,h3⟩:=jL;exact⟨es,fF,l,ho,h1,h2,h3⟩
theorem HM {b:Nat} {l' :List (Value×Value)} {key:Value} {t:TypeId} {c:Bool} (h4:∀x∈l',dN (dU P t).1 x.1/\gz (dU P t).1 x.2)
  (bO:(Instr.lookup t (.map (some b)) key c).run P w= .ok (zr c ((dU P t).2.getD (.bool false)) (gN (iH l') key)) w) (hK:oa (.mk (k:=(iH l',key,K)) (c,(dU P t).2))):
  ∃r,K r/\(Instr.lookup t (.map (some b)) key c).run P w= .ok (den V r) w:=by
 unfold oa at hK;split at hK
 ·rename_i q;simp only[A.mk.injEq,Prod.mk.injEq] at q;obtain⟨rfl,hz⟩:=q;refine⟨_,hK,?_⟩;rw[hz] at bO;rw[bO];rw[DQ];cases hx:ki l' key with
  |none=>rfl
  |some y=>
   obtain⟨bv,hbv⟩:=P0 (KZ h4 hx) (QG hz);simp only[Option.map_some,zr,hbv];rfl
 ·rename_i z q;simp only[A.mk.injEq,Prod.mk.injEq] at q;obtain⟨rfl,hz⟩:=q;rw[hz] at bO;cases hf:gN (iH l') key with
  |none=>
   rw[hf] at bO;exact⟨_,hK.2 hf,bO⟩
  |some v=>
   rw[hf] at bO;exact⟨_,hK.1 v hf,bO⟩
 ·rename_i z q;simp only[A.mk.injEq,Prod.mk.injEq] at q;obtain⟨rfl,hz⟩:=q;rw[hz] at bO;cases hf:gN (iH l') key with
  |none=>
   rw[hf] at bO;exact⟨_,hK.2 hf,bO⟩
  |some v=>
   rw[hf] at bO;exact⟨_,hK.1 v hf,bO⟩
 ·cases hK
theorem V5 {m:Mem} (hle:m.le ⟨w,D⟩) {g:Nat} {y:Value} {l:List Value} (h:nI m g y l):
  ∃b es fF l',y= .map (some b)/\w.heap[b]? =some (.map es fF)/\l=iH l' /\es.toList.map (fun e=>(e.key,e.val))=l' /\∀x∈l',dN g x.1/\gz g x.2:=by
 obtain⟨b,es,fF,ps,h1,h2,h3,h4,h5,h6⟩:=h;have hk:=((hle b).2 h3).2;rw[h2] at hk;exact⟨b,es,fF,ps,h1,hk,h4,h5,h6⟩
theorem Pb (hS:Sat C n st a V D w) {t:TypeId} {c:Bool} {x i:SV} (h:pf (.mk (k:=(P,t,c,K)) (st,x,lF i))):∃r,K r/\(Instr.lookup t (den V x) (den V i) c).run P w= .ok (den V r) w:=by
 unfold pf at h;split at h
 ·rename_i ah k key q;simp only[A.mk.injEq,Prod.mk.injEq] at q;obtain⟨rfl,rfl,py⟩:=q;obtain⟨b,hb,dE,ht,hk,h⟩:=ax h;obtain⟨l,hl,hK⟩:=ax h;have dE:=beq_iff_eq.1 dE;obtain⟨es,fF,l',h1,h2,h3,h4⟩:=LJ hS hb (by rw[dE];exact ht.1);rw[AS hl] at h2;rw[dE] at h4 hk;subst h2;have bO:=HR (P:=P) (w:=w) ht h1 h3 h4 hk c;rw[AT py];exact HM h4 bO hK
 ·rename_i ah y key q;simp only[A.mk.injEq,Prod.mk.injEq] at q;obtain⟨rfl,rfl,py⟩:=q;obtain⟨ht,hk,l,hl,hK⟩:=h;obtain⟨b,es,fF,l',rfl,h1,rfl,h3,h4⟩:=V5 hS.mle hl;have bO:=HR (P:=P) (w:=w) ht h1 h3 h4 hk c;rw[AT py];exact HM h4 bO hK
 ·cases h
end
section
variable {C:Ctx} {n:Nat} {st:LS} {a:Act} {V:Vl} {D:Nat->Nat} {w:World} {P:Program} {p:bj} {K:SV->Prop} {c:Bool}
theorem Jh:∀(l cs:List SV) (off:Nat),(iG cs off l).length=cs.length
 |[],_,_=>rfl
 |c::r,cs,off=>by simp only[iG];rw[Jh r];simp
theorem Eo {V:Vl}:∀(l:List SV) (cs:List SV) (off k:Nat),
  (List.zipIdx (l.map (aJ V)) k).foldl (fun(cs:Array Value) (x:Value×Nat)=>cs.setIfInBounds (off+x.2) x.1) ⟨cs.map (aJ V)⟩=⟨(iG cs (off+k) l).map (aJ V)⟩
 |[],_,_,_=>rfl
 |c::r,cs,off,k=>by
  simp only[aG,List.zipIdx_cons,List.foldl_cons,iG];have:(⟨cs.map (aJ V)⟩:Array Value).setIfInBounds (off+k) (aJ V c)=⟨(cs.set (off+k) c).map (aJ V)⟩:=by
   apply Array.ext'
   simp
  rw[this,Eo r (cs.set (off+k) c) off (k+1)];rfl
theorem Jj {α β:Type} (f:α->Sem β) (g:α->β):∀(l:List α),(∀x∈l,∀w,(f x).run P w= .ok (g x) w)->∀w,(l.mapM f).run P w= .ok (l.map g) w
 |[],_,w=>by simp
 |x::r,h,w=>by
  simp only[List.mapM_cons,Sem.run_bind,h x (bN ..),Result.andThen_ok,Jj f g r (fun y hy=>h y (bw _ hy)),Sem.run_pure,aG]
theorem RT {α β:Type} (f:α->Sem β) (g:α->β) (l:Array α) (h:∀x∈l.toList,∀w,(f x).run P w= .ok (g x) w):(l.mapM f).run P w= .ok (l.map g) w:=by
 obtain⟨l⟩:=l;simp only[List.mapM_toArray,Sem.run_map,Jj f g l h,Result.andThen_ok];simp
theorem Dn {t:TypeId} {cs:List SV} (h:cY P t=some cs):∃z,(zeroValue t).run P w= .ok z w/\z.cells=⟨cs.map (aJ V)⟩:=by
 unfold cY at h;simp only[Option.map_eq_some_iff,Option.bind_eq_some_iff] at h;obtain⟨z,⟨i,hi,hz⟩,rfl⟩:=h;refine⟨z,by simp [zeroValue,typeInfo,hi,hz],?_⟩;rw[wv]
theorem Hc (hS:Sat C n st a V D w) (hp:ef st.rho p) (hc:bG st.rho p=true) {t:TypeId} {fs:Array Field} (hf:P.underlying t=some (.struct fs)):
  ∀(parts:List (Nat×Operand)) (cs bh:List SV),rZ P t st p parts cs=some bh->
   Instr.fill (fun i=>(fs.map fun f=>(f.offset,aM P f.type))[i]?) ⟨cs.map (aJ V)⟩ (parts.map fun x=>(x.1,a.eval x.2))=some ⟨bh.map (aJ V)⟩
 |[],cs,bh,h=>by simp only[rZ,cv] at h;subst h;rfl
 |(i,x)::r,cs,bh,h=>by
  simp only[rZ,Option.bind_eq_some_iff] at h;obtain⟨⟨off,ag,sz⟩,jO,l,⟨s,hs,hl⟩,h⟩:=h;split at h
  ·rename_i fe;split at h
   ·rename_i lU;dsimp only at fe lU h;obtain⟨fs',y,td,hy,rfl,_,_,rfl⟩:=Es jO;rw[hf] at td;cases td;have te:=cB hS hp hc hs;have aU:=AE (V:=V) hl;have yV:(a.eval x).cells.size=l.length:=by rw[te,aU];simp
    have gG:(fs.map fun f=>(f.offset,aM P f.type))[i]? =some (y.offset,aM P y.type):=by
     simp [Array.getElem?_map,hy]
    simp only[aG,Instr.fill,gG]
    rw[ae (by
     simp only[yV,List.size_toArray,List.length_map,Bool.or_eq_true,cE,not_or,Decidable.not_not]
     exact⟨by simpa using fe,by omega⟩)]
    have Fv:((a.eval x).cells.zipIdx.foldl (fun(cs:Array Value) (x:Value×Nat)=>cs.setIfInBounds (y.offset+x.2) x.1) ⟨cs.map (aJ V)⟩)=⟨(iG cs y.offset l).map (aJ V)⟩:=by
     rw[te,aU,<- Array.foldl_toList];have:=Eo (V:=V) l cs y.offset 0;simp only[Nat.add_zero] at this;rw[<- this];simp [Array.toList_zipIdx]
    have ih:=Hc hS hp hc hf r _ bh h;rw[<- ih,<- Fv]
   ·cases h
  ·cases h
theorem Qc {fs:Array Field} (h:(fs.toList.all fun x=>(P.info? x.type).isSome)=true):
  (fs.mapM (m:=Sem) fun(f:Field)=>do pure (f.offset,<- sizeOf f.type)).run P w= .ok (fs.map fun f=>(f.offset,aM P f.type)) w:=by
 refine RT _ _ fs (fun x hx w=> ?_);have:=List.all_eq_true.1 h x hx;obtain⟨i,hi⟩:=Option.isSome_iff_exists.1 this;simp [sizeOf,typeInfo,hi,aM]
theorem OS (hS:Sat C n st a V D w) (hp:ef st.rho p) (hc:bG st.rho p=true) {t:TypeId} {parts:Array (Nat×Operand)} {z cs:List SV}
  (hb:fV P t=true) (hz:cY P t=some z) (h:rZ P t st p parts.toList z=some cs):
  (Instr.build t (parts.map fun x=>(x.1,a.eval x.2))).run P w= .ok (.agg ⟨cs.map (aJ V)⟩) w:=by
 unfold fV at hb;split at hb
 ·rename_i fs hf;obtain⟨zv,hzv,hzc⟩:=Dn (V:=V) (w:=w) hz;have wC:=Hc hS hp hc hf parts.toList z cs h;simp only[Instr.build,Sem.run_bind,hzv,Result.andThen_ok,run_underlying hf,Qc hb,hzc];have:(parts.map fun x=>(x.1,a.eval x.2)).toList=parts.toList.map fun x=>(x.1,a.eval x.2):=by simp
  rw[this,wC];simp
 ·cases hb
theorem Kx (hS:Sat C n st a V D w) (hp:ef st.rho p) (hc:bG st.rho p=true) {x:Option Operand} {s:Option SV} (h:uo st p x=some s):x.map a.eval=s.map (den V):=by
 cases x with
 |none=>simp only[uo,cv] at h;subst h;rfl
 |some x=>
  simp only[uo,Option.map_eq_some_iff] at h;obtain⟨s,hs,rfl⟩:=h;simp only[Option.map_some,cB hS hp hc hs]
theorem DN {s r:SV} (h:jd s=some r):den V r=fL V s:=by
 cases s<;>simp only[jd,cv] at h<;>first |(subst h;rfl) |cases h
theorem Pg {x:SV} {i:Nat} (h:qJ (.mk (k:=K) (x,i))):∃r,K r/\(Instr.extract (den V x) i).run P w= .ok (den V r) w:=by
 unfold qJ at h;split at h
 ·rename_i l i' q;simp only[A.mk.injEq,Prod.mk.injEq] at q;obtain⟨rfl,rfl⟩:=q;obtain⟨r,hr,hK⟩:=ax h;obtain⟨s,hs,hr⟩:=rG hr;refine⟨r,hK,?_⟩;have:(⟨l.map (fL V)⟩:Array Value)[i]? =some (den V r):=by
   rw[<- Array.getElem?_toList];simp only[List.getElem?_map,hs,Option.map_some,DN hr]
  rw[Vv];simp only[Instr.extract,this,Sem.run_pure]
 ·rename_i l i' q;simp only[A.mk.injEq,Prod.mk.injEq] at q;obtain⟨rfl,rfl⟩:=q;obtain⟨r,hr,hK⟩:=ax h;simp only[Option.map_eq_some_iff] at hr;obtain⟨v,hv,rfl⟩:=hr;refine⟨_,hK,?_⟩;have:(⟨l⟩:Array Value)[i]? =some v:=by rw[<- Array.getElem?_toList];exact hv
  simp only[dm,Instr.extract,this,Sem.run_pure]
 ·cases h
theorem Pd (hS:Sat C n st a V D w) {t ty:TypeId} {x:SV} (h:oc (.mk (k:=(P,t,K)) (st,x))):∃r,K r/\(Builtin.len_ #[t] ty #[den V x]).run P w= .ok (den V r) w:=by
 unfold oc at h;split at h
 ·rename_i ah s q;simp only[A.mk.injEq,Prod.mk.injEq] at q;obtain⟨rfl,rfl⟩:=q;refine⟨_,h.2,?_⟩;simp [Builtin.len_,run_underlying h.1,dm,goInt,vW]
 ·rename_i ah x m cp q;simp only[A.mk.injEq,Prod.mk.injEq] at q;obtain⟨rfl,rfl⟩:=q;obtain⟨e,he,hK⟩:=ax h;refine⟨_,hK,?_⟩;simp [Builtin.len_,run_underlying (iR he),dm,goInt]
 ·rename_i ah k v q;simp only[A.mk.injEq,Prod.mk.injEq] at q;obtain⟨rfl,rfl⟩:=q;obtain⟨e,he,h⟩:=ax h;obtain⟨b,hb,hK⟩:=ax h;obtain⟨hv,rfl,rfl⟩:=qm hS hb;obtain⟨hn,_,_⟩:=rV hv.1;refine⟨_,hK,?_⟩;show(Builtin.len_ #[t] ty #[(V.γ b.id b.ver).val]).run P w=_;unfold Hd.val;simp [Builtin.len_,run_underlying (iR he),dm,goInt,hn]
 ·rename_i ah k nn c q;simp only[A.mk.injEq,Prod.mk.injEq] at q;obtain⟨rfl,rfl⟩:=q;obtain⟨e,he,hK⟩:=ax h;refine⟨_,hK,?_⟩;show(Builtin.len_ #[t] ty #[.slice (some ⟨V.β k,0,none⟩) nn c]).run P w=_;simp [Builtin.len_,run_underlying (iR he),dm,goInt]
 ·cases h
theorem O8 {ts:Array TypeId} {ty:TypeId} {x y:SV} (h:sE (.mk (k:=K) (x,y))):∃r,K r/\(Builtin.min_ ts ty #[den V x,den V y]).run P w= .ok (den V r) w:=by
 unfold sE at h;split at h
 ·rename_i k i k' j q;simp only[A.mk.injEq,Prod.mk.injEq] at q;obtain⟨rfl,rfl⟩:=q;exact⟨_,h,by simp [Builtin.min_,Builtin.min2,dm]⟩
 ·cases h
theorem O9 {ts:Array TypeId} {ty:TypeId} {x y:SV} (h:sF (.mk (k:=K) (x,y))):∃r,K r/\(Builtin.max_ ts ty #[den V x,den V y]).run P w= .ok (den V r) w:=by
 unfold sF at h;split at h
 ·rename_i k i k' j q;simp only[A.mk.injEq,Prod.mk.injEq] at q;obtain⟨rfl,rfl⟩:=q;exact⟨_,h,by simp [Builtin.max_,Builtin.max2,dm]⟩
 ·cases h
theorem OD {ts:Array TypeId} {ty:TypeId} {x y z u:SV} (h:sj (.mk (k:=K) (x,y,z,u))):∃r,K r/\(Builtin.max_ ts ty #[den V x,den V y,den V z,den V u]).run P w= .ok (den V r) w:=by
 unfold sj at h;split at h
 ·rename_i k a k' b k2 c k3 d q;simp only[A.mk.injEq,Prod.mk.injEq] at q;obtain⟨rfl,rfl,rfl,rfl⟩:=q;exact⟨_,h,by simp [Builtin.max_,Builtin.max2,dm,mx]<;>rfl⟩
 ·cases h
theorem OB (hS:Sat C n st a V D w) (hp:ef st.rho p) {g:Gd} {x y:Operand} (hg:g∈st.rho) (h:qu (.mk (k:=(p,x,y,st,g,K)) (yS x y))):
  ∃r,K r/\(bG st.rho p=true->a.tmps.getD g.slot undef= .bool g.b.val/\(if g.b.val=true then a.eval x else a.eval y)=den V r):=by
 obtain⟨iO,eg,yU⟩:=hS.rho g hg;have b8:bG st.rho p=true->kJ g.p p=true->a.tmps.getD g.slot undef= .bool g.b.val/\bG st.rho g.p=true:=fun hc hs=>by
  have:=A1 hs hc;rw[this,ak rfl] at yU;exact⟨by simp [yU],this⟩
 have side:∀b,g.b.val=b->bG st.rho g.p=true->bG st.rho ((g.i,b)::g.p)=true:=fun b hb hc=>by
  simp only[bG,Br iO,hb,hc,Bool.and_true];cases b<;>simp
 have sU:∀b,ef st.rho ((g.i,b)::g.p):=fun b x hx=>by
  rcases List.mem_cons.1 hx with rfl |hx
  ·exact⟨g,iO⟩
  ·exact eg x hx
 unfold qu at h;split at h
 ·rename_i i s q _;obtain⟨hs,h⟩:=h;obtain⟨r,hr,hK⟩:=ax h;refine⟨r,hK,fun hc=> ?_⟩;obtain⟨h1,h2⟩:=b8 hc hs;exact⟨h1,by simp only[GB.val,if_true];exact cB hS (sU true) (side true rfl h2) hr⟩
 ·rename_i i s q _;obtain⟨hs,h⟩:=h;obtain⟨r,hr,hK⟩:=ax h;refine⟨r,hK,fun hc=> ?_⟩;obtain⟨h1,h2⟩:=b8 hc hs;exact⟨h1,by simp only[GB.val,Bool.false_eq_true,if_false];exact cB hS (sU false) (side false rfl h2) hr⟩
 ·rename_i i s q b md heq;obtain⟨hs,h⟩:=h;obtain⟨sx,hx,h⟩:=ax h;obtain⟨sy,hy,h⟩:=ax h;have GV:bG st.rho p=true->b=true->a.eval x=den V sx:=fun hc hb=>cB hS (sU true) (side true hb (b8 hc hs).2) hx
  have GU:bG st.rho p=true->b=false->a.eval y=den V sy:=fun hc hb=>cB hS (sU false) (side false hb (b8 hc hs).2) hy
  unfold qv at h;split at h
  ·rename_i b' a1 q';simp only[A.mk.injEq,Prod.mk.injEq] at q';obtain⟨rfl,rfl,rfl⟩:=q';refine⟨_,h,fun hc=>⟨(b8 hc hs).1,?_⟩⟩;cases b with
   |true=>simp only[GB.val,if_true,GV hc rfl,dm,Bool.true_and]
   |false=>simp only[GB.val,Bool.false_eq_true,if_false,GU hc rfl,dm,Bool.false_and]
  ·rename_i b' a1 q';simp only[A.mk.injEq,Prod.mk.injEq] at q';obtain⟨rfl,rfl,rfl⟩:=q';refine⟨_,h,fun hc=>⟨(b8 hc hs).1,?_⟩⟩;cases b with
   |true=>simp only[GB.val,if_true,GV hc rfl,dm,Bool.true_or]
   |false=>simp only[GB.val,Bool.false_eq_true,if_false,GU hc rfl,dm,Bool.false_or]
  ·rename_i b' a1 a2 q';simp only[A.mk.injEq,Prod.mk.injEq] at q';obtain⟨rfl,rfl,rfl⟩:=q';refine⟨_,h,fun hc=>⟨(b8 hc hs).1,?_⟩⟩;cases b with
   |true=>simp only[GB.val,if_true,GV hc rfl,dm,cond_true]
   |false=>simp only[GB.val,Bool.false_eq_true,if_false,GU hc rfl,dm,cond_false]
  ·cases h
theorem DJ (hS:Sat C n st a V D w) (hp:ef st.rho p) {o:Oper} {op:Op} (ho:o.op=op) (h:qOp (.mk (k:=(P,op,K)) (st,p))):
  ∃s,K s/\(bG st.rho p=true->(execOp a.eval o).run P w= .ok (.value (den V s)) w):=by
 unfold qOp at h;split at h
 ·rename_i x ah p' q;cases q;obtain⟨s,hs,hK⟩:=ax h;exact⟨s,hK,fun hc=>by simp only[execOp,ho,Sem.run_pure,cB hS hp hc hs]⟩
 ·rename_i x ah p' q;cases q;obtain⟨s,hs,hK⟩:=ax h;exact⟨s,hK,fun hc=>by simp only[execOp,ho,Sem.run_pure,cB hS hp hc hs]⟩
 ·rename_i t x y ah p' q;cases q;obtain⟨g,hg,h'⟩:=ax h;obtain⟨eE,hm⟩:=Sx hg;obtain⟨r,hK,hr⟩:=OB hS hp hm h';refine⟨r,hK,fun hc=> ?_⟩;obtain⟨h1,h2⟩:=hr hc;have he:a.eval (.tmp t)= .bool g.b.val:=by rw[<- eE];exact h1
  simp only[execOp,ho,he,asBool,Sem.run_bind,Sem.run_pure,Result.andThen_ok,h2]
 ·rename_i x ah p' q;cases q;obtain⟨s,hs,h⟩:=ax h;obtain⟨r,hK,e,hn⟩:=O7 (V:=V) h;refine⟨r,hK,fun hc=> ?_⟩;have te:=cB hS hp hc hs;rw[e,<- te];exact S8 ho (by rw[te];exact hn hc)
 ·rename_i N2 t x t' ah p' q;cases q;obtain⟨sx,hx,h⟩:=ax h;obtain⟨r,hK,hr⟩:=OC (V:=V) (w:=w) (o:=x) h;refine⟨r,hK,fun hc=> ?_⟩;have:=gL (hr hc);rw[<- cB hS hp hc hx] at this;simp only[execOp,ho];exact this
 ·rename_i N2 t x y t' ah p' _ q;cases q;obtain⟨sx,hx,h⟩:=ax h;obtain⟨sy,hy,h⟩:=ax h;obtain⟨r,hK,hr⟩:=PL (V:=V) (w:=w) (o:=x) (o' :=y) h;refine⟨r,hK,fun hc=> ?_⟩;have:=gL (hr hc);rw[<- cB hS hp hc hx,<- cB hS hp hc hy] at this;simp only[execOp,ho];exact this
 ·rename_i uop t x ah p' q;cases q;obtain⟨sx,hx,h⟩:=ax h;obtain⟨r,hK,hr⟩:=Qh (V:=V) (w:=w) (P:=P) h;refine⟨r,hK,fun hc=> ?_⟩;have:=gL (hr hc);rw[<- cB hS hp hc hx] at this;simp only[execOp,ho];exact this
 ·rename_i src dst x ah p' q;cases q;obtain⟨sx,hx,h⟩:=ax h;obtain⟨r,hK,hr⟩:=OE hS h;refine⟨r,hK,fun hc=> ?_⟩;have:=gL (hr hc);rw[<- cB hS hp hc hx] at this;simp only[execOp,ho];exact this
 ·rename_i s x f ah p' q;cases q;obtain⟨sx,hx,h⟩:=ax h;obtain⟨⟨off,ag,sz⟩,hf,h⟩:=ax h;obtain⟨r,hK,hr⟩:=Pf hS hf h;refine⟨r,hK,fun hc=> ?_⟩;have:=gL (hr hc);rw[<- cB hS hp hc hx] at this;simp only[execOp,ho];exact this
 ·rename_i s x f ah p' q;cases q;obtain⟨cs,dG,h⟩:=ax h;obtain⟨sx,hx,dG⟩:=rG dG;obtain⟨⟨off,ag,sz⟩,hf,h⟩:=ax h;obtain⟨r,hr,hK⟩:=ax h;refine⟨r,hK,fun hc=> ?_⟩;have:=gL (Ol (V:=V) (w:=w) hf dG hr);rw[<- cB hS hp hc hx] at this;simp only[execOp,ho];exact this
 ·rename_i t x i ah p' q;cases q;obtain⟨sx,hx,h⟩:=ax h;obtain⟨si,hi,h⟩:=ax h;obtain⟨e,he,h⟩:=ax h;obtain⟨r,hK,hr⟩:=Pe hS he h;refine⟨r,hK,fun hc=> ?_⟩;have:=gL (hr hc);rw[<- cB hS hp hc hx,<- cB hS hp hc hi] at this;simp only[execOp,ho];exact this
 ·rename_i t x i ah p' q;cases q;obtain⟨sx,hx,h⟩:=ax h;obtain⟨si,hi,h⟩:=ax h;obtain⟨r,hK,hr⟩:=Qn (V:=V) (w:=w) h;refine⟨r,hK,fun hc=> ?_⟩;have:=gL (hr hc);rw[<- cB hS hp hc hx,<- cB hS hp hc hi] at this;simp only[execOp,ho];exact this
 ·rename_i t x lo hi ah p' q;cases q;obtain⟨sx,hx,h⟩:=ax h;obtain⟨sl,hl,h⟩:=ax h;obtain⟨sh,hh,h⟩:=ax h;obtain⟨r,hK,hr⟩:=Qi hS h;refine⟨r,hK,fun hc=> ?_⟩;have:=gL (hr hc);rw[<- cB hS hp hc hx,<- Kx hS hp hc hl,<- Kx hS hp hc hh] at this;simp only[execOp,ho];exact this
 ·rename_i t x ah p' q;cases q;obtain⟨sx,hx,h⟩:=ax h;obtain⟨r,hK,hr⟩:=Hh hS h;refine⟨r,hK,fun hc=> ?_⟩;have:=gL (hr hc);rw[<- cB hS hp hc hx] at this;simp only[execOp,ho];exact this
 ·rename_i x i ah p' q;cases q;obtain⟨sx,hx,h⟩:=ax h;obtain⟨r,hK,hr⟩:=Pg (V:=V) (P:=P) (w:=w) h;refine⟨r,hK,fun hc=> ?_⟩;have:=gL hr;rw[<- cB hS hp hc hx] at this;simp only[execOp,ho];exact this
 ·rename_i t parts ah p' q;cases q;obtain⟨hb,h⟩:=h;obtain⟨z,hz,h⟩:=ax h;obtain⟨cs,dG,hK⟩:=ax h;refine⟨_,hK,fun hc=> ?_⟩;simp only[execOp,ho];exact gL (OS hS hp hc hb hz dG)
 ·rename_i x t ah p' q;cases q;obtain⟨sx,hx,h⟩:=ax h;obtain⟨r,hK,hr⟩:=Pd (ty:=o.type) hS h;refine⟨r,hK,fun hc=> ?_⟩;rw[<- cB hS hp hc hx] at hr;simp only[execOp,ho,resolve,Sem.run_bind,Sem.run_pure,Result.andThen_ok,invoke,builtin];simp only[List.map_toArray,aG,List.map_nil,hr,Result.andThen_ok]
 ·rename_i x y ts ah p' q;cases q;obtain⟨sx,hx,h⟩:=ax h;obtain⟨sy,hy,h⟩:=ax h;obtain⟨r,hK,hr⟩:=O8 (V:=V) (P:=P) (w:=w) (ts:=ts) (ty:=o.type) h;refine⟨r,hK,fun hc=> ?_⟩;rw[<- cB hS hp hc hx,<- cB hS hp hc hy] at hr;simp only[execOp,ho,resolve,Sem.run_bind,Sem.run_pure,Result.andThen_ok,invoke,builtin];simp only[List.map_toArray,aG,List.map_nil,hr,Result.andThen_ok]
 ·rename_i t x i cm ah p' q;cases q;obtain⟨sx,hx,h⟩:=ax h;obtain⟨si,hi,h⟩:=ax h;obtain⟨r,hK,hr⟩:=Pb hS h;refine⟨r,hK,fun hc=> ?_⟩;have:=gL hr;rw[<- cB hS hp hc hx,<- cB hS hp hc hi] at this;simp only[execOp,ho];exact this
 ·rename_i x y ts ah p' q;cases q;obtain⟨sx,hx,h⟩:=ax h;obtain⟨sy,hy,h⟩:=ax h;obtain⟨r,hK,hr⟩:=O9 (V:=V) (P:=P) (w:=w) (ts:=ts) (ty:=o.type) h;refine⟨r,hK,fun hc=> ?_⟩;rw[<- cB hS hp hc hx,<- cB hS hp hc hy] at hr;simp only[execOp,ho,resolve,Sem.run_bind,Sem.run_pure,Result.andThen_ok,invoke,builtin];simp only[List.map_toArray,aG,List.map_nil,hr,Result.andThen_ok]
 ·rename_i x y z u ts ah p' q;cases q;obtain⟨sx,hx,h⟩:=ax h;obtain⟨sy,hy,h⟩:=ax h;obtain⟨sz,hz,h⟩:=ax h;obtain⟨su,hu,h⟩:=ax h;obtain⟨r,hK,hr⟩:=OD (V:=V) (P:=P) (w:=w) (ts:=ts) (ty:=o.type) h;refine⟨r,hK,fun hc=> ?_⟩;rw[<- cB hS hp hc hx,<- cB hS hp hc hy,<- cB hS hp hc hz,<- cB hS hp hc hu] at hr;simp only[execOp,ho,resolve,Sem.run_bind,Sem.run_pure,Result.andThen_ok,invoke,builtin];simp only[List.map_toArray,aG,List.map_nil,hr,Result.andThen_ok]
 ·cases h
end
theorem G5 {d d' :Nat} {o o' Nf:Option Obj} (hd:d<=d') (h:mJ d o o') (h' :mJ d' o' Nf):mJ d o Nf:=by
 unfold mJ at h;split at h
 ·rename_i c t f;obtain⟨c',t',f',rfl,h1⟩:=h;obtain⟨c'',t'',f'',rfl,h2⟩:=h';exact⟨c'',t'',f'',rfl,fun j hj=>(h2 j (by omega)).trans (h1 j hj)⟩
 ·rename_i b9;subst h;unfold mJ at h' ⊢;split
  ·exact absurd rfl (b9 _ _ _)
  ·split at h'
   ·exact absurd rfl (b9 _ _ _)
   ·exact h'
theorem oK {d:Nat} {o o' :Option Obj} (h:o' =o):mJ d o o' :=by
 subst h;unfold mJ;split
 ·exact⟨_,_,_,rfl,fun _ _=>rfl⟩
 ·rfl
theorem Mem.le_refl (m:Mem) (h:Wf m.w m.D):m.le m:=fun b=>⟨aC _,fun h0=>⟨by
 rcases Nat.lt_or_ge b m.w.heap.size with h1 |h1
 ·exact h1
 ·rw[h b h1] at h0;omega,oK rfl⟩⟩
theorem Mem.le_trans {m m' fP:Mem} (h:m.le m') (h' :m'.le fP):m.le fP:=fun b=>
 ⟨cQ (h b).1 (h' b).1,fun h0=>⟨((h b).2 h0).1,G5 (h b).1 ((h b).2 h0).2 ((h' b).2 (dt h0 (h b).1)).2⟩⟩
theorem Mem.le_same {w w' :World} {D D' :Nat->Nat} (hw:Wf w D) (h:∀b,b<w.heap.size->D b<=D' b/\(0<D b->w'.heap[b]? =w.heap[b]?)):Mem.le ⟨w,D⟩ ⟨w',D'⟩:=fun b=>by
 rcases Nat.lt_or_ge b w.heap.size with h1 |h1
 ·exact⟨(h b h1).1,fun h0=>⟨h1,oK ((h b h1).2 h0)⟩⟩
 ·have:=hw b h1;exact⟨by dsimp only;omega,fun h0=>by dsimp only at h0;omega⟩
theorem Frm.refl (F:Nat->Prop) (w:World) (D:Nat->Nat):Frm F w D w D:=⟨rfl,rfl,rfl,aC _,fun _ _ _=>⟨rfl,rfl⟩⟩
theorem Frm.trans {F S:Nat->Prop} {w w' kg:World} {D D' N7:Nat->Nat} (h:Frm F w D w' D') (h' :Frm S w' D' kg N7) (hs:∀b,S b->F b\/w.heap.size<=b):Frm F w D kg N7:=
 ⟨h'.os.trans h.os,h'.tape.trans h.tape,h'.output.trans h.output,cQ h.size h'.size,fun b hb hF=>by
  have h1:=h.same b hb hF;have h2:=h'.same b (dt hb h.size) (fun hS=>(hs b hS).elim hF (fun h3=>by omega))
  exact⟨h2.1.trans h1.1,h2.2.trans h1.2⟩⟩
/-! Values that name no block that is yet to come. -/
def Agree (nid:Nat) (vc:List Vc) (V V' :Vl):Prop:=∀k,k<nid->V'.β k=V.β k/\∀u,ba vc k u->V'.γ k u=V.γ k u
structure Step (nid:Nat) (vc:List Vc) (eI:Nat) (dq:List Vc) (V V' :Vl):Prop where
 agr:Agree nid vc V V'
 up:nid<=eI
 ver:∀k u,k<nid->ba vc k u->ba dq k u
theorem Agree.refl (nid:Nat) (vc:List Vc) (V:Vl):Agree nid vc V V:=fun _ _=>⟨rfl,fun _ _=>rfl⟩
section
variable {nid:Nat} {vc:List Vc} {V V' :Vl}
theorem J7 (h:Agree nid vc V V'):∀{ks:List Nat},sY nid ks->(ks.map fun k=>Value.pointer (some ⟨V'.β k,0,none⟩))=ks.map fun k=> .pointer (some ⟨V.β k,0,none⟩)
 |[],_=>rfl
 |k::r,hs=>by simp only[aG];rw[(h k hs.1).1,J7 h hs.2]
theorem pY (h:Agree nid vc V V') {s:SV} (hs:gU nid vc s):aJ V' s=aJ V s:=by
 cases s with
 |v x=>rfl
 |box k o=>show Value.pointer _=_;rw[(h k hs).1];rfl
 |vec k u=>show(V'.γ k u).val=_;rw[(h k hs.1).2 u hs.2];rfl
 |vp k u o=>show Value.pointer ((V'.γ k u).a.map _)=_;rw[(h k hs.1).2 u hs.2];rfl
 |vo k u o z=>show gE (V'.γ k u).a _ _ _ _=_;rw[(h k hs.1).2 u hs.2];rfl
 |mp k=>show Value.map _=_;rw[(h k hs).1];rfl
 |mv f k o=>show Value.func _ _ _=_;rw[(h k hs).1];rfl
 |sl k n c=>show Value.slice _ _ _=_;rw[(h k hs).1];rfl
 |cl f ks=>show Value.func _ _ ⟨_⟩=Value.func _ _ ⟨_⟩;rw[J7 h hs]
 |agg cs=>rfl
 |tup l=>rfl
theorem tG (h:Agree nid vc V V'):∀{l:List SV},cP nid vc l->l.map (aJ V')=l.map (aJ V)
 |[],_=>rfl
 |s::r,hs=>by simp only[aG];rw[pY h hs.1,tG h hs.2]
theorem oL (h:Agree nid vc V V') {s:SV} (hs:okB nid vc s):fL V' s=fL V s:=by
 cases s with
 |agg cs=>simp only[fL];rw[tG h hs]
 |v x=>rfl
 |box k o=>exact pY (s:= .box k o) h hs
 |vec k u=>exact pY (s:= .vec k u) h hs
 |vp k u o=>exact pY (s:= .vp k u o) h hs
 |vo k u o z=>exact pY (s:= .vo k u o z) h hs
 |mp k=>exact pY (s:= .mp k) h hs
 |mv f k o=>exact pY (s:= .mv f k o) h hs
 |sl k n c=>exact pY (s:= .sl k n c) h hs
 |cl f ks=>exact pY (s:= .cl f ks) h hs
 |tup l=>rfl
theorem H4 (h:Agree nid vc V V'):∀{l:List SV},uM nid vc l->l.map (fL V')=l.map (fL V)
 |[],_=>rfl
 |s::r,hs=>by simp only[aG];rw[oL h hs.1,H4 h hs.2]
theorem AZ (h:Agree nid vc V V') {s:SV} (hs:fq nid vc s):den V' s=den V s:=by
 cases s with
 |tup l=>simp only[den];rw[H4 h hs]
 |v x=>rfl
 |box k o=>exact oL (s:= .box k o) h hs
 |vec k u=>exact oL (s:= .vec k u) h hs
 |vp k u o=>exact oL (s:= .vp k u o) h hs
 |vo k u o z=>exact oL (s:= .vo k u o z) h hs
 |mp k=>exact oL (s:= .mp k) h hs
 |mv f k o=>exact oL (s:= .mv f k o) h hs
 |sl k n c=>exact oL (s:= .sl k n c) h hs
 |cl f ks=>exact oL (s:= .cl f ks) h hs
 |agg cs=>exact oL (s:= .agg cs) h hs
theorem KU:∀{env:List Ev} {t:Nat} {p:bj} {s:SV},dX env t p=some s->∃e∈env,e.s=s
 |⟨t',p',s'⟩::r,t,p,s,h=>by
  simp only[dX] at h;split at h
  ·split at h
   ·cases h;exact⟨_,bN ..,rfl⟩
   ·cases h
  ·obtain⟨e,he,hs⟩:=KU h;exact⟨e,bw _ he,hs⟩
theorem SatF.agree {n:Nat} {env:List Ev} {rho:List Gd} {a:Act} (hf:SatF n env rho a V) (og:∀e∈env,fq nid vc e.s) (h:Agree nid vc V V'):SatF n env rho a V' :=
 ⟨hf.defers,hf.size,hf.pth,fun t p s hp hl hc=>by
  obtain⟨e,he,rfl⟩:=KU hl
  rw[hf.env t p _ hp hl hc,AZ h (og e he)],hf.rho⟩
end
section
variable {V V' :Vl} {D D' :Nat->Nat} {w w' :World} {H:Hp}
theorem EP {e:TypeId} {sz m:Nat} {xs:List Value} {h:Hd} (ho:w.ownsRow 0 e sz h.val m xs) {g:Nat} (hg:h.blk=some g):h.val.ownBlock=some g/\g<w.heap.size:=by
 have:h.val.ownBlock=some g:=by
  unfold Hd.val Value.ownBlock;unfold Hd.blk at hg;cases ha:h.a with
  |none=>rw[ha] at hg;cases hg
  |some ad=>rw[ha] at hg;exact hg
 exact⟨this,(ho.lt g this).2⟩
theorem rR (h:HSat V D w H):∀b∈aE V H,b<w.heap.size:=by
 intro b hb;simp only[aE,List.mem_append,List.mem_map,List.mem_filterMap] at hb;rcases hb with ⟨x,hx,rfl⟩ |⟨x,hx,hb⟩
 ·obtain⟨o,ho,_⟩:=(h.bx x hx).1;exact(Array.getElem?_eq_some_iff.1 ho).1
 ·exact(EP (h.vc x hx).1 hb).2
theorem Jw {e:TypeId} {sz m:Nat} {xs:List Value} {h:Hd} (ho:w.ownsRow 0 e sz h.val m xs) (hw:∀g,h.blk=some g->w'.heap[g]? =w.heap[g]?):w'.ownsRow 0 e sz h.val m xs:=by
 refine⟨ho.1,?_⟩;rcases ho.2 with hn |⟨g,cap,cur,hv,hb,hh,rest⟩
 ·exact .inl hn
 ·refine .inr ⟨g,cap,cur,hv,hb,?_,rest⟩
  rw[hw g (by
   simp only[Hd.val,Value.slice.injEq] at hv
   simp [Hd.blk,hv.1])]
  exact hh
theorem Ax {α β:Type} {f g:α->Option β}:∀{l:List α},(∀x∈l,f x=g x)->l.filterMap f=l.filterMap g
 |[],_=>rfl
 |x::r,h=>by
  rw[List.filterMap_cons,List.filterMap_cons,h x (bN ..),Ax fun y hy=>h y (bw _ hy)]
theorem yw (hb:∀b∈H.bx,V'.β b.id=V.β b.id) (hv:∀b∈H.vc,V'.γ b.id b.ver=V.γ b.id b.ver):aE V' H=aE V H:=by
 unfold aE;congr 1
 ·exact List.map_congr_left hb
 ·exact Ax fun x hx=>by rw[hv x hx]
theorem HSat.frame (h:HSat V D w H) (hb:∀b∈H.bx,V'.β b.id=V.β b.id/\b.cs.map (aJ V')=b.cs.map (aJ V)) (hv:∀b∈H.vc,V'.γ b.id b.ver=V.γ b.id b.ver)
  (hw:∀g∈aE V H,w'.heap[g]? =w.heap[g]? /\D' g=D g):HSat V' D' w' H:=by
 refine⟨fun b hm=> ?_,fun b hm=> ?_,by rw[yw (fun b hm=>(hb b hm).1) hv];exact h.apart,h.uniq⟩
 ·have bg:V.β b.id∈aE V H:=by
   simp only[aE,List.mem_append,List.mem_map];exact .inl ⟨b,hm,rfl⟩
  obtain⟨h1,h2⟩:=h.bx b hm;unfold Aw;rw[(hb b hm).1,(hb b hm).2,(hw _ bg).1,(hw _ bg).2];exact⟨h1,h2⟩
 ·have bg:∀g,(V.γ b.id b.ver).blk=some g->g∈aE V H:=fun g hg=>by
   simp only[aE,List.mem_append,List.mem_filterMap];exact .inr ⟨b,hm,hg⟩
  obtain⟨h1,h2,h3,h4⟩:=h.vc b hm;unfold vk;rw[hv b hm];exact⟨Jw h1 fun g hg=>(hw g (bg g hg)).1,fun g hg=>by rw[(hw g (bg g hg)).2];exact h2 g hg,h3,h4⟩
end
theorem yr {P:Program} {t:TypeId} (h:0<aM P t):∃i,P.info? t=some i/\i.size=aM P t/\i.bytes=iP P t:=by
 unfold aM at h ⊢;unfold iP;cases hi:P.info? t with
 |none=>rw[hi] at h;simp at h
 |some i=>exact⟨i,rfl,rfl,rfl⟩
theorem Bm {P:Program} {t:TypeId} {z:List SV} {i:TypeInfo} (hi:P.info? t=some i) (h:cY P t=some z):∃zv,i.zero=some zv/\zv.cells.size=z.length:=by
 unfold cY at h;simp only[Option.map_eq_some_iff,Option.bind_eq_some_iff] at h;obtain⟨zv,⟨i',lr,hz⟩,rfl⟩:=h;rw[hi] at lr;cases lr;exact⟨zv,hz,by simp⟩
section
variable {P:Program} {w:World}
theorem N8 (t tx ty e:TypeId) (i:TypeInfo) (ht:P.underlying t=some (.slice e)) (hi:P.info? e=some i) (g kG uh:Nat) (cur:Array Value) (hg:w.heap[g]? =some (.cells cur e (0,0)))
  (x:Value) (m:Nat) (news:List Value) (hs:Src P i.size tx x m news w) (gM:kG+m<=uh) (lU:kG * i.size+news.length<=cur.size):
  (Builtin.append_ #[t,tx] ty #[.slice (some ⟨g,0,none⟩) kG uh,x]).run P w=
   .ok (.slice (some ⟨g,0,none⟩) (kG+m) uh) (w.setRow g (cur.toList.take (kG * i.size)++news++cur.toList.drop (kG * i.size+news.length)).toArray):=by
 have eM:=run_storeCells_at P g (kG * i.size) e news 0 cur w hg (by simpa using lU) hs.one;simp only[Nat.add_zero] at eM;rcases hs.kind with ⟨e',hk⟩ |hk<;>simp [Builtin.append_,run_underlying ht,run_underlying hk,sizeOf,typeInfo,hi,hs.len,gM,hs.cells,Addr.add_lit,eM]
theorem Az {ur old tC:Nat} (h:old<ur) (hb:ur * tC<=140737488355328):Builtin.nextslicecap ur old * tC<=281474976710656:=by
 have h1:=nextslicecap_le h;have h2:Builtin.nextslicecap ur old * tC<=2 * ur * tC:=Nat.mul_le_mul_right _ h1;have h3:2 * ur * tC=2 * (ur * tC):=Nat.mul_assoc ..;omega
theorem AJ {t tx ty e:TypeId} {i:TypeInfo} {zv:Value} {h:Hd} {n m:Nat} {xs news:List Value} {x:Value}
  (ht:P.underlying t=some (.slice e)) (hi:P.info? e=some i) (hz:i.zero=some zv) (lp:zv.cells.size=i.size)
  (bT:w.ownsRow 0 e i.size h.val n xs) (hs:Src P i.size tx x m news w) (hr:room (n+m) i.bytes):
  ∃(h' :Hd) (w' :World),(Builtin.append_ #[t,tx] ty #[h.val,x]).run P w= .ok h'.val w' /\w'.ownsRow 0 e i.size h'.val (n+m) (xs++news)/\
   (w' =w/\h' =h\/(∃g cur fA,h'.blk=some g/\h.blk=some g/\w.heap[g]? =some (.cells cur e (0,0))/\w' =w.setRow g fA/\(∀j,j<n * i.size->fA[j]? =cur[j]?))\/
    (∃c,h'.blk=some w.heap.size/\w' =w.drew.alloc (.cells c e))):=by
 obtain⟨hb,h63⟩:=hr;have hlen:(xs++news).length=(n+m) * i.size:=by rw[bc,bT.1,hs.newsLen,Nat.add_mul]
 have CK:((n+m:Nat):Int)<=9223372036854775807:=by simp only[maxLen] at h63;omega
 have grow:∀(old:Nat),old<n+m->(w.drew.alloc (.cells ((xs++news).toArray++Builtin.zeroCells zv.cells (grownCap w (n+m) old e - (n+m))) e)).ownsRow 0 e i.size
    (Hd.val ⟨some ⟨w.heap.size,0,none⟩,n+m,grownCap w (n+m) old e⟩) (n+m) (xs++news):=by
  intro old ho;have gj:=grownCap_ge w (n+m) old e;have kQ:grownCap w (n+m) old e<=maxLen:=grownCap_le_maxLen w (n+m) old e h63;refine⟨hlen,.inr ⟨w.heap.size,_,_,rfl,aF _,heap_alloc_new w.drew _,gj,kQ,?_,?_⟩⟩
  ·simp only[Array.size_append,List.size_toArray,size_zeroCells,lp,hlen,<- Nat.add_mul];congr 1
   omega
  ·simp only[Array.toList_append];rw[<- hlen];exact List.take_left
 obtain⟨ha,hn,hc⟩:∃(a:Option Addr) (n' c:Nat),h=⟨a,n',c⟩:=⟨h.a,h.n,h.c,rfl⟩;obtain⟨c,rfl⟩:=hc;rcases bT.2 with ⟨hv,Ag⟩ |⟨g,cap,cur,hv,_,hg,pL,kQ,dG,htake⟩
 ·simp only[Hd.val,Value.slice.injEq] at hv;obtain⟨rfl,rfl,rfl⟩:=hv;subst Ag;have hx:xs=[]:=List.eq_nil_of_length_eq_zero (by simpa using bT.1);subst hx;by_cases hm:m=0
  ·subst hm;have hn:news=[]:=List.eq_nil_of_length_eq_zero (by simpa using hs.newsLen);subst hn;refine⟨⟨none,0,0⟩,w,?_,by simpa using bT,.inl ⟨rfl,rfl⟩⟩;rcases hs.kind with ⟨e',hk⟩ |hk<;>simp [Hd.val,Builtin.append_,run_underlying ht,run_underlying hk,sizeOf,typeInfo,hi,hs.len,hs.cells]
  ·have hr:=run_append_grow_src w t tx ty e i zv ht hi hz none 0 0 [] (by simp [Builtin.firstCells]) x m news hs (by omega) CK (Az (by omega) hb);exact⟨⟨some ⟨w.heap.size,0,none⟩,0+m,grownCap w (0+m) 0 e⟩,_,hr,by have:=grow 0 (by omega);simpa using this,.inr (.inr ⟨_,rfl,rfl⟩)⟩
 ·simp only[Hd.val,Value.slice.injEq] at hv;obtain⟨rfl,rfl,rfl⟩:=hv;by_cases gM:hn+m<=c
  ·have lU:hn * i.size+news.length<=cur.size:=by rw[hs.newsLen,dG,<- Nat.add_mul];exact Nat.mul_le_mul_right _ gM
   have hr:=N8 t tx ty e i ht hi g hn c cur hg x m news hs gM lU;refine⟨⟨some ⟨g,0,none⟩,hn+m,c⟩,_,hr,⟨hlen,.inr ⟨g,c,_,rfl,aF _,setRow_heap w g cur _ e _ hg,gM,kQ,?_,?_⟩⟩,.inr (.inl ⟨g,cur,_,rfl,rfl,hg,rfl,fun j hj=> ?_⟩)⟩
   ·simp only[List.size_toArray,bc,List.length_take,gI,Array.length_toList];omega
   ·rw[htake,<- hlen];exact List.take_left
   ·have s8:=bT.1;simp only[List.getElem?_toArray];rw[List.append_assoc,List.getElem?_append_left (by rw[htake];omega),List.getElem?_take,ak hj,Array.getElem?_toList]
  ·have holds:∀j u,xs[j]? =some u->w.cell? ((⟨g,0,none⟩:Addr).add j)=some u:=bT.cells (g:=g) rfl;have hf:(Builtin.firstCells i.size hn (.slice (some ⟨g,0,none⟩) hn c)).run P w.drew= .ok xs.toArray w.drew:=run_firstCells_some w.drew i.size hn ⟨g,0,none⟩ hn c xs bT.1 (by simpa using holds);have hr:=run_append_grow_src w t tx ty e i zv ht hi hz (some ⟨g,0,none⟩) hn c xs hf x m news hs (by omega) CK (Az (by omega) hb);exact⟨⟨some ⟨w.heap.size,0,none⟩,hn+m,grownCap w (hn+m) c e⟩,_,hr,grow c (by omega),.inr (.inr ⟨_,rfl,rfl⟩)⟩
theorem G1 (t tx ty e:TypeId) (i:TypeInfo) (ht:P.underlying t=some (.slice e)) (hi:P.info? e=some i) (g f kG uh:Nat) (cur:Array Value) (hg:w.heap[g]? =some (.cells cur e (0,0)))
  (x:Value) (m:Nat) (news:List Value) (hs:Src P i.size tx x m news w) (gM:kG+m<=uh) (lU:f+kG * i.size+news.length<=cur.size):
  (Builtin.append_ #[t,tx] ty #[.slice (some ⟨g,f,none⟩) kG uh,x]).run P w=
   .ok (.slice (some ⟨g,f,none⟩) (kG+m) uh) (w.setRow g (cur.toList.take (f+kG * i.size)++news++cur.toList.drop (f+kG * i.size+news.length)).toArray):=by
 have eM:=run_storeCells_at P g (f+kG * i.size) e news 0 cur w hg (by simpa using lU) hs.one;simp only[Nat.add_zero] at eM;rcases hs.kind with ⟨e',hk⟩ |hk<;>simp [Builtin.append_,run_underlying ht,run_underlying hk,sizeOf,typeInfo,hi,hs.len,gM,hs.cells,mL,eM]
theorem Oa {t tx ty e:TypeId} {i:TypeInfo} {zv:Value} {h:Hd} {n m o:Nat} {xs news:List Value} {x:Value}
    (ht:P.underlying t=some (.slice e)) (hi:P.info? e=some i) (hz:i.zero=some zv) (lp:zv.cells.size=i.size)
    (bT:w.ownsRow 0 e i.size h.val n xs) (ho:o<=n) (hs:Src P i.size tx x m news w) (hr:room (n+m) i.bytes):
    ∃(v:Value) (w' :World),(Builtin.append_ #[t,tx] ty #[gE h.a h.c o h.n i.size,x]).run P w= .ok v w' /\
      ((∃h' :Hd,v=gE h'.a h'.c o h'.n i.size/\w'.ownsRow 0 e i.size h'.val (n+m) (xs++news)/\
        (w' =w/\h' =h\/(∃g cur fA,h'.blk=some g/\h.blk=some g/\w.heap[g]? =some (.cells cur e (0,0))/\w' =w.setRow g fA/\(∀j,j<n * i.size->fA[j]? =cur[j]?))))\/
       (∃h' :Hd,v=h'.val/\w'.ownsRow 0 e i.size h'.val (n - o+m) (xs.drop (o * i.size)++news)/\(∃c,h'.blk=some w.heap.size/\w' =w.drew.alloc (.cells c e)))):=by
  obtain⟨hb,h63⟩:=hr;have ls:(n - o+m) * i.bytes<=140737488355328:=cQ (Nat.mul_le_mul_right _ (by omega)) hb;have u5:(xs.drop (o * i.size)).length=(n - o) * i.size:=by rw[gI,bT.1,<- Nat.sub_mul]
  have hlen:(xs++news).length=(n+m) * i.size:=by rw[bc,bT.1,hs.newsLen,Nat.add_mul]
  have wA:(xs.drop (o * i.size)++news).length=(n - o+m) * i.size:=by rw[bc,u5,hs.newsLen,Nat.add_mul]
  have CK:((n - o+m:Nat):Int)<=9223372036854775807:=by simp only[maxLen] at h63;omega
  have grow:∀(old:Nat),old<n - o+m->(w.drew.alloc (.cells ((xs.drop (o * i.size)++news).toArray++Builtin.zeroCells zv.cells (grownCap w (n - o+m) old e - (n - o+m))) e)).ownsRow 0 e i.size
        (Hd.val ⟨some ⟨w.heap.size,0,none⟩,n - o+m,grownCap w (n - o+m) old e⟩) (n - o+m) (xs.drop (o * i.size)++news):=by
    intro old ho;have gj:=grownCap_ge w (n - o+m) old e;have kQ:grownCap w (n - o+m) old e<=maxLen:=grownCap_le_maxLen w (n - o+m) old e (by omega);refine⟨wA,.inr ⟨w.heap.size,_,_,rfl,aF _,heap_alloc_new w.drew _,gj,kQ,?_,?_⟩⟩
    · simp only[Array.size_append,List.size_toArray,size_zeroCells,lp,wA,<- Nat.add_mul]
      congr 1
      omega
    · simp only[Array.toList_append]
      rw[<- wA];exact List.take_left
  obtain⟨ha,hn,hc⟩:∃(a:Option Addr) (n' c:Nat),h=⟨a,n',c⟩:=⟨h.a,h.n,h.c,rfl⟩;obtain⟨c,rfl⟩:=hc;rcases bT.2 with ⟨hv,Ag⟩ |⟨g,cap,cur,hv,_,hg,pL,kQ,dG,htake⟩
  · simp only[Hd.val,Value.slice.injEq] at hv
    obtain⟨rfl,rfl,rfl⟩:=hv;subst Ag;obtain rfl:o=0:=by omega
    obtain⟨h',w',e1,e2,e3⟩:=AJ (ty:=ty) ht hi hz lp bT hs ⟨hb,h63⟩;refine⟨h'.val,w',e1,?_⟩;rcases e3 with ⟨rfl,rfl⟩ |⟨_,_,_,_,h2,_⟩ |⟨cc,h1,h2⟩
    · exact .inl ⟨_,rfl,e2,.inl ⟨rfl,rfl⟩⟩
    · cases h2
    · refine .inr ⟨h',rfl,?_,cc,h1,h2⟩
      simpa using e2
  · simp only[Hd.val,Value.slice.injEq] at hv
    obtain⟨rfl,rfl,rfl⟩:=hv;have abh:(⟨g,0,none⟩:Addr).add (o * i.size)=⟨g,o * i.size,none⟩:=by rw[mL,Nat.zero_add]
    have holds:∀j u,xs[j]? =some u->w.cell? ((⟨g,0,none⟩:Addr).add j)=some u:=bT.cells (g:=g) rfl;dsimp only;by_cases ry:c=o
    · have oA:hn=o:=by omega
      have eE:gE (some ⟨g,0,none⟩) c o hn i.size= .slice (some ⟨g,0,none⟩) 0 0:=by unfold gE;rw[ak ry,oA,ry,Nat.sub_self]
      rw[eE];by_cases hm:m=0
      · subst hm
        have hnw:news=[]:=List.eq_nil_of_length_eq_zero (by simpa using hs.newsLen);subst hnw;have hr:=G1 t tx ty e i ht hi g 0 0 0 cur hg x 0 [] hs (aC _) (by simp);have Ft:w.setRow g (cur.toList.take (0+0 * i.size)++[]++cur.toList.drop (0+0 * i.size+([]:List Value).length)).toArray=w:=by
          simpa using setRow_self w g cur e (0,0) hg
        rw[Ft] at hr;refine⟨_,w,hr,.inl ⟨⟨some ⟨g,0,none⟩,hn,c⟩,?_,by simpa using bT,.inl ⟨rfl,rfl⟩⟩⟩;rw[eE]
      · have kj:xs.drop (o * i.size)=[]:=List.eq_nil_of_length_eq_zero (by rw[u5,oA,Nat.sub_self,Nat.zero_mul])
        have hf:(Builtin.firstCells i.size 0 (.slice (some ⟨g,0,none⟩) 0 0)).run P w.drew= .ok ([]:List Value).toArray w.drew:=run_firstCells_some w.drew i.size 0 ⟨g,0,none⟩ 0 0 [] (by simp) (fun j u hu=>by simp at hu);have hr:=run_append_grow_src w t tx ty e i zv ht hi hz (some ⟨g,0,none⟩) 0 0 [] hf x m news hs (by omega) (by omega) (Az (by omega) (by rw[oA,Nat.sub_self] at ls;exact ls));have ei:=grow 0 (by omega);rw[kj,oA,Nat.sub_self] at ei ⊢;exact⟨_,_,hr,.inr ⟨⟨some ⟨w.heap.size,0,none⟩,0+m,grownCap w (0+m) 0 e⟩,rfl,ei,_,rfl,rfl⟩⟩
    · have eE:∀q,gE (some ⟨g,0,none⟩) c o q i.size= .slice (some ⟨g,o * i.size,none⟩) (q - o) (c - o):=fun q=>by unfold gE;rw[ae ry,Option.map_some,abh]
      rw[eE];have jO:o * i.size+(hn - o) * i.size=hn * i.size:=by
        rw[<- Nat.add_mul];congr 1
        omega
      by_cases gM:hn - o+m<=c - o
      · have lU:hn * i.size+news.length<=cur.size:=by rw[hs.newsLen,dG,<- Nat.add_mul];exact Nat.mul_le_mul_right _ (by omega)
        have hr:=G1 t tx ty e i ht hi g (o * i.size) (hn - o) (c - o) cur hg x m news hs gM (by rw[jO];exact lU);rw[jO] at hr;refine⟨_,_,hr,.inl ⟨⟨some ⟨g,0,none⟩,hn+m,c⟩,?_,⟨hlen,.inr ⟨g,c,_,rfl,aF _,setRow_heap w g cur _ e _ hg,by omega,kQ,?_,?_⟩⟩,.inr ⟨g,cur,_,rfl,rfl,hg,rfl,fun j hj=> ?_⟩⟩⟩
        · dsimp only
          rw[eE,show hn - o+m=hn+m - o by omega]
        · simp only[List.size_toArray,bc,List.length_take,gI,Array.length_toList]
          omega
        · rw[htake,<- hlen]
          exact List.take_left
        · have s8:=bT.1
          simp only[List.getElem?_toArray];rw[List.append_assoc,List.getElem?_append_left (by rw[htake];omega),List.getElem?_take,ak hj,Array.getElem?_toList]
      · have Zj:∀j u,(xs.drop (o * i.size))[j]? =some u->w.cell? ((⟨g,o * i.size,none⟩:Addr).add j)=some u:=fun j u hu=>by
          rw[List.getElem?_drop] at hu;have:=holds _ u hu;rw[mL,Nat.zero_add] at this;rw[mL];exact this
        have hf:(Builtin.firstCells i.size (hn - o) (.slice (some ⟨g,o * i.size,none⟩) (hn - o) (c - o))).run P w.drew= .ok (xs.drop (o * i.size)).toArray w.drew:=run_firstCells_some w.drew i.size (hn - o) ⟨g,o * i.size,none⟩ (hn - o) (c - o) _ u5 (by simpa using Zj);have hr:=run_append_grow_src w t tx ty e i zv ht hi hz (some ⟨g,o * i.size,none⟩) (hn - o) (c - o) _ hf x m news hs (by omega) CK (Az (by omega) ls);exact⟨_,_,hr,.inr ⟨⟨some ⟨w.heap.size,0,none⟩,hn - o+m,grownCap w (hn - o+m) (c - o) e⟩,rfl,grow (c - o) (by omega),_,rfl,rfl⟩⟩
end
section
variable {V V' :Vl} {D D' :Nat->Nat} {w w' :World} {bx:List Bx} {vc:List Vc} {nid:Nat}
theorem HSat.consBx {b:Bx} (h:HSat V D w ⟨bx,vc⟩) (hb:Aw V D w b) (hn:V.β b.id ∉ aE V ⟨bx,vc⟩):HSat V D w ⟨b::bx,vc⟩:=
 ⟨fun x hx=>(List.mem_cons.1 hx).elim (fun e=>e▸hb) (h.bx x),h.vc,List.nodup_cons.2 ⟨hn,h.apart⟩,h.uniq⟩
theorem DX {b:Vc}:(aE V ⟨bx,b::vc⟩).Perm ((V.γ b.id b.ver).blk.toList++aE V ⟨bx,vc⟩):=by
 unfold aE;simp only[List.filterMap_cons];cases (V.γ b.id b.ver).blk with
 |none=>exact List.Perm.refl _
 |some g=>exact List.perm_middle
theorem HSat.consVc {b:Vc} (h:HSat V D w ⟨bx,vc⟩) (hb:vk V D w b) (hu:b.id ∉ vc.map (·.id)) (hn:∀g,(V.γ b.id b.ver).blk=some g->g ∉ aE V ⟨bx,vc⟩):HSat V D w ⟨bx,b::vc⟩:=
 ⟨h.bx,fun x hx=>(List.mem_cons.1 hx).elim (fun e=>e▸hb) (h.vc x),by
  rw[DX.nodup_iff];cases hg:(V.γ b.id b.ver).blk with
  |none=>exact h.apart
  |some g=>exact List.nodup_cons.2 ⟨hn g hg,h.apart⟩,List.nodup_cons.2 ⟨hu,h.uniq⟩⟩
theorem C6 {b:Vc} {x:Nat}:x∈aE V ⟨bx,b::vc⟩↔(V.γ b.id b.ver).blk=some x\/x∈aE V ⟨bx,vc⟩:=by
 rw[DX.mem_iff,List.mem_append];cases (V.γ b.id b.ver).blk<;>simp [eq_comm]
/-! What was all right stays all right. -/
theorem JE {nid eI:Nat} (hn:nid<=eI):∀{ks:List Nat},sY nid ks->sY eI ks
 |[],_=>trivial
 |_::_,h=>⟨dt h.1 hn,JE hn h.2⟩
theorem qb {eI:Nat} {dq:List Vc} (hn:nid<=eI) (hv:∀k u,k<nid->ba vc k u->ba dq k u) {s:SV} (h:gU nid vc s):gU eI dq s:=by
 cases s with
 |v x=>trivial
 |box k o=>exact dt h hn
 |vec k u=>exact⟨dt h.1 hn,hv k u h.1 h.2⟩
 |vp k u o=>exact⟨dt h.1 hn,hv k u h.1 h.2⟩
 |vo k u o z=>exact⟨dt h.1 hn,hv k u h.1 h.2⟩
 |mp k=>exact dt h hn
 |mv f k o=>exact dt h hn
 |sl k n c=>exact dt h hn
 |cl f ks=>exact JE hn h
 |agg cs=>trivial
 |tup l=>trivial
theorem nL {eI:Nat} {dq:List Vc} (hn:nid<=eI) (hv:∀k u,k<nid->ba vc k u->ba dq k u):∀{l:List SV},cP nid vc l->cP eI dq l
 |[],_=>trivial
 |_::_,h=>⟨qb hn hv h.1,nL hn hv h.2⟩
theorem oO {eI:Nat} {dq:List Vc} (hn:nid<=eI) (hv:∀k u,k<nid->ba vc k u->ba dq k u) {s:SV} (h:okB nid vc s):okB eI dq s:=by
 cases s with
 |agg cs=>exact nL hn hv h
 |v x=>trivial
 |box k o=>exact qb (s:= .box k o) hn hv h
 |vec k u=>exact qb (s:= .vec k u) hn hv h
 |vp k u o=>exact qb (s:= .vp k u o) hn hv h
 |vo k u o z=>exact qb (s:= .vo k u o z) hn hv h
 |mp k=>exact qb (s:= .mp k) hn hv h
 |mv f k o=>exact qb (s:= .mv f k o) hn hv h
 |sl k n c=>exact qb (s:= .sl k n c) hn hv h
 |cl f ks=>exact qb (s:= .cl f ks) hn hv h
 |tup l=>trivial
theorem Jy {eI:Nat} {dq:List Vc} (hn:nid<=eI) (hv:∀k u,k<nid->ba vc k u->ba dq k u):∀{l:List SV},uM nid vc l->uM eI dq l
 |[],_=>trivial
 |_::_,h=>⟨oO hn hv h.1,Jy hn hv h.2⟩
theorem JA {eI:Nat} {dq:List Vc} (hn:nid<=eI) (hv:∀k u,k<nid->ba vc k u->ba dq k u) {s:SV} (h:fq nid vc s):fq eI dq s:=by
 cases s with
 |tup l=>exact Jy hn hv h
 |v x=>trivial
 |box k o=>exact oO (s:= .box k o) hn hv h
 |vec k u=>exact oO (s:= .vec k u) hn hv h
 |vp k u o=>exact oO (s:= .vp k u o) hn hv h
 |vo k u o z=>exact oO (s:= .vo k u o z) hn hv h
 |mp k=>exact oO (s:= .mp k) hn hv h
 |mv f k o=>exact oO (s:= .mv f k o) hn hv h
 |sl k n c=>exact oO (s:= .sl k n c) hn hv h
 |cl f ks=>exact oO (s:= .cl f ks) hn hv h
 |agg cs=>exact oO (s:= .agg cs) hn hv h
theorem pX {b:Vc} (hb:b.id=nid):∀k u,k<nid->ba vc k u->ba (b::vc) k u:=by
 intro k u hk h;obtain⟨k',u',e',z',n',x'⟩:=b;dsimp only at hb;subst hb;simp only[ba];rw[ae (by omega)];exact h
theorem Dp {k u:Nat} {b x:Vc} (hb:cz vc k u=some b) (hx:x.id=k) (hu:u<=x.ver):∀k' u',ba vc k' u' ->ba (gA vc k x) k' u' :=by
 intro k' u' h;induction vc with
 |nil=>cases hb
 |cons y r ih=>
  obtain⟨i',v',e',z',n',x'⟩:=y;obtain⟨kx,ux,ex,zx,nx,xx⟩:=x;dsimp only at hx hu;subst hx;simp only[cz] at hb;simp only[gA];simp only[ba] at h;by_cases he:i' =kx
  ·rw[ak he] at hb ⊢;split at hb
   ·rename_i hv;subst he;simp only[ba];split
    ·rename_i e;rw[ak e] at h;omega
    ·rename_i e;rw[ae e] at h;exact h
   ·cases hb
  ·rw[ae he] at hb ⊢;simp only[ba];split
   ·rename_i e;rw[ak e] at h;exact h
   ·rename_i e;rw[ae e] at h;exact ih hb h
theorem rI {vc:List Vc}:∀{b:Vc},(vc.map (·.id)).Nodup->b∈vc->ba vc b.id b.ver:=by
 induction vc with
 |nil=>intro b _ h;cases h
 |cons y r ih=>
  intro b hu h;obtain⟨i',v',e',z',n',x'⟩:=y;simp only[aG,List.nodup_cons] at hu;simp only[ba];rcases List.mem_cons.1 h with rfl |h
  ·rw[ak rfl];exact aC _
  ·have:¬i' =b.id:=fun e=>hu.1 (by rw[e];exact List.mem_map.2 ⟨b,h,rfl⟩)
   rw[ae this];exact ih hu.2 h
theorem A8 {vc:List Vc} {k v u:Nat} (h:ba vc k v) (hu:u<=v):ba vc k u:=by
 induction vc with
 |nil=>trivial
 |cons y r ih=>
  obtain⟨i',v',e',z',n',x'⟩:=y;simp only[ba] at h ⊢;split
  ·rename_i e;rw[ak e] at h;omega
  ·rename_i e;rw[ae e] at h;exact ih h
theorem AI (V:Vl) (g:Nat):Agree nid vc V {V with β:=fun k=>if k=nid then g else V.β k}:=fun k hk=>⟨ae (by omega),fun _ _=>rfl⟩
theorem HJ (V:Vl) (h:Hd):Agree nid vc V {V with γ:=fun k u=>if k=nid then h else V.γ k u}:=fun k hk=>⟨rfl,fun _ _=>ae (by omega)⟩
end
section
variable {C:Ctx} {bx:List Bx} {vc:List Vc} {nid:Nat} {m:Mem} {V:Vl} {D:Nat->Nat} {w:World}
theorem tD (w:World) (o:Obj) (k:Nat) (h:k<w.heap.size):(w.alloc o).heap[k]? =w.heap[k]? :=Go.RowKit.Below.heap_alloc w o k h
theorem SatW.keepH (h:SatW C bx vc nid m V D w) {V' :Vl} {w' :World} (ha:Agree nid vc V V') (hw:∀b,b<w.heap.size->w'.heap[b]? =w.heap[b]?):HSat V' D w' ⟨bx,vc⟩:=
 h.heap.frame (fun b hb=>⟨(ha b.id (h.ids.1 b hb).1).1,tG ha (h.ids.1 b hb).2⟩)
  (fun b hb=>(ha b.id (h.ids.2 b hb)).2 b.ver (rI h.heap.uniq hb))
  fun g hg=>⟨hw g (rR h.heap g hg),rfl⟩
theorem Frm.quiet {w' :World} {D' :Nat->Nat} (h1:w'.os=w.os) (h2:w'.tape=w.tape) (h3:w'.output=w.output) (h4:w.heap.size<=w'.heap.size) (hw:∀b,b<w.heap.size->w'.heap[b]? =w.heap[b]? /\D' b=D b) (F:Nat->Prop):Frm F w D w' D' :=
 ⟨h1,h2,h3,h4,fun b hb _=>hw b hb⟩
theorem xJ {t:TypeId} {vs:List Value} (h:t<gv):gP t vs (.cells ⟨vs⟩ t (0,0)):=by
 unfold gP;rw[ak h]
theorem yj {t:TypeId} {vs:List Value} {o:Obj} (h:t<gv) (ho:gP t vs o):o= .cells ⟨vs⟩ t (0,0):=by
 unfold gP at ho;rwa [ak h] at ho
theorem SatW.addBx (h:SatW C bx vc nid m V D w) {t:TypeId} {cs:List SV} {o:Obj} (ho:gP t (cs.map (aJ V)) o) (ao:cP nid vc cs):
  ∃V',Agree nid vc V V' /\V'.β nid=w.heap.size/\SatW C (⟨nid,t,cs⟩::bx) vc (nid+1) m V' D (w.alloc o):=by
 refine⟨{V with β:=fun k=>if k=nid then w.heap.size else V.β k},AI V _,ak rfl,?_⟩;have ha:=AI (nid:=nid) (vc:=vc) V w.heap.size;have hw:∀b,b<w.heap.size->(w.alloc o).heap[b]? =w.heap[b]? :=fun b hb=>tD w _ b hb
 have hold:=h.keepH ha hw;have aj:=rR hold;have eA:aE {V with β:=fun k=>if k=nid then w.heap.size else V.β k} ⟨bx,vc⟩=aE V ⟨bx,vc⟩:=
  yw (fun b hb=>(ha b.id (h.ids.1 b hb).1).1) (fun b hb=>(ha b.id (h.ids.2 b hb)).2 b.ver (rI h.heap.uniq hb))
 have FR:=rR h.heap;have hD:D w.heap.size=0:=h.wf _ (aC _);have mw:Frm (fun _=>False) w D (w.alloc o) D:=Frm.quiet (w:=w) (w' :=w.alloc o) rfl rfl rfl (by simp) (fun b hb=>⟨hw b hb,rfl⟩) _;have hle:Mem.le ⟨w,D⟩ ⟨w.alloc o,D⟩:=Mem.le_same h.wf (fun b hb=>⟨aC _,fun _=>hw b hb⟩);refine⟨hold.consBx ⟨?_,?_⟩ ?_,fun b hb=>h.wf b (by simp at hb;omega),h.frm.trans mw (fun _ h=>h.elim),?_,fun b hb=> ?_,fun b hb=> ?_,⟨fun b hb=> ?_,fun b hb=>Nat.lt_succ_of_lt (h.ids.2 b hb)⟩,Mem.le_trans h.le0 hle,h.m0,Mem.le_trans h.mle hle⟩
 ·refine⟨o,?_,?_⟩
  ·show(w.alloc _).heap[(if nid=nid then w.heap.size else V.β nid)]? =_;rw[ak rfl];exact heap_alloc_new w _
  ·show gP t (cs.map (aJ _)) o;rw[tG ha ao];exact ho
 ·show D (if nid=nid then w.heap.size else V.β nid)=0;rw[ak rfl];exact hD
 ·show(if nid=nid then w.heap.size else V.β nid) ∉ _;rw[ak rfl,eA];exact fun bg=>Nat.lt_irrefl _ (FR _ bg)
 ·intro b hb;rcases List.mem_cons.1 hb with rfl |hb
  ·show C.F (if nid=nid then w.heap.size else V.β nid)\/C.w0.heap.size<=(if nid=nid then w.heap.size else V.β nid);rw[ak rfl];exact .inr h.frm.size
  ·refine h.own b ?_;rw[<- eA];exact hb
 ·obtain⟨h1,h2⟩:=h.baseB b hb;exact⟨((ha b.id h2).1).trans h1,Nat.lt_succ_of_lt h2⟩
 ·obtain⟨h1,h2,h3⟩:=h.baseV b hb;exact⟨fun u hu=>h1 u hu,Nat.lt_succ_of_lt h2,h3⟩
 ·rcases List.mem_cons.1 hb with rfl |hb
  ·exact⟨Nat.lt_succ_self _,nL (Nat.le_succ _) (fun _ _ _ h=>h) ao⟩
  ·exact⟨Nat.lt_succ_of_lt (h.ids.1 b hb).1,nL (Nat.le_succ _) (fun _ _ _ h=>h) (h.ids.1 b hb).2⟩
theorem SatW.addVc (h:SatW C bx vc nid m V D w) {w' :World} {hd:Hd} {e:TypeId} {sz n:Nat} {xs:List Value}
  (h1:w'.os=w.os) (h2:w'.tape=w.tape) (h3:w'.output=w.output) (h4:w.heap.size<=w'.heap.size) (hw:∀b,b<w.heap.size->w'.heap[b]? =w.heap[b]?)
  (bT:w'.ownsRow 0 e sz hd.val n xs) (lT:∀g,hd.blk=some g->w.heap.size<=g) (fe:0<sz) (ke:∀u∈xs,u.oneCell' =true):
  ∃V',Agree nid vc V V' /\V'.γ nid 0=hd/\SatW C bx (⟨nid,0,e,sz,n,xs⟩::vc) (nid+1) m V' D w' :=by
 refine⟨{V with γ:=fun k u=>if k=nid then hd else V.γ k u},HJ V _,ak rfl,?_⟩;have ha:=HJ (nid:=nid) (vc:=vc) V hd;have hold:=h.keepH (w' :=w') ha hw;have eA:aE {V with γ:=fun k u=>if k=nid then hd else V.γ k u} ⟨bx,vc⟩=aE V ⟨bx,vc⟩:=
  yw (fun b hb=>(ha b.id (h.ids.1 b hb).1).1) (fun b hb=>(ha b.id (h.ids.2 b hb)).2 b.ver (rI h.heap.uniq hb))
 have aj:=rR h.heap;have mw:Frm (fun _=>False) w D w' D:=Frm.quiet h1 h2 h3 h4 (fun b hb=>⟨hw b hb,rfl⟩) _;have hle:Mem.le ⟨w,D⟩ ⟨w',D⟩:=Mem.le_same h.wf (fun b hb=>⟨aC _,fun _=>hw b hb⟩);have qA:∀k u,k<nid->ba vc k u->ba (⟨nid,0,e,sz,n,xs⟩::vc) k u:=pX rfl;refine⟨hold.consVc ⟨?_,?_,fe,ke⟩ ?_ ?_,fun b hb=>h.wf b (cQ h4 hb),h.frm.trans mw (fun _ h=>h.elim),?_,fun b hb=> ?_,fun b hb=> ?_,⟨fun b hb=> ?_,fun b hb=> ?_⟩,Mem.le_trans h.le0 hle,h.m0,Mem.le_trans h.mle hle⟩
 ·show w'.ownsRow 0 e sz (if nid=nid then hd else V.γ nid 0).val n xs;rw[ak rfl];exact bT
 ·intro g hg;have ez:hd.blk=some g:=by
   have:(if nid=nid then hd else V.γ nid 0).blk=some g:=hg;rwa [ak rfl] at this
  rw[h.wf g (lT g ez)];exact aF _
 ·intro bg;obtain⟨b,hb,jQ⟩:=List.mem_map.1 bg;have:=h.ids.2 b hb;dsimp only at jQ;omega
 ·intro g hg bg;have ez:hd.blk=some g:=by
   have:(if nid=nid then hd else V.γ nid 0).blk=some g:=hg;rwa [ak rfl] at this
  rw[eA] at bg;have:=aj g bg;have:=lT g ez;omega
 ·intro b hb;rcases C6.1 hb with hb |hb
  ·have ls:hd.blk=some b:=by
    have:(if nid=nid then hd else V.γ nid 0).blk=some b:=hb;rwa [ak rfl] at this
   exact .inr (cQ h.frm.size (lT b ls))
  ·rw[eA] at hb;exact h.own b hb
 ·exact⟨(h.baseB b hb).1,Nat.lt_succ_of_lt (h.baseB b hb).2⟩
 ·obtain⟨e1,e2,e3⟩:=h.baseV b hb;exact⟨fun u hu=>((ha b.id e2).2 u (A8 e3 hu)).trans (e1 u hu),Nat.lt_succ_of_lt e2,qA _ _ e2 e3⟩
 ·exact⟨Nat.lt_succ_of_lt (h.ids.1 b hb).1,nL (Nat.le_succ _) qA (h.ids.1 b hb).2⟩
 ·rcases List.mem_cons.1 hb with rfl |hb
  ·exact Nat.lt_succ_self _
  ·exact Nat.lt_succ_of_lt (h.ids.2 b hb)
end
theorem HE {k:Nat} {b:Bx} {cs:List SV}:∀{bx:List Bx},dz bx k=some b->∃l1 l2,bx=l1++b::l2/\fX bx k cs=l1++⟨b.id,b.ty,cs⟩::l2
 |[],h=>by cases h
 |⟨k',t',c'⟩::r,h=>by
  simp only[dz] at h;simp only[fX];split at h
  ·rename_i e;cases h;rw[ak e];exact⟨[],r,rfl,rfl⟩
  ·rename_i e;rw[ae e];obtain⟨l1,l2,h1,h2⟩:=HE (cs:=cs) h;exact⟨⟨k',t',c'⟩::l1,l2,by rw[h1];rfl,by rw[h2];rfl⟩
theorem HD {k u:Nat} {b x:Vc}:∀{vc:List Vc},cz vc k u=some b->∃l1 l2,vc=l1++b::l2/\gA vc k x=l1++x::l2
 |[],h=>by cases h
 |⟨k',u',e',z',n',x'⟩::r,h=>by
  simp only[cz] at h;simp only[gA];split at h
  ·rename_i e;split at h
   ·cases h;rw[ak e];exact⟨[],r,rfl,rfl⟩
   ·cases h
  ·rename_i e;rw[ae e];obtain⟨l1,l2,h1,h2⟩:=HD (x:=x) h;exact⟨⟨k',u',e',z',n',x'⟩::l1,l2,by rw[h1];rfl,by rw[h2];rfl⟩
theorem D5 {k u v:Nat} {b:Vc}:∀{vc:List Vc},cz vc k u=some b->ba vc k v->v<=u
 |[],h,_=>by cases h
 |⟨k',u',e',z',n',x'⟩::r,h,hv=>by
  simp only[cz] at h;simp only[ba] at hv;split at h
  ·rename_i e;split at h
   ·rename_i e';rw[ak e] at hv;omega
   ·cases h
  ·rename_i e;rw[ae e] at hv;exact D5 h hv
section
variable {V V' :Vl} {D D' :Nat->Nat} {w w' :World} {bx:List Bx} {vc:List Vc} {nid:Nat} {m:Mem} {C:Ctx}
theorem Kc {l1 l2:List Bx} {b:Bx}:(aE V ⟨l1++b::l2,vc⟩).Perm (V.β b.id::aE V ⟨l1++l2,vc⟩):=by
 unfold aE;simp only[List.map_append,aG,List.append_assoc,fv];exact List.perm_middle
theorem SatW.setOb (h:SatW C bx vc nid m V D w) {k:Nat} {b:Bx} {cs:List SV} (hb:dz bx k=some b) (ao:cP nid vc cs) {w' :World} {o:Obj} (ho:gP b.ty (cs.map (aJ V)) o)
  (e1:w'.os=w.os) (e2:w'.tape=w.tape) (e3:w'.output=w.output) (e4:w'.heap.size=w.heap.size) (e5:w'.heap[V.β k]? =some o) (e6:∀g,g≠V.β k->w'.heap[g]? =w.heap[g]?):
  SatW C (fX bx k cs) vc nid m V D w' :=by
 obtain⟨rfl,hm⟩:=nN hb;obtain⟨l1,l2,hl,hu⟩:=HE (cs:=cs) hb;have ft:=h.heap.apart;rw[hl] at ft;have ew:=(Kc.nodup_iff).1 ft;obtain⟨qN,_⟩:=List.nodup_cons.1 ew;have LU:∀g,g∈aE V ⟨l1++l2,vc⟩->w'.heap[g]? =w.heap[g]? :=fun g hg=>
  e6 g (fun e=>qN (e▸hg))
 have hD:D (V.β b.id)=0:=(h.heap.bx b hm).2;have bT:=h.own (V.β b.id) (by rw[hl];exact Kc.mem_iff.2 (bN ..));have mw:Frm (fun x=>x=V.β b.id) w D w' D:=
  ⟨e1,e2,e3,by rw[e4];exact aC _,fun x _ hx=>⟨e6 x hx,rfl⟩⟩
 have hle:Mem.le ⟨w,D⟩ ⟨w',D⟩:=Mem.le_same h.wf (fun x _=>⟨aC _,fun h0=>e6 x (fun e=>by subst e;omega)⟩);have eA:aE V ⟨fX bx b.id cs,vc⟩=aE V ⟨bx,vc⟩:=by
  unfold aE;rw[hu,hl];simp
 rw[hu];rw[hu] at eA;refine⟨⟨fun x hx=> ?_,fun x hx=> ?_,by rw[eA];exact h.heap.apart,h.heap.uniq⟩,fun x hx=>h.wf x (by rw[e4] at hx;exact hx),h.frm.trans mw (fun x hx=>by subst hx;exact bT),?_,h.baseB,h.baseV,⟨fun x hx=> ?_,h.ids.2⟩,Mem.le_trans h.le0 hle,h.m0,Mem.le_trans h.mle hle⟩
 ·have db:x∈l1++l2\/x=⟨b.id,b.ty,cs⟩:=by
   simp only[List.mem_append,List.mem_cons] at hx ⊢;rcases hx with hx |hx |hx
   ·exact .inl (.inl hx)
   ·exact .inr hx
   ·exact .inl (.inr hx)
  rcases db with db |rfl
  ·have bg:x∈bx:=by
    rw[hl];simp only[List.mem_append,List.mem_cons] at db ⊢;rcases db with h1 |h1
    ·exact .inl h1
    ·exact .inr (.inr h1)
   have hg:V.β x.id∈aE V ⟨l1++l2,vc⟩:=by
    simp only[aE,List.mem_append,List.mem_map] at db ⊢;exact .inl ⟨x,db,rfl⟩
   obtain⟨h1,h2⟩:=h.heap.bx x bg;exact⟨by rw[LU _ hg];exact h1,h2⟩
  ·exact⟨⟨o,e5,ho⟩,hD⟩
 ·obtain⟨h1,h2,h3,h4⟩:=h.heap.vc x hx
  exact⟨Jw h1 (fun g hg=>LU g (by
   simp only[aE,List.mem_append,List.mem_filterMap]
   exact .inr ⟨x,hx,hg⟩)),h2,h3,h4⟩
 ·intro x hx;rw[eA] at hx;exact h.own x hx
 ·have db:x∈bx\/x=⟨b.id,b.ty,cs⟩:=by
   rw[hl];simp only[List.mem_append,List.mem_cons] at hx ⊢;rcases hx with hx |hx |hx
   ·exact .inl (.inl hx)
   ·exact .inr hx
   ·exact .inl (.inr (.inr hx))
  rcases db with db |rfl
  ·exact h.ids.1 x db
  ·exact⟨(h.ids.1 b hm).1,ao⟩
theorem SatW.setBx (h:SatW C bx vc nid m V D w) {k:Nat} {b:Bx} {cs:List SV} (hb:dz bx k=some b) (dE:b.ty<gv) (ao:cP nid vc cs):
  SatW C (fX bx k cs) vc nid m V D (w.setRow (V.β k) ⟨cs.map (aJ V)⟩):=by
 obtain⟨hk,hm⟩:=nN hb;obtain⟨o,qM,ho⟩:=(h.heap.bx b hm).1;have ho' :=yj dE ho;subst ho';rw[hk] at qM;exact h.setOb hb ao (xJ dE) rfl rfl rfl (size_setRow _ _ _) (setRow_heap w _ _ _ _ _ qM) (fun g hg=>setRow_other w _ g _ hg)
theorem HSat.permVc {dq:List Vc} (h:HSat V D w ⟨bx,vc⟩) (hp:vc.Perm dq):HSat V D w ⟨bx,dq⟩:=
 ⟨h.bx,fun b hb=>h.vc b (hp.mem_iff.2 hb),by
  have:(aE V ⟨bx,vc⟩).Perm (aE V ⟨bx,dq⟩):=List.Perm.append_left _ (hp.filterMap _)
  exact(this.nodup_iff).1 h.apart,((hp.map _).nodup_iff).1 h.uniq⟩
theorem HSat.tailVc {b:Vc} (h:HSat V D w ⟨bx,b::vc⟩):HSat V D w ⟨bx,vc⟩/\b.id ∉ vc.map (·.id)/\∀g,(V.γ b.id b.ver).blk=some g->g ∉ aE V ⟨bx,vc⟩:=by
 have ew:=(DX.nodup_iff).1 h.apart;have hu:=List.nodup_cons.1 h.uniq;refine⟨⟨h.bx,fun x hx=>h.vc x (bw _ hx),(List.nodup_append.1 ew).2.1,hu.2⟩,hu.1,fun g hg bg=> ?_⟩;rw[hg] at ew;exact(List.nodup_cons.1 ew).1 bg
theorem SatW.updVc (h:SatW C bx vc nid m V D w) {k u n:Nat} {b:Vc} {hd:Hd} {xs:List Value} (hb:cz vc k u=some b) (vd:b.n * b.sz<=n * b.sz)
  (h1:w'.os=w.os) (h2:w'.tape=w.tape) (h3:w'.output=w.output) (h4:w.heap.size<=w'.heap.size)
  (hw:∀g,g<w.heap.size->(V.γ k u).blk≠some g->w'.heap[g]? =w.heap[g]?) (hkp:∀g,(V.γ k u).blk=some g->mJ (b.n * b.sz) w.heap[g]? w'.heap[g]?)
  (bT:w'.ownsRow 0 b.el b.sz hd.val n xs) (zC:∀g,hd.blk=some g->(V.γ k u).blk=some g\/w.heap.size<=g) (ke:∀y∈xs,y.oneCell' =true):
  ∃V',Agree nid vc V V' /\V'.γ k (u+1)=hd/\SatW C bx (gA vc k (fI b n xs)) nid m V' D w' :=by
 obtain⟨jQ,hbv,hm⟩:=yq hb;subst jQ;subst hbv;refine⟨{V with γ:=fun i v=>if i=b.id/\v=b.ver+1 then hd else V.γ i v},?_,ak ⟨rfl,rfl⟩,?_⟩
 ·intro i hi;refine⟨rfl,fun v hv=>ae ?_⟩;rintro⟨rfl,rfl⟩;have:=D5 hb hv;omega
 have ha:Agree nid vc V {V with γ:=fun i v=>if i=b.id/\v=b.ver+1 then hd else V.γ i v}:=by
  intro i hi;refine⟨rfl,fun v hv=>ae ?_⟩;rintro⟨rfl,rfl⟩;have:=D5 hb hv;omega
 obtain⟨l1,l2,hl,hu⟩:=HD (x:=fI b n xs) hb;have hp:vc.Perm (b::(l1++l2)):=by rw[hl];exact List.perm_middle
 have Gu:(gA vc b.id (fI b n xs)).Perm (fI b n xs::(l1++l2)):=by rw[hu];exact List.perm_middle
 have qA:∀i v,ba vc i v->ba (gA vc b.id (fI b n xs)) i v:=Dp hb (by cases b;rfl) (by cases b;exact Nat.le_succ _);obtain⟨ht,hid,hblkb⟩:=(h.heap.permVc hp).tailVc;have pQ:=h.heap.vc b hm;have aj:=rR h.heap;have MF:=rR ht;have yW:∀g,g∈aE V ⟨bx,l1++l2⟩->w'.heap[g]? =w.heap[g]? :=fun g hg=>hw g (MF g hg) (fun e=>hblkb g e hg)
 have qO:∀x∈l1++l2,x∈vc:=fun x hx=>hp.mem_iff.2 (bw _ hx)
 have uR:HSat {V with γ:=fun i v=>if i=b.id/\v=b.ver+1 then hd else V.γ i v} D w' ⟨bx,l1++l2⟩:=
  ht.frame (fun x hx=>⟨rfl,tG ha (h.ids.1 x hx).2⟩) (fun x hx=>(ha x.id (h.ids.2 x (qO x hx))).2 x.ver (rI h.heap.uniq (qO x hx))) (fun g hg=>⟨yW g hg,rfl⟩)
 have eA:aE {V with γ:=fun i v=>if i=b.id/\v=b.ver+1 then hd else V.γ i v} ⟨bx,l1++l2⟩=aE V ⟨bx,l1++l2⟩:=
  yw (fun x hx=>rfl) (fun x hx=>(ha x.id (h.ids.2 x (qO x hx))).2 x.ver (rI h.heap.uniq (qO x hx)))
 have lT:(({V with γ:=fun i v=>if i=b.id/\v=b.ver+1 then hd else V.γ i v}:Vl).γ (fI b n xs).id (fI b n xs).ver)=hd:=by
  cases b;exact ak ⟨rfl,rfl⟩
 have hD:∀g,hd.blk=some g->D g<=n * b.sz:=fun g hg=>by
  rcases zC g hg with e |e
  ·exact cQ (pQ.2.1 g e) vd
  ·rw[h.wf g e];exact aF _
 have K5:∀g,(V.γ b.id b.ver).blk=some g->C.F g\/C.w0.heap.size<=g:=fun g hg=>h.own g (by
  simp only[aE,List.mem_append,List.mem_filterMap]
  exact .inr ⟨b,hm,hg⟩)
 have mw:Frm (fun x=>(V.γ b.id b.ver).blk=some x) w D w' D:=⟨h1,h2,h3,h4,fun x hx hn=>⟨hw x hx hn,rfl⟩⟩
 have hle:Mem.le ⟨w,D⟩ ⟨w',D⟩:=fun x=>⟨aC _,fun h0=>by
  have s8:x<w.heap.size:=by
   rcases Nat.lt_or_ge x w.heap.size with h5 |h5
   ·exact h5
   ·have:=h.wf x h5;dsimp only at h0;omega
  refine⟨s8,?_⟩;by_cases hx:(V.γ b.id b.ver).blk=some x
  ·exact G5 (pQ.2.1 x hx) (oK (d:=D x) rfl) (hkp x hx)
  ·exact oK (hw x s8 hx)⟩
 have Zq:HSat {V with γ:=fun i v=>if i=b.id/\v=b.ver+1 then hd else V.γ i v} D w' ⟨bx,fI b n xs::(l1++l2)⟩:=by
  refine uR.consVc ?_ (by cases b;exact hid) ?_
  ·unfold vk;rw[lT];cases b;exact⟨bT,hD,pQ.2.2.1,ke⟩
  ·rw[lT];intro g hg bg;rw[eA] at bg;rcases zC g hg with e |e
   ·exact hblkb g e bg
   ·have:=MF g bg;omega
 refine⟨Zq.permVc Gu.symm,fun x hx=>h.wf x (cQ h4 hx),h.frm.trans mw K5,fun x hx=> ?_,fun x hx=>h.baseB x hx,fun x hx=> ?_,⟨fun x hx=>⟨(h.ids.1 x hx).1,nL (aC _) (fun i v _=>qA i v) (h.ids.1 x hx).2⟩,fun x hx=> ?_⟩,Mem.le_trans h.le0 hle,h.m0,Mem.le_trans h.mle hle⟩
 ·have db:x∈aE {V with γ:=fun i v=>if i=b.id/\v=b.ver+1 then hd else V.γ i v} ⟨bx,fI b n xs::(l1++l2)⟩:=by
   have:(aE {V with γ:=fun i v=>if i=b.id/\v=b.ver+1 then hd else V.γ i v} ⟨bx,gA vc b.id (fI b n xs)⟩).Perm _:=List.Perm.append_left _ (Gu.filterMap _);exact this.mem_iff.1 hx
  rcases C6.1 db with e |e
  ·rw[lT] at e;rcases zC x e with e' |e'
   ·exact K5 x e'
   ·exact .inr (cQ h.frm.size e')
  ·rw[eA] at e;refine h.own x ?_;have:(aE V ⟨bx,vc⟩).Perm _:=List.Perm.append_left _ (hp.filterMap _);exact this.mem_iff.2 (C6.2 (.inr e))
 ·obtain⟨e1,e2,e3⟩:=h.baseV x hx;exact⟨fun v hv=>((ha x.id e2).2 v (A8 e3 hv)).trans (e1 v hv),e2,qA _ _ e3⟩
 ·have:=Gu.mem_iff.1 hx;rcases List.mem_cons.1 this with rfl |hx
  ·have:=h.ids.2 b hm;cases b;exact this
  ·exact h.ids.2 x (qO x hx)
end
theorem xU (L:List Nat):∀bx:List Bx,er L bx=bx.filter fun b=>L.contains b.id
 |[]=>rfl
 |⟨k,t,cs⟩::r=>by
  simp only[er,List.filter_cons,xU L r]
theorem AU (L:List Nat):∀vc:List Vc,dS L vc=vc.filter fun b=>L.contains b.id
 |[]=>rfl
 |⟨k,u,e,z,n,xs⟩::r=>by
  simp only[dS,List.filter_cons,AU L r]
theorem AW (L:List Nat):∀bx:List Bx,kC L bx=bx.filter fun b=> !L.contains b.id
 |[]=>rfl
 |⟨k,t,cs⟩::r=>by
  simp only[kC,List.filter_cons,AW L r];cases L.contains k<;>simp
theorem xY (L:List Nat):∀vc:List Vc,jY L vc=vc.filter fun b=> !L.contains b.id
 |[]=>rfl
 |⟨k,u,e,z,n,xs⟩::r=>by
  simp only[jY,List.filter_cons,xY L r];cases L.contains k<;>simp
theorem vr {α:Type} (p:α->Bool):∀l:List α,(l.filter p++l.filter fun x=> !p x).Perm l
 |[]=>List.Perm.refl _
 |x::r=>by
  simp only[List.filter_cons];cases h:p x with
  |true=>simpa using(vr p r).cons x
  |false=>simpa using List.perm_middle.trans ((vr p r).cons x)
theorem Y0 {α:Type} (a b c d:List α):((a++b)++(c++d)).Perm ((a++c)++(b++d)):=by
 simp only[List.append_assoc];refine List.Perm.append_left _ ?_;rw[<- List.append_assoc,<- List.append_assoc];exact List.Perm.append_right _ List.perm_append_comm
section
variable {V:Vl} {D:Nat->Nat} {w:World}
theorem HSat.permBx {bx fg:List Bx} {vc:List Vc} (h:HSat V D w ⟨bx,vc⟩) (hp:bx.Perm fg):HSat V D w ⟨fg,vc⟩:=
 ⟨fun b hb=>h.bx b (hp.mem_iff.2 hb),h.vc,by
  have:(aE V ⟨bx,vc⟩).Perm (aE V ⟨fg,vc⟩):=List.Perm.append_right _ (hp.map _)
  exact(this.nodup_iff).1 h.apart,h.uniq⟩
theorem Bg (a b:List Bx) (c d:List Vc):(aE V ⟨a++b,c++d⟩).Perm (aE V ⟨a,c⟩++aE V ⟨b,d⟩):=by
 unfold aE;simp only[List.map_append,List.filterMap_append];exact Y0 _ _ _ _
theorem HSat.app {a b:List Bx} {c d:List Vc} (h:HSat V D w ⟨a++b,c++d⟩):HSat V D w ⟨a,c⟩/\HSat V D w ⟨b,d⟩/\∀g,g∈aE V ⟨a,c⟩->g ∉ aE V ⟨b,d⟩:=by
 have hn:=((Bg a b c d).nodup_iff).1 h.apart;obtain⟨h1,h2,h3⟩:=List.nodup_append.1 hn;have hu:=h.uniq;simp only[List.map_append] at hu;obtain⟨u1,u2,_⟩:=List.nodup_append.1 hu
 exact⟨⟨fun x hx=>h.bx x (List.mem_append_left _ hx),fun x hx=>h.vc x (List.mem_append_left _ hx),h1,u1⟩,
  ⟨fun x hx=>h.bx x (List.mem_append_right _ hx),fun x hx=>h.vc x (List.mem_append_right _ hx),h2,u2⟩,fun g hg ez=>h3 g hg g ez rfl⟩
theorem HSat.join {a b:List Bx} {c d:List Vc} (h:HSat V D w ⟨a,c⟩) (h' :HSat V D w ⟨b,d⟩) (hd:∀g,g∈aE V ⟨a,c⟩->g ∉ aE V ⟨b,d⟩) (hu:∀x∈c,∀y∈d,x.id≠y.id):HSat V D w ⟨a++b,c++d⟩:=
 ⟨fun x hx=>(List.mem_append.1 hx).elim (h.bx x) (h'.bx x),fun x hx=>(List.mem_append.1 hx).elim (h.vc x) (h'.vc x),((Bg a b c d).nodup_iff).2 (List.nodup_append.2 ⟨h.apart,h'.apart,fun g hg g' ez e=>hd g hg (e▸ez)⟩),by
  simp only[List.map_append];refine List.nodup_append.2 ⟨h.uniq,h'.uniq,fun i hi j hj e=> ?_⟩;obtain⟨x,hx,rfl⟩:=List.mem_map.1 hi;obtain⟨y,hy,rfl⟩:=List.mem_map.1 hj
  exact hu x hx y hy e⟩
theorem AH (L:List Nat) {bx:List Bx} {vc:List Vc} (h:HSat V D w ⟨bx,vc⟩):HSat V D w ⟨er L bx++kC L bx,dS L vc++jY L vc⟩:=by
 rw[xU,AW,AU,xY];exact(h.permBx (vr _ bx).symm).permVc (vr _ vc).symm
theorem DD (L:List Nat) (bx:List Bx) (vc:List Vc):(aE V ⟨bx,vc⟩).Perm (aE V ⟨er L bx,dS L vc⟩++aE V ⟨kC L bx,jY L vc⟩):=by
 refine List.Perm.trans ?_ (Bg _ _ _ _);rw[xU,AW,AU,xY];unfold aE;exact List.Perm.append ((vr _ bx).symm.map _) ((vr _ vc).symm.filterMap _)
/-! Numbers in a call. -/
theorem HV:∀{L:List Nat} {i j:Nat},idxOf L i=some j->L[j]? =some i
 |x::r,i,j,h=>by
  simp only[idxOf] at h;split at h
  ·rename_i e;cases h;simp [e]
  ·simp only[Option.map_eq_some_iff] at h;obtain⟨j',hj,rfl⟩:=h;simpa using HV hj
theorem IF:∀{L:List Nat} {i:Nat},i∈L->∃j,idxOf L i=some j
 |x::r,i,h=>by
  simp only[idxOf];split
  ·exact⟨0,rfl⟩
  ·rename_i e;rcases List.mem_cons.1 h with h |h
   ·exact absurd h.symm e
   ·obtain⟨j,hj⟩:=IF h;exact⟨j+1,by rw[hj];rfl⟩
theorem vQ {L:List Nat} {i:Nat} (h:L.contains i=true):L[fp L 0 i]? =some i/\fp L 0 i<L.length:=by
 obtain⟨j,hj⟩:=IF (by simpa using h);have:fp L 0 i=j:=by unfold fp;rw[hj];rfl
 rw[this];have:=HV hj;exact⟨this,(List.getElem?_eq_some_iff.1 this).1⟩
def iy (L:List Nat) (V:Vl):Vl:=⟨fun j=>V.β (L.getD j 0),fun j u=>V.γ (L.getD j 0) u⟩
theorem so {L:List Nat} {i:Nat} (h:L.contains i=true):(iy L V).β (fp L 0 i)=V.β i:=by
 show V.β (L.getD (fp L 0 i) 0)=_;rw[List.getD_eq_getElem?_getD,(vQ h).1];rfl
theorem wz {L:List Nat} {i:Nat} (h:L.contains i=true) (u:Nat):(iy L V).γ (fp L 0 i) u=V.γ i u:=by
 show V.γ (L.getD (fp L 0 i) 0) u=_;rw[List.getD_eq_getElem?_getD,(vQ h).1];rfl
theorem LZ {L:List Nat}:∀{ks:List Nat},zV L ks->((ks.map (fp L 0)).map fun k=>Value.pointer (some ⟨(iy L V).β k,0,none⟩))=ks.map fun k=> .pointer (some ⟨V.β k,0,none⟩)
 |[],_=>rfl
 |k::r,h=>by simp only[aG];rw[so h.1,LZ h.2]
theorem qe {L:List Nat} {s:SV} (h:lk L s):aJ (iy L V) (im (fp L 0) s)=aJ V s:=by
 cases s with
 |v x=>rfl
 |box k o=>show Value.pointer _=Value.pointer _;rw[so h]
 |vec k u=>show Hd.val _=Hd.val _;rw[wz h]
 |vp k u o=>show Value.pointer _=Value.pointer _;rw[wz h]
 |vo k u o z=>show gE _ _ _ _ _=gE _ _ _ _ _;rw[wz h]
 |mp k=>show Value.map _=Value.map _;rw[so h]
 |mv f k o=>show Value.func _ _ _=Value.func _ _ _;rw[so h]
 |sl k n c=>show Value.slice _ _ _=Value.slice _ _ _;rw[so h]
 |cl f ks=>show Value.func _ _ ⟨_⟩=Value.func _ _ ⟨_⟩;rw[LZ h]
 |agg cs=>rfl
 |tup l=>cases h
theorem Ey {L:List Nat}:∀{l:List SV},nv L l->(l.map (im (fp L 0))).map (aJ (iy L V))=l.map (aJ V)
 |[],_=>rfl
 |s::r,h=>by simp only[aG];rw[qe h.1,Ey h.2]
theorem Vw {L:List Nat} {s:SV} (h:CG L s):den (iy L V) (qH (fp L 0) s)=den V s:=by
 cases s with
 |agg cs=>show Value.agg _=Value.agg _;rw[Ey h]
 |v x=>rfl
 |box k o=>exact qe (s:= .box k o) h
 |vec k u=>exact qe (s:= .vec k u) h
 |vp k u o=>exact qe (s:= .vp k u o) h
 |vo k u o z=>exact qe (s:= .vo k u o z) h
 |mp k=>exact qe (s:= .mp k) h
 |mv f k o=>exact qe (s:= .mv f k o) h
 |sl k n c=>exact qe (s:= .sl k n c) h
 |cl f ks=>exact qe (s:= .cl f ks) h
 |tup l=>cases h
theorem J4 {L:List Nat}:∀{l:List SV},zt L l->(l.map (qH (fp L 0))).map (den (iy L V))=l.map (den V)
 |[],_=>rfl
 |s::r,h=>by simp only[aG];rw[Vw h.1,J4 h.2]
theorem Is {l:List Nat} {f g:Nat->Nat} (h:∀x∈l,g (f x)=x) (hl:l.Nodup):(l.map f).Nodup:=by
 have:(l.map f).map g=l:=by
  rw[List.map_map];exact(List.map_congr_left h).trans (List.map_id' l)
 rw[<- this] at hl;exact List.Pairwise.of_map g (fun a b h e=>h (by rw[e])) hl
theorem rL {L:List Nat} {vc:List Vc} {b:Vc} (h:b∈dS L vc):b∈vc/\L.contains b.id=true:=by
 rw[AU,List.mem_filter] at h;exact h
theorem DK {L:List Nat} {bx:List Bx} {b:Bx} (h:b∈er L bx):b∈bx/\L.contains b.id=true:=by
 rw[xU,List.mem_filter] at h;exact h
theorem Q0 {L:List Nat} {bx:List Bx} {b:Bx} (h:b∈kC L bx):b∈bx/\L.contains b.id=false:=by
 rw[AW,List.mem_filter] at h;simpa using h
theorem J2 {L:List Nat} {vc:List Vc} {b:Vc} (h:b∈jY L vc):b∈vc/\L.contains b.id=false:=by
 rw[xY,List.mem_filter] at h;simpa using h
theorem JR {L:List Nat}:∀{bx:List Bx},wP L bx->∀b∈bx,nv L b.cs
 |⟨_,_,cs⟩::r,h,b,hb=>by
  rcases List.mem_cons.1 hb with rfl |hb
  ·exact h.1
  ·exact JR h.2 b hb
theorem vJ (ρ:Nat->Nat) (b:Bx):(lL ρ b).id=ρ b.id/\(lL ρ b).ty=b.ty/\(lL ρ b).cs=b.cs.map (im ρ):=by cases b;exact⟨rfl,rfl,rfl⟩
theorem ky (ρ:Nat->Nat) (b:Vc):(gq ρ b).id=ρ b.id/\(gq ρ b).ver=b.ver/\(gq ρ b).el=b.el/\(gq ρ b).sz=b.sz/\(gq ρ b).n=b.n/\(gq ρ b).xs=b.xs:=by
 cases b;exact⟨rfl,rfl,rfl,rfl,rfl,rfl⟩
theorem Lp {L:List Nat} {st:LS}:aE (iy L V) (ee st L)=aE V ⟨er L st.bx,dS L st.vc⟩:=by
 unfold aE ee;congr 1
 ·rw[List.map_map];refine List.map_congr_left fun b hb=> ?_
  show(iy L V).β (lL _ b).id=_;rw[(vJ _ b).1,so (DK hb).2]
 ·rw[List.filterMap_map];refine Ax fun b hb=> ?_
  show((iy L V).γ (gq _ b).id (gq _ b).ver).blk=_;rw[(ky _ b).1,(ky _ b).2.1,wz (rL hb).2]
theorem HSat.into {L:List Nat} {st:LS} (h:HSat V D w ⟨er L st.bx,dS L st.vc⟩) (bg:wP L (er L st.bx)):HSat (iy L V) D w (ee st L):=by
 refine⟨fun b hb=> ?_,fun b hb=> ?_,by rw[Lp];exact h.apart,?_⟩
 ·obtain⟨x,hx,rfl⟩:=List.mem_map.1 hb;obtain⟨h1,h2⟩:=h.bx x hx;obtain⟨e1,e2,e3⟩:=vJ (fp L 0) x;unfold Aw;rw[e1,e2,e3,so (DK hx).2,Ey (JR bg x hx)];exact⟨h1,h2⟩
 ·obtain⟨x,hx,rfl⟩:=List.mem_map.1 hb;have h1:=h.vc x hx;obtain⟨e1,e2,e3,e4,e5,e6⟩:=ky (fp L 0) x;unfold vk;rw[e1,e2,e3,e4,e5,e6,wz (rL hx).2];exact h1
 ·show(((dS L st.vc).map (gq (fp L 0))).map (·.id)).Nodup;rw[List.map_map];have:((dS L st.vc).map ((·.id)∘gq (fp L 0)))=((dS L st.vc).map (·.id)).map (fp L 0):=by
   rw[List.map_map];exact List.map_congr_left fun b _=>(ky _ b).1
  rw[this];refine Is (g:=fun j=>L.getD j 0) (fun i hi=> ?_) h.uniq;obtain⟨b,hb,rfl⟩:=List.mem_map.1 hi;rw[List.getD_eq_getElem?_getD,(vQ (rL hb).2).1];rfl
end
theorem IC {vc:List Vc}:∀{b:Vc},(vc.map (·.id)).Nodup->b∈vc->ka vc b.id=some b:=by
 induction vc with
 |nil=>intro b _ h;cases h
 |cons y r ih=>
  intro b hu h;obtain⟨i',v',e',z',n',x'⟩:=y;simp only[aG,List.nodup_cons] at hu;simp only[ka];rcases List.mem_cons.1 h with rfl |h
  ·rw[ak rfl]
  ·have:¬i' =b.id:=fun e=>hu.1 (by rw[e];exact List.mem_map.2 ⟨b,h,rfl⟩)
   rw[ae this];exact ih hu.2 h
theorem Hz {vc:List Vc} {k u:Nat} {b:Vc} (h:ka vc k=some b) (hv:ba vc k u):u<=b.ver:=by
 induction vc with
 |nil=>cases h
 |cons y r ih=>
  obtain⟨i',v',e',z',n',x'⟩:=y;simp only[ka] at h;simp only[ba] at hv;split at h
  ·rename_i e;cases h;rw[ak e] at hv;exact hv
  ·rename_i e;rw[ae e] at hv;exact ih h hv
theorem Iu:∀{L:List Nat},zS L->L.Nodup
 |[],_=>List.nodup_nil
 |k::r,h=>List.nodup_cons.2 ⟨by have:=h.1;simpa using this,Iu h.2⟩
theorem yp {n:Nat}:∀{L:List Nat},qY n L->∀k∈L,k<n
 |_::_,h,k,hk=>(List.mem_cons.1 hk).elim (fun e=>e▸h.1) (yp h.2 k)
theorem IG:∀{L:List Nat} {i j:Nat},L.Nodup->L[j]? =some i->idxOf L i=some j
 |x::r,i,0,_,h=>by simp at h;subst h;simp [idxOf]
 |x::r,i,j+1,hn,h=>by
  simp only[List.getElem?_cons_succ] at h;obtain⟨h1,h2⟩:=List.nodup_cons.1 hn;simp only[idxOf];rw[ae (fun e=>h1 (by rw[e];exact List.mem_of_getElem? h)),IG h2 h];rfl
theorem IH:∀{bx:List Bx} {j:Nat},(j5 bx).contains j=true->∃b∈bx,b.id=j
 |⟨k,t,cs⟩::r,j,h=>by
  simp only[j5,List.contains_cons,Bool.or_eq_true,beq_iff_eq] at h;rcases h with h |h
  ·exact⟨_,bN ..,h.symm⟩
  ·obtain⟨b,hb,e⟩:=IH h;exact⟨b,bw _ hb,e⟩
theorem DP:∀{vc:List Vc} {j:Nat},(jD vc).contains j=true->∃b∈vc,b.id=j
 |⟨k,u,e,z,n,xs⟩::r,j,h=>by
  simp only[jD,List.contains_cons,Bool.or_eq_true,beq_iff_eq] at h;rcases h with h |h
  ·exact⟨_,bN ..,h.symm⟩
  ·obtain⟨b,hb,e⟩:=DP h;exact⟨b,bw _ hb,e⟩
theorem Bi {nB nV:List Nat} {len:Nat}:∀{bx:List Bx},wW nB nV len bx->∀b∈bx,(b.id<len->nB.contains b.id=true)/\nH nB nV len b.cs
 |⟨k,t,cs⟩::r,h,b,hb=>by
  rcases List.mem_cons.1 hb with rfl |hb
  ·exact⟨fun hl=>by have:=h.1;dsimp only at hl this;rwa [ak hl] at this,h.2.1⟩
  ·exact Bi h.2.2 b hb
theorem Bh {nV:List Nat} {len:Nat}:∀{vc:List Vc},wV nV len vc->∀b∈vc,b.id<len->nV.contains b.id=true
 |⟨k,u,e,z,n,xs⟩::r,h,b,hb=>by
  rcases List.mem_cons.1 hb with rfl |hb
  ·exact fun hl=>by have:=h.1;dsimp only at hl this;rwa [ak hl] at this
  ·exact Bh h.2 b hb
theorem DM {nid:Nat} {vc:List Vc}:∀{bx:List Bx},wu nid vc bx->∀b∈bx,cP nid vc b.cs
 |⟨_,_,cs⟩::r,h,b,hb=>by
  rcases List.mem_cons.1 hb with rfl |hb
  ·exact h.1
  ·exact DM h.2 b hb
theorem H6 {L:List Nat} {dq:List Vc}:∀{vc:List Vc},yO L dq vc->∀b∈vc,L.contains b.id=true->ba dq b.id b.ver
 |⟨k,u,e,z,n,xs⟩::r,h,b,hb=>by
  rcases List.mem_cons.1 hb with rfl |hb
  ·exact fun hl=>by have:=h.1;dsimp only at hl;rwa [ak hl] at this
  ·exact H6 h.2 b hb
theorem I9:∀{bx:List Bx} {b:Bx},b∈bx->b.id<jF bx
 |⟨k,t,cs⟩::r,b,hb=>by
  simp only[jF];rcases List.mem_cons.1 hb with rfl |hb
  ·dsimp only;omega
  ·have:=I9 hb;omega
theorem I8:∀{vc:List Vc} {b:Vc},b∈vc->b.id<jE vc
 |⟨k,u,e,z,n,xs⟩::r,b,hb=>by
  simp only[jE];rcases List.mem_cons.1 hb with rfl |hb
  ·dsimp only;omega
  ·have:=I8 hb;omega
theorem PV {a b:List Vc} {k u:Nat} (ha:ba a k u) (hb:ba b k u):ba (a++b) k u:=by
 induction a with
 |nil=>exact hb
 |cons y r ih=>
  obtain⟨i',v',e',z',n',x'⟩:=y;simp only[fv,ba] at ha ⊢;split
  ·rename_i e;rw[ak e] at ha;exact ha
  ·rename_i e;rw[ae e] at ha;exact ih ha
theorem Dq {a:List Vc} {k u:Nat} (h:∀b∈a,b.id≠k):ba a k u:=by
 induction a with
 |nil=>trivial
 |cons y r ih=>
  obtain⟨i',v',e',z',n',x'⟩:=y;simp only[ba];rw[ae (h _ (bN ..))];exact ih fun b hb=>h b (bw _ hb)
theorem Oh {p:Vc->Bool} {a:List Vc} {k u:Nat} (hu:(a.map (·.id)).Nodup) (h:ba a k u):ba (a.filter p) k u:=by
 induction a with
 |nil=>trivial
 |cons y r ih=>
  simp only[aG,List.nodup_cons] at hu;obtain⟨i',v',e',z',n',x'⟩:=y;simp only[ba] at h;simp only[List.filter_cons];split
  ·simp only[ba];split
   ·rename_i e;rw[ak e] at h;exact h
   ·rename_i e;rw[ae e] at h;exact ih hu.2 h
  ·by_cases e:i' =k
   ·refine Dq fun b hb=> ?_
    rw[<- e];exact fun e' =>hu.1 (by dsimp only;rw[<- e'];exact List.mem_map.2 ⟨b,(List.mem_filter.1 hb).1,rfl⟩)
   ·rw[ae e] at h;exact ih hu.2 h
section
variable {C:Ctx} {st:LS} {V V2:Vl} {D D2:Nat->Nat} {w w2:World} {L:List Nat} {r:SV} {H' :Hp} {m' :Mem}
def gS (st:LS) (L:List Nat) (V V2:Vl):Vl:=
  ⟨fun k=>if k<st.nid then V.β k else V2.β (k - st.nid),
   fun k u=>if k<st.nid then(match ka st.vc k with |some b=>if L.contains k=true/\b.ver<u then V2.γ (fp L 0 k) u else V.γ k u |none=>V.γ k u) else V2.γ (k - st.nid) u⟩
theorem Pq:Agree st.nid st.vc V (gS st L V V2):=by
 intro k hk;refine⟨ak hk,fun u hu=> ?_⟩;show(if k<st.nid then _ else _)=_;rw[ak hk];split
 ·rename_i b hb;rw[ae (fun h=>by have:=Hz hb hu;omega)]
 ·rfl
theorem tP {j:Nat} (hj:j<L.length):∃k,L[j]? =some k/\k∈L/\dw L st.nid j=k:=by
 refine⟨L[j],List.getElem?_eq_getElem hj,List.getElem_mem hj,?_⟩;unfold dw;rw[List.getElem?_eq_getElem hj];rfl
theorem tQ {j:Nat} (hj:¬j<L.length):dw L st.nid j=st.nid+j:=by
 unfold dw;rw[List.getElem?_eq_none (by omega)];rfl
theorem Y4 (ew:L.Nodup) (aj:qY st.nid L) (hβ:∀b∈(ee st L).bx,V2.β b.id=(iy L V).β b.id) {j:Nat} (hj:j<L.length->(j5 (ee st L).bx).contains j=true):
  (gS st L V V2).β (dw L st.nid j)=V2.β j:=by
 by_cases h:j<L.length
 ·obtain⟨k,hk,hm,he⟩:=tP (st:=st) h;rw[he];obtain⟨b,hb,hbj⟩:=IH (hj h);have Nr:=hβ b hb;obtain⟨x,hx,rfl⟩:=List.mem_map.1 hb;rw[(vJ _ x).1] at hbj Nr;have hc:=(DK hx).2;have zX:x.id=k:=by
   have:=(vQ hc).1;rw[hbj,hk] at this;exact(Option.some.inj this).symm
  show(if k<st.nid then _ else _)=_;rw[ak (yp aj k hm),<- zX,<- so (V:=V) hc,<- Nr,hbj]
 ·rw[tQ h];show(if st.nid+j<st.nid then _ else _)=_;rw[ae (by omega),Nat.add_sub_cancel_left]
theorem Y1 (ew:L.Nodup) (aj:qY st.nid L) (uQ:(st.vc.map (·.id)).Nodup) (hγ:∀b∈(ee st L).vc,∀u,u<=b.ver->V2.γ b.id u=(iy L V).γ b.id u) {j:Nat} (hj:j<L.length->(jD (ee st L).vc).contains j=true) (u:Nat):
  (gS st L V V2).γ (dw L st.nid j) u=V2.γ j u:=by
 by_cases h:j<L.length
 ·obtain⟨k,hk,hm,he⟩:=tP (st:=st) h;rw[he];obtain⟨b,hb,hbj⟩:=DP (hj h);have Gi:=hγ b hb;obtain⟨x,hx,rfl⟩:=List.mem_map.1 hb;rw[(ky _ x).1] at hbj Gi;rw[(ky _ x).2.1] at Gi;obtain⟨Gj,hc⟩:=rL hx;have zX:x.id=k:=by
   have:=(vQ hc).1;rw[hbj,hk] at this;exact(Option.some.inj this).symm
  show(if k<st.nid then _ else _)=_;rw[ak (yp aj k hm),<- zX,IC uQ Gj];dsimp only;by_cases hu:x.ver<u
  ·rw[ak ⟨hc,hu⟩,hbj]
  ·rw[ae (fun h=>hu h.2),<- wz (V:=V) hc,<- Gi u (by omega),hbj]
 ·rw[tQ h];show(if st.nid+j<st.nid then _ else _)=_;rw[ae (by omega),Nat.add_sub_cancel_left]
structure Bk (st:LS) (L:List Nat) (V V2:Vl):Prop where
 β:∀j,(j<L.length->(j5 (ee st L).bx).contains j=true)->(gS st L V V2).β (dw L st.nid j)=V2.β j
 γ:∀j u,(j<L.length->(jD (ee st L).vc).contains j=true)->(gS st L V V2).γ (dw L st.nid j) u=V2.γ j u
theorem ifc {p:Prop} [Decidable p] {q:Prop} (h:if p then q else True):p->q:=fun hp=>by rwa [ak hp] at h
theorem M2 (hb:Bk st L V V2):∀{ks:List Nat},Au (j5 (ee st L).bx) L.length ks->((ks.map (dw L st.nid)).map fun k=>Value.pointer (some ⟨(gS st L V V2).β k,0,none⟩))=ks.map fun k=> .pointer (some ⟨V2.β k,0,none⟩)
 |[],_=>rfl
 |k::r,h=>by simp only[aG];rw[hb.β k (ifc h.1),M2 hb h.2]
theorem qT (hb:Bk st L V V2) {s:SV} (h:ly (j5 (ee st L).bx) (jD (ee st L).vc) L.length s):aJ (gS st L V V2) (im (dw L st.nid) s)=aJ V2 s:=by
 cases s with
 |v x=>rfl
 |box k o=>show Value.pointer _=Value.pointer _;rw[hb.β k (ifc h)]
 |vec k u=>show Hd.val _=Hd.val _;rw[hb.γ k u (ifc h)]
 |vp k u o=>show Value.pointer _=Value.pointer _;rw[hb.γ k u (ifc h)]
 |vo k u o z=>show gE _ _ _ _ _=gE _ _ _ _ _;rw[hb.γ k u (ifc h)]
 |mp k=>show Value.map _=Value.map _;rw[hb.β k (ifc h)]
 |mv f k o=>show Value.func _ _ _=Value.func _ _ _;rw[hb.β k (ifc h)]
 |sl k n c=>show Value.slice _ _ _=Value.slice _ _ _;rw[hb.β k (ifc h)]
 |cl f ks=>show Value.func _ _ ⟨_⟩=Value.func _ _ ⟨_⟩;rw[M2 hb h]
 |agg cs=>rfl
 |tup l=>rfl
theorem F5 (hb:Bk st L V V2):∀{l:List SV},nH (j5 (ee st L).bx) (jD (ee st L).vc) L.length l->(l.map (im (dw L st.nid))).map (aJ (gS st L V V2))=l.map (aJ V2)
 |[],_=>rfl
 |s::r,h=>by simp only[aG];rw[qT hb h.1,F5 hb h.2]
theorem pA (hb:Bk st L V V2) {s:SV} (h:Av (j5 (ee st L).bx) (jD (ee st L).vc) L.length s):fL (gS st L V V2) (wI (dw L st.nid) s)=fL V2 s:=by
 cases s with
 |agg cs=>show Value.agg _=Value.agg _;rw[F5 hb h]
 |v x=>rfl
 |box k o=>exact qT (s:= .box k o) hb h
 |vec k u=>exact qT (s:= .vec k u) hb h
 |vp k u o=>exact qT (s:= .vp k u o) hb h
 |vo k u o z=>exact qT (s:= .vo k u o z) hb h
 |mp k=>exact qT (s:= .mp k) hb h
 |mv f k o=>exact qT (s:= .mv f k o) hb h
 |sl k n c=>exact qT (s:= .sl k n c) hb h
 |cl f ks=>exact qT (s:= .cl f ks) hb h
 |tup l=>rfl
theorem M1 (hb:Bk st L V V2):∀{l:List SV},At (j5 (ee st L).bx) (jD (ee st L).vc) L.length l->(l.map (wI (dw L st.nid))).map (fL (gS st L V V2))=l.map (fL V2)
 |[],_=>rfl
 |s::r,h=>by simp only[aG];rw[pA hb h.1,M1 hb h.2]
theorem abP (hb:Bk st L V V2) {s:SV} (h:C3 (j5 (ee st L).bx) (jD (ee st L).vc) L.length s):den (gS st L V V2) (qH (dw L st.nid) s)=den V2 s:=by
 cases s with
 |tup l=>show Value.tuple _=Value.tuple _;rw[M1 hb h]
 |v x=>rfl
 |box k o=>exact pA (s:= .box k o) hb h
 |vec k u=>exact pA (s:= .vec k u) hb h
 |vp k u o=>exact pA (s:= .vp k u o) hb h
 |vo k u o z=>exact pA (s:= .vo k u o z) hb h
 |mp k=>exact pA (s:= .mp k) hb h
 |mv f k o=>exact pA (s:= .mv f k o) hb h
 |sl k n c=>exact pA (s:= .sl k n c) hb h
 |cl f ks=>exact pA (s:= .cl f ks) hb h
 |agg cs=>exact pA (s:= .agg cs) hb h
theorem TA (ew:L.Nodup) (aj:qY st.nid L) (j:Nat):(fun k=>if k<st.nid then fp L 0 k else k - st.nid) (dw L st.nid j)=j:=by
 by_cases h:j<L.length
 ·obtain⟨k,hk,hm,he⟩:=tP (st:=st) h;dsimp only;rw[he,ak (yp aj k hm)];unfold fp;rw[IG ew hk];rfl
 ·dsimp only;rw[tQ h,ae (by omega),Nat.add_sub_cancel_left]
theorem HSat.back (hb:Bk st L V V2) (ew:L.Nodup) (aj:qY st.nid L) (h:HSat V2 D2 w2 H') (oF:wW (j5 (ee st L).bx) (jD (ee st L).vc) L.length H'.bx) (Nw:wV (jD (ee st L).vc) L.length H'.vc):
  HSat (gS st L V V2) D2 w2 ⟨H'.bx.map (lL (dw L st.nid)),H'.vc.map (gq (dw L st.nid))⟩/\
   aE (gS st L V V2) ⟨H'.bx.map (lL (dw L st.nid)),H'.vc.map (gq (dw L st.nid))⟩=aE V2 H' :=by
 have eA:aE (gS st L V V2) ⟨H'.bx.map (lL (dw L st.nid)),H'.vc.map (gq (dw L st.nid))⟩=aE V2 H' :=by
  unfold aE;congr 1
  ·rw[List.map_map];refine List.map_congr_left fun b hm=> ?_
   show(gS st L V V2).β (lL _ b).id=_;rw[(vJ _ b).1,hb.β _ (Bi oF b hm).1]
  ·rw[List.filterMap_map];refine Ax fun b hm=> ?_
   show((gS st L V V2).γ (gq _ b).id (gq _ b).ver).blk=_;rw[(ky _ b).1,(ky _ b).2.1,hb.γ _ _ (Bh Nw b hm)]
 refine⟨⟨fun b hm=> ?_,fun b hm=> ?_,by rw[eA];exact h.apart,?_⟩,eA⟩
 ·obtain⟨x,hx,rfl⟩:=List.mem_map.1 hm;obtain⟨e1,e2,e3⟩:=vJ (dw L st.nid) x;obtain⟨h1,h2⟩:=h.bx x hx;unfold Aw;rw[e1,e2,e3,hb.β _ (Bi oF x hx).1,F5 hb (Bi oF x hx).2];exact⟨h1,h2⟩
 ·obtain⟨x,hx,rfl⟩:=List.mem_map.1 hm;obtain⟨e1,e2,e3,e4,e5,e6⟩:=ky (dw L st.nid) x;have h1:=h.vc x hx;unfold vk;rw[e1,e2,e3,e4,e5,e6,hb.γ _ _ (Bh Nw x hx)];exact h1
 ·dsimp only;rw[List.map_map];have:(H'.vc.map ((·.id)∘gq (dw L st.nid)))=(H'.vc.map (·.id)).map (dw L st.nid):=by
   rw[List.map_map];exact List.map_congr_left fun b _=>(ky _ b).1
  rw[this];exact Is (g:=fun k=>if k<st.nid then fp L 0 k else k - st.nid) (fun j _=>TA ew aj j) h.uniq
theorem SatW.call (h:SatW C st.bx st.vc st.nid st.m V D w) (bg:FK st L []) (GH:E9 st L r H' m')
  (sU:Wf w2 D2) (hs2:HSat V2 D2 w2 H') (hβ:∀b∈(ee st L).bx,V2.β b.id=(iy L V).β b.id) (hγ:∀b∈(ee st L).vc,∀u,u<=b.ver->V2.γ b.id u=(iy L V).γ b.id u)
  (mw:Frm (· ∈aE (iy L V) (ee st L)) w D w2 D2) (lT:∀b∈aE V2 H',b∈aE (iy L V) (ee st L)\/w.heap.size<=b) (hle:Mem.le ⟨w,D⟩ ⟨w2,D2⟩) (aR:st.m.le m') (aK:m'.le ⟨w2,D2⟩):
  ∃V3,Agree st.nid st.vc V V3/\den V3 (qH (dw L st.nid) r)=den V2 r/\SatW C (r7 st L H' m').bx (r7 st L H' m').vc (r7 st L H' m').nid m' V3 D2 w2/\
   ∀k u,k<st.nid->ba st.vc k u->ba (r7 st L H' m').vc k u:=by
 obtain⟨ew,aj,_,_⟩:=bg;have ew:=Iu ew;obtain⟨c1,c2,c3,c4,c5,c6⟩:=GH;have uQ:=h.heap.uniq;have hb:Bk st L V V2:=⟨fun j hj=>Y4 ew aj hβ hj,fun j u hj=>Y1 ew aj uQ hγ hj u⟩;obtain⟨Gr,eA⟩:=hs2.back hb ew aj c2 c3;have rn:=AH L h.heap;obtain⟨hp,hd,hdis⟩:=rn.app;have eV:Agree st.nid st.vc V (gS st L V V2):=Pq;have Cg:aE (iy L V) (ee st L)=aE V ⟨er L st.bx,dS L st.vc⟩:=Lp;have oH:∀b∈kC L st.bx,b∈st.bx:=fun b hb=>(Q0 hb).1
 have Ab:∀b∈jY L st.vc,b∈st.vc:=fun b hb=>(J2 hb).1
 have MP:aE (gS st L V V2) ⟨kC L st.bx,jY L st.vc⟩=aE V ⟨kC L st.bx,jY L st.vc⟩:=
  yw (fun b hm=>(eV b.id (h.ids.1 b (oH b hm)).1).1) (fun b hm=>(eV b.id (h.ids.2 b (Ab b hm))).2 b.ver (rI uQ (Ab b hm)))
 have au:=rR hd;have u6:HSat (gS st L V V2) D2 w2 ⟨kC L st.bx,jY L st.vc⟩:=
  hd.frame (fun b hm=>⟨(eV b.id (h.ids.1 b (oH b hm)).1).1,tG eV (h.ids.1 b (oH b hm)).2⟩) (fun b hm=>(eV b.id (h.ids.2 b (Ab b hm))).2 b.ver (rI uQ (Ab b hm)))
   (fun g hg=>mw.same g (au g hg) (fun hx=>hdis g (Cg▸hx) hg))
 have lV:HSat (gS st L V V2) D2 w2 ⟨H'.bx.map (lL (dw L st.nid))++kC L st.bx,H'.vc.map (gq (dw L st.nid))++jY L st.vc⟩:=by
  refine Gr.join u6 (fun g hg ez=> ?_) (fun x hx y hy=> ?_)
  ·rw[eA] at hg;rw[MP] at ez;rcases lT g hg with e |e
   ·exact hdis g (Cg▸e) ez
   ·have:=au g ez;omega
  ·obtain⟨z,hz,rfl⟩:=List.mem_map.1 hx;rw[(ky _ z).1];obtain⟨zW,xp⟩:=J2 hy;by_cases hl:z.id<L.length
   ·obtain⟨k,_,hkm,he⟩:=tP (st:=st) hl;rw[he];rintro rfl;have:L.contains y.id=true:=by simpa using hkm
    rw[this] at xp;cases xp
   ·rw[tQ hl];have:=h.ids.2 y zW;omega
 have qA:∀k u,k<st.nid->ba st.vc k u->ba (r7 st L H' m').vc k u:=by
  intro k u hk hv;show ba (H'.vc.map (gq (dw L st.nid))++jY L st.vc) k u;refine PV ?_ (by rw[xY];exact Oh uQ hv);by_cases hkL:L.contains k=true
  ·cases iO:ka st.vc k with
   |none=>
    refine Dq fun b cR e=> ?_
    obtain⟨z,hz,rfl⟩:=List.mem_map.1 cR;rw[(ky _ z).1] at e;by_cases hl:z.id<L.length
    ·obtain⟨k',pN,_,he⟩:=tP (st:=st) hl;rw[he] at e;subst e;obtain⟨y,hy,hyz⟩:=DP (Bh c3 z hz hl);obtain⟨x,hx,rfl⟩:=List.mem_map.1 hy;rw[(ky _ x).1] at hyz;obtain⟨Gj,hc⟩:=rL hx;have:=(vQ hc).1;rw[hyz,pN] at this;have zX:x.id=k' :=(Option.some.inj this).symm;have:=IC uQ Gj;rw[zX,iO] at this;cases this
    ·rw[tQ hl] at e;omega
   |some b=>
    have cR:b∈st.vc/\b.id=k:=by
     clear hv;revert iO;generalize st.vc=l
     intro iO;induction l with
     |nil=>cases iO
     |cons y r ih=>
      obtain⟨i',v',e',z',n',x'⟩:=y;simp only[ka] at iO;split at iO
      ·rename_i e;cases iO;exact⟨bN ..,e⟩
      ·exact⟨bw _ (ih iO).1,(ih iO).2⟩
    have h6:=H6 c6 b cR.1 (by rw[cR.2];exact hkL);rw[cR.2] at h6;exact A8 h6 (Hz iO hv)
  ·refine Dq fun b cR e=> ?_
   obtain⟨z,hz,rfl⟩:=List.mem_map.1 cR;rw[(ky _ z).1] at e;by_cases hl:z.id<L.length
   ·obtain⟨k',_,hm,he⟩:=tP (st:=st) hl;rw[he] at e;subst e;exact hkL (by simpa using hm)
   ·rw[tQ hl] at e;omega
 have ML:∀j,j<max (jF H'.bx) (jE H'.vc)->dw L st.nid j<st.nid+max (jF H'.bx) (jE H'.vc):=by
  intro j hj;by_cases hl:j<L.length
  ·obtain⟨k,_,hm,he⟩:=tP (st:=st) hl;rw[he];have:=yp aj k hm;omega
  ·rw[tQ hl];omega
 refine⟨gS st L V V2,eV,abP hb c1,⟨lV,sU,h.frm.trans mw (fun x hx=>h.own x ((DD L st.bx st.vc).mem_iff.2 (List.mem_append_left _ (Cg▸hx)))),fun x hx=> ?_,fun b cR=> ?_,fun b cR=> ?_,⟨fun b cR=> ?_,fun b cR=> ?_⟩,Mem.le_trans h.le0 hle,Mem.le_trans h.m0 aR,aK⟩,qA⟩
 ·have db:=(Bg _ _ _ _).mem_iff.1 hx;rcases List.mem_append.1 db with db |db
  ·rw[eA] at db;rcases lT x db with e |e
   ·exact h.own x ((DD L st.bx st.vc).mem_iff.2 (List.mem_append_left _ (Cg▸e)))
   ·exact .inr (cQ h.frm.size e)
  ·rw[MP] at db;exact h.own x ((DD L st.bx st.vc).mem_iff.2 (List.mem_append_right _ db))
 ·obtain⟨e1,e2⟩:=h.baseB b cR;exact⟨((eV b.id e2).1).trans e1,dt e2 (Nat.le_add_right _ _)⟩
 ·obtain⟨e1,e2,e3⟩:=h.baseV b cR;exact⟨fun u hu=>((eV b.id e2).2 u (A8 e3 hu)).trans (e1 u hu),dt e2 (Nat.le_add_right _ _),qA _ _ e2 e3⟩
 ·rcases List.mem_append.1 cR with cR |cR
  ·refine⟨?_,DM c5 b cR⟩;obtain⟨x,hx,rfl⟩:=List.mem_map.1 cR;rw[(vJ _ x).1];exact ML _ (dt (I9 hx) (Nat.le_max_left _ _))
  ·exact⟨dt (h.ids.1 b (oH b cR)).1 (Nat.le_add_right _ _),nL (Nat.le_add_right _ _) qA (h.ids.1 b (oH b cR)).2⟩
 ·rcases List.mem_append.1 cR with cR |cR
  ·obtain⟨x,hx,rfl⟩:=List.mem_map.1 cR;rw[(ky _ x).1];exact ML _ (dt (I8 hx) (Nat.le_max_right _ _))
  ·exact dt (h.ids.2 b (Ab b cR)) (Nat.le_add_right _ _)
end
end Go.Proofs.YtmdokbohofchgaaGreatDoor.E

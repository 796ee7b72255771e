/- Several texts in one. -/
import Derived.WalkKit
import Derived.Below
import Derived.Deep.Draws
import Derived.Maps.AppendAt
import Derived.Laws.Strings
import Derived.Laws.StructEq
import Derived.Laws.Shifts
import Derived.Laws.Cover1
import Derived.Laws.Cells
import Derived.Laws.Slices
import Derived.Laws.DeepStrings4
import Derived.Laws.IdiomStrings
import Derived.Lib.Strings
import Derived.MapKept
import Derived.Deep.AppendSrc
set_option linter.unusedSimpArgs false
set_option linter.unusedVariables false
set_option maxHeartbeats 4000000
set_option maxRecDepth 20000
namespace Go.Proofs.YtimddhkipjedcaaGreatDoor.E
open Go
theorem dO {a b:Nat} (h:Nat.ble a b=true):a<=b:=Nat.le_of_ble_eq_true h
theorem aq (n:Nat):n<=n:=Nat.le_refl n
theorem bY {α:Type _} {as bs:List α}:(as++bs).length=as.length+bs.length:=List.length_append
theorem cC {α:Type _} {a:α} {as:List α}:(a::as).length=as.length+1:=rfl
theorem fm {α:Type _}:([]:List α).length=0:=rfl
theorem ae {c:Prop} {h:Decidable c} (HO:¬c) {α:Sort _} {t e:α}:(ite c t e)=e:=if_neg HO
theorem ah {c:Prop} {h:Decidable c} (hc:c) {α:Sort _} {t e:α}:(ite c t e)=t:=if_pos hc
theorem gA {p:Prop} [Decidable p]:(decide p=true)=p:=decide_eq_true_eq
theorem cu {α:Type _} (y:α) {a:α} {l:List α}:a∈l->a∈y::l:=List.mem_cons_of_mem y
theorem df {α:Type _} {a:α} {l:List α}:a∈a::l:=List.mem_cons_self ..
theorem au (n:Nat):0<=n:=Nat.zero_le n
theorem aC (h:Decidable True): @decide True h=true:=decide_true h
theorem aL (h:Decidable False): @decide False h=false:=decide_false h
theorem cg {n m k:Nat} (h:n<=m) (h2:m<=k):n<=k:=Nat.le_trans h h2
theorem fH {α:Type _} {i:Nat} {l:List α} (h:l.length<=i):l.take i=l:=List.take_of_length_le h
theorem dM {n m k:Nat} (h:n<m) (h2:m<=k):n<k:=Nat.lt_of_lt_of_le h h2
theorem bh {α β:Type _} {f:α->β} {a:α} {l:List α}:(a::l).map f=f a::l.map f:=List.map_cons
theorem de {α:Type _} {a b:α}:(some a=some b)=(a=b):=Option.some.injEq a b
theorem jt {α:Type _} {a:α} {as bs:List α}:(a::as)++bs=a::(as++bs):=List.cons_append
theorem cj {α:Type _} {i:Nat} {l:List α}:(l.drop i).length=l.length - i:=List.length_drop
theorem bg {p:Prop} [Decidable p] (h:¬p):decide p=false:=decide_eq_false h
theorem bO {p:Prop} [Decidable p] (h:p):decide p=true:=decide_eq_true h
theorem fI {α:Type _} {a:α}:[a].length=1:=List.length_singleton
theorem cO (a b:Bool):((a&&b)=true)=(a=true/\b=true):=Bool.and_eq_true a b
inductive A {γ:Type} (k:γ) (α:Type) where
 |mk (a:α)
inductive SV where
 |v (x:Value)
 |box (k off:Nat)
 |vec (k ver:Nat)
 |vp (k ver off:Nat)
 |mp (k:Nat)
 |mv (f:FuncId) (k off:Nat)
 |agg (cs:List SV)
 |tup (vs:List SV)
abbrev be:=List (Nat×Bool)
structure Bx where
 id:Nat
 ty:TypeId
 cs:List SV
def nE:Nat:=1000000
structure Vc where
 id:Nat
 ver:Nat
 el:TypeId
 sz:Nat
 n:Nat
 xs:List Value
structure Mem where
 w:World
 D:Nat->Nat
structure Hp where
 bx:List Bx
 vc:List Vc
inductive GB where
 |lit (b:Bool)
 |sym (b:Bool)
structure Gd where
 i:Nat
 slot:Nat
 p:be
 b:GB
structure Ev where
 t:Nat
 p:be
 s:SV
structure LS where
 env:List Ev
 rho:List Gd
 bx:List Bx
 vc:List Vc
 nid:Nat
 m:Mem
def bs (l:List UInt8):ByteArray:=⟨l.toArray⟩
def tl (s:ByteArray):List UInt8:=s.data.toList
theorem xS (l:List UInt8):tl (bs l)=l:=by simp [tl,bs]
theorem la (s:ByteArray):bs (tl s)=s:=by simp [tl,bs]
theorem K8 (l:List UInt8):ByteArray.mk l.toArray=bs l:=rfl
theorem xR {a b:List UInt8} (h:bs a=bs b):a=b:=by have:=congrArg tl h;simpa [xS] using this
def GB.val:GB->Bool | .lit b=>b | .sym b=>b
def po:be->be->Bool
 |[],[]=>true
 |(j,w)::p,(k,u)::q=>if j=k then(if w=u then po p q else false) else false
 |_,_=>false
def mP:be->be->Bool
 |p,[]=>po p []
 |p,x::q=>if po p (x::q)=true then true else mP p q
def fj:List Ev->Nat->be->Option SV
 |[],_,_=>none
 |⟨t',p',s⟩::r,t,p=>if t' =t then(if mP p' p=true then some s else none) else fj r t p
def fF:List Gd->Nat->Option Gd
 |[],_=>none
 |⟨i',t',p',b'⟩::r,i=>if i' =i then some ⟨i',t',p',b'⟩ else fF r i
def yj:List Gd->Nat->Option Gd
 |[],_=>none
 |⟨i',t',p',b'⟩::r,i=>if t' =i then some ⟨i',t',p',b'⟩ else yj r i
def gl:List Bx->Nat->Option Bx
 |[],_=>none
 |⟨k',t',cU⟩::r,i=>if k' =i then some ⟨k',t',cU⟩ else gl r i
def cS:List Vc->Nat->Nat->Option Vc
 |[],_,_=>none
 |⟨k',u',e',z',n',x'⟩::r,i,u=>if k' =i then(if u' =u then some ⟨k',u',e',z',n',x'⟩ else none) else cS r i u
def nO (rho:List Gd) (j:Nat) (w:Bool):Bool:=match fF rho j with |some g=>(if w=true then g.b.val else !g.b.val) |none=>false
def bF (rho:List Gd):be->Bool
 |[]=>true
 |(j,w)::p=>nO rho j w&&bF rho p
def vR:Option Gd->Bool->Bool
 |some ⟨_,_,_,.lit true⟩,false=>true
 |some ⟨_,_,_,.lit false⟩,true=>true
 |_,_=>false
def uk (rho:List Gd):be->Bool
 |[]=>false
 |(j,w)::p=>if vR (fF rho j) w=true then true else uk rho p
def oP (st:LS) (p:be) (B:Prop):Prop:=bF st.rho p=true->B
def bU (st:LS) (p:be):Operand->Option SV
 | .tmp t=>fj st.env t p
 | .const x=>some (.v x)
 | .func f=>some (.v (.func (.func f) #[] #[]))
 | .global g=>some (.v (.pointer (some ⟨g,0,none⟩)))
def aF {α:Type} {K:α->Prop} (x:A K (Option α)):Prop:=match x with | .mk (some s)=>K s | .mk none=>False
/-! Types, as the program's tables have them. -/
def dY (P:Program) (t:TypeId):Option (Option Nat):=
 match P.underlying t with
 |some (.struct _) |some (.array _ _)=>(P.info? t).map fun i=>some i.size
 |some _=>some none
 |none=>none
def bf (P:Program) (t:TypeId):Nat:=((P.info? t).map (·.size)).getD 0
def mY (P:Program) (t:TypeId):Nat:=((P.info? t).map (·.bytes)).getD 0
def eV (P:Program) (t:TypeId):Option (List SV):=((P.info? t).bind (·.zero)).map fun z=>z.cells.toList.map .v
def b7 (P:Program) (s:TypeId) (f:Nat):Option (Nat×Option Nat×Nat):=
 match P.underlying s with
 |some (.struct fs)=>(fs[f]?).bind fun x=>if 0<bf P x.type then(dY P x.type).map fun g=>(x.offset,g,bf P x.type) else none
 |_=>none
def gV (P:Program) (t:TypeId):Option TypeId:=
 match P.underlying t with
 |some (.slice e)=>some e
 |_=>none
inductive CvK where |int (k:IntKind) |same |b2s |no
def pN (P:Program) (src dst:TypeId):CvK:=
 match P.underlying src,P.underlying dst with
 |some (.int _),some (.int k)=> .int k
 |some .string,some .string=> .same
 |some (.slice e),some .string=>(match P.underlying e with |some (.int .u8)=> .b2s |_=> .no)
 |_,_=> .no
/-! Values. -/
def ax (n:Int):Prop:= -9223372036854775808<=n/\n<=9223372036854775807
def arith {k:IntKind} {u:Prop->Prop} {K:SV->Prop} (x:A (k,u,K) Int):Prop:=
 match k,x with
 | .i64,.mk n=>u (ax n)/\K (.v (.int .i64 n))
 |k,.mk n=>K (.v (.int k (k.wrap n)))
def iH {op:BinOp} {k:IntKind} {u:Prop->Prop} {K:SV->Prop} (x:A (op,k,u,K) (Int×Int)):Prop:=
 match op,x with
 | .add,.mk (a,b)=>arith (.mk (k:=(k,u,K)) (a+b))
 | .sub,.mk (a,b)=>arith (.mk (k:=(k,u,K)) (a - b))
 | .mul,.mk (a,b)=>arith (.mk (k:=(k,u,K)) (a * b))
 | .quo,.mk (a,b)=>u (b≠0)/\arith (.mk (k:=(k,u,K)) (a.tdiv b))
 | .rem,.mk (a,b)=>u (b≠0)/\K (.v (.int k (a.tmod b)))
 | .and,.mk (a,b)=>K (.v (.int k (bits .and k a b)))
 | .or,.mk (a,b)=>K (.v (.int k (bits .or k a b)))
 | .xor,.mk (a,b)=>K (.v (.int k (bits .xor k a b)))
 | .andNot,.mk (a,b)=>K (.v (.int k (bits .andNot k a b)))
 | .eql,.mk (a,b)=>K (.v (.bool (decide (a=b))))
 | .neq,.mk (a,b)=>K (.v (.bool (!decide (a=b))))
 | .lss,.mk (a,b)=>K (.v (.bool (decide (a<b))))
 | .leq,.mk (a,b)=>K (.v (.bool (decide (a<=b))))
 | .gtr,.mk (a,b)=>K (.v (.bool (decide (b<a))))
 | .geq,.mk (a,b)=>K (.v (.bool (decide (b<=a))))
 | .shl,.mk (a,b)=>u (0<=b/\b<=k.bits)/\K (.v (.int k (k.wrap (a * 2 ^ b.toNat))))
 | .shr,.mk (a,b)=>u (0<=b/\b<=k.bits)/\K (.v (.int k (a / 2 ^ b.toNat)))
def qp {op:BinOp} {u:Prop->Prop} {K:SV->Prop} (x:A (op,u,K) (List UInt8×List UInt8)):Prop:=
 match op,x with
 | .add,.mk (a,b)=>u (a.length+b.length<=9223372036854775807)/\K (.v (.string (bs (a++b))))
 | .eql,.mk (a,b)=>K (.v (.bool (decide (a=b))))
 | .neq,.mk (a,b)=>K (.v (.bool (!decide (a=b))))
 | .lss,.mk (a,b)=>K (.v (.bool (Op.bytesLess a b)))
 | .geq,.mk (a,b)=>K (.v (.bool (!Op.bytesLess a b)))
 |_,_=>False
def mr:SV->SV->Option Bool
 | .v (.int k a),.v (.int k' b)=>if k=k' then some (decide (a=b)) else none
 | .v (.string a),.v (.string b)=>some (decide (tl a=tl b))
 | .v (.bool a),.v (.bool b)=>some (a==b)
 |_,_=>none
def jc:List SV->List SV->Option Bool
 |[],[]=>some true
 |a::x,b::y=>(mr a b).bind fun e=>(jc x y).map fun r=>e&&r
 |_,_=>none
def ky:SV->Option (List SV)
 | .agg cs=>some cs
 | .v (.agg ⟨l⟩)=>some (l.map .v)
 | .tup _=>none
 | .v (.tuple _)=>none
 |s=>some [s]
def oe:SV->Option (List SV)
 | .agg cs=>some cs
 | .v (.agg ⟨l⟩)=>some (l.map .v)
 |_=>none
def mJ:SV->SV->Bool
 | .v (.int k _),.v (.int k' _)=>decide (k=k')
 | .v (.string _),.v (.string _)=>true
 | .v (.bool _),.v (.bool _)=>true
 |_,_=>false
def kG:List SV->List SV->Bool
 |[],[]=>true
 |z::zs,x::xs=>mJ z x&&kG zs xs
 |_,_=>false
def uD (z:Option (List SV)) (xs:List SV):Bool:=
 match z with
 |some zs=>kG zs xs
 |none=>false
def yx (P:Program) (t:TypeId):Prop:=
 ∀(xs ys:List Value) (b:Bool) (w:World) (o o' :Operand) (op:BinOp),jc (xs.map .v) (ys.map .v)=some b->uD (eV P t) (xs.map .v)=true->
  (eqGuard op t o o' (.agg xs.toArray) (.agg ys.toArray)).run P w= .ok () w/\(Op.equal t (.agg xs.toArray) (.agg ys.toArray)).run P w= .ok b w
def pC {op:BinOp} {K:SV->Prop} (x:A (op,K) Bool):Prop:=
 match op,x with
 | .eql,.mk b=>K (.v (.bool b))
 | .neq,.mk b=>K (.v (.bool (!b)))
 |_,_=>False
def pB {P:Program} {op:BinOp} {t:TypeId} {u:Prop->Prop} {K:SV->Prop} (x:A (P,op,t,u,K) (SV×SV)):Prop:=
 match x with
 | .mk (.v (.int k a),.v (.int k' b))=>(op= .shl\/op= .shr\/k=k')/\iH (.mk (k:=(op,k,u,K)) (a,b))
 | .mk (.v (.string a),.v (.string b))=>qp (.mk (k:=(op,u,K)) (tl a,tl b))
 | .mk (.v (.bool a),.v (.bool b))=>P.underlying t=some .bool/\pC (.mk (k:=(op,K)) (a==b))
 | .mk (.agg xs,y)=>yx P t/\uD (eV P t) xs=true/\aF (.mk (k:=fun b=>pC (.mk (k:=(op,K)) b)) ((oe y).bind fun ys=>jc xs ys))
 | .mk (.v (.agg xs),y)=>yx P t/\uD (eV P t) (xs.toList.map .v)=true/\aF (.mk (k:=fun b=>pC (.mk (k:=(op,K)) b)) ((oe y).bind fun ys=>jc (xs.toList.map .v) ys))
 |_=>False
def cI (a:Option Addr) (o:Nat):Value:= .pointer (a.map (·.add o))
def o9 (x:Value) (o:Nat):Value:=match x with | .pointer a=>cI a o |x=>x
def Di (x:Value):Prop:=∃a,x= .pointer (some a)
def sQ:Value->Bool
 | .pointer none | .nilIface | .nilFunc=>false
 | .func (.func _) _ _=>true
 | .func _ _ _=>false
 |_=>true
def Rd (m:Mem) (x:Value) (cs:List Value):Prop:=
 ∃a,x= .pointer (some a)/\a.spot=none/\∀j,j<cs.length->m.w.cell? (a.add j)=cs[j]? /\a.off+j<m.D a.block
def GX (a:Option Addr) (n:Nat) (i:Int):Prop:=0<=i/\i<n/\a≠none
def aM (m:Mem) (a:Option Addr) (n sz:Nat) (xs:List Value):Prop:=
 xs.length=n * sz/\(0<n->∃ad,a=some ad/\ad.spot=none/\∀j,j<n * sz->m.w.cell? (ad.add j)=xs[j]? /\ad.off+j<m.D ad.block)
def OD (a:Option Addr) (c l h sz:Nat):Value:= .slice (if c=l then a else a.map (·.add (l * sz))) (h - l) (c - l)
def kh (l:List UInt8):List Value:=l.map fun b=> .int .u8 b.toNat
def rm:SV->Option SV
 | .v x=>some (.v x)
 | .box k o=>some (.box k o)
 | .vec k u=>some (.vec k u)
 | .vp k u o=>some (.vp k u o)
 | .mp k=>some (.mp k)
 | .mv f k o=>some (.mv f k o)
 | .agg _=>none
 | .tup _=>none
def tZ (cs:List SV) (off:Nat):Option Nat->Option SV
 |none=>(cs[off]?).bind rm
 |some n=>if off+n<=cs.length then some (.agg ((cs.drop off).take n)) else none
def ke (cs:List SV) (off:Nat):List SV->List SV
 |[]=>cs
 |c::r=>ke (cs.set off c) (off+1) r
inductive PM where |and |or |gen
def Ag:Operand->Operand->PM
 |_,.const (.bool false)=> .and
 | .const (.bool true),_=> .or
 |_,_=> .gen
def sC {md:PM} {K:SV->Prop} (x:A (md,K) (Bool×SV×SV)):Prop:=
 match md,x with
 | .and,.mk (c,.v (.bool a),.v (.bool false))=>K (.v (.bool (c&&a)))
 | .or,.mk (c,.v (.bool true),.v (.bool b))=>K (.v (.bool (c||b)))
 | .gen,.mk (c,.v (.bool a),.v (.bool b))=>K (.v (.bool (bif c then a else b)))
 |_,_=>False
def pW (o:Option SV) (d:Int):Option Int:=
 match o with
 |none=>some d
 |some (.v (.int _ n))=>some n
 |_=>none
def vY (st:LS) (p:be) (o:Option Operand):Option (Option SV):=
 match o with
 |none=>some none
 |some x=>(bU st p x).map some
def tU (P:Program) (t:TypeId) (st:LS) (p:be):List (Nat×Operand)->List SV->Option (List SV)
 |[],cs=>some cs
 |(i,x)::r,cs=>(b7 P t i).bind fun fo=>((bU st p x).bind ky).bind fun l=>
   if l.length=fo.2.2 then(if fo.1+l.length<=cs.length then tU P t st p r (ke cs fo.1 l) else none) else none
def mD (P:Program) (t:TypeId):Bool:=
 match P.underlying t with
 |some (.struct fs)=>fs.toList.all fun x=>(P.info? x.type).isSome
 |_=>false
def sL {u:Prop->Prop} {K:SV->Prop} (x:A (u,K) SV):Prop:=
 match x with
 | .mk (.v x)=>u (sQ x=true)/\K (.v x)
 | .mk (.box k o)=>K (.box k o)
 |_=>False
def tc {op:UnOp} {u:Prop->Prop} {K:SV->Prop} (x:A (op,u,K) SV):Prop:=
 match op,x with
 | .not,.mk (.v (.bool b))=>K (.v (.bool (!b)))
 | .neg,.mk (.v (.int k n))=>arith (.mk (k:=(k,u,K)) (0 - n))
 |_,_=>False
def D3 (v:Value):Prop:=v= .nilIface\/∃t x,v= .iface t x
def p9:Value->Bool
 | .nilIface=>true
 |_=>false
def Dj (P:Program) (t:TypeId):Bool:=
 match P.underlying t with
 |some (.interface _)=>true
 |_=>false
def uc {P:Program} {op:BinOp} {t:TypeId} {u:Prop->Prop} {K:SV->Prop} (x:A (P,op,t,u,K) SV):Prop:=
 match x with
 | .mk (.v v)=>Dj P t=true/\u (D3 v)/\pC (.mk (k:=(op,K)) (p9 v))
 |_=>False
def qb {u:Prop->Prop} {K:SV->Prop} (x:A (u,K) (LS×CvK×SV)):Prop:=
 match x with
 | .mk (_,.int k,.v (.int _ n))=>K (.v (.int k (k.wrap n)))
 | .mk (_,.same,.v (.string s))=>K (.v (.string s))
 | .mk (st,.b2s,.vec k v)=>aF (.mk (k:=fun b:Vc=>∃l,u (b.sz=1/\b.xs=kh l)/\K (.v (.string (bs l)))) (cS st.vc k v))
 | .mk (st,.b2s,.v (.slice a n _))=>∃l,u (aM st.m a n 1 (kh l))/\K (.v (.string (bs l)))
 |_=>False
def rr {u:Prop->Prop} {K:SV->Prop} (x:A (u,K) (LS×SV×Nat)):Prop:=
 match x with
 | .mk (_,.box k o,f)=>K (.box k (o+f))
 | .mk (st,.vp k v o,f)=>aF (.mk (k:=fun b:Vc=>u (o<b.xs.length)/\K (.vp k v (o+f))) (cS st.vc k v))
 | .mk (_,.v x,f)=>u (Di x)/\K (.v (o9 x f))
 |_=>False
def sO {P:Program} {u:Prop->Prop} {K:SV->Prop} (x:A (P,u,K) (LS×TypeId×SV×SV)):Prop:=
 match x with
 | .mk (_,e,.v (.slice a n _),.v (.int _ i))=>0<bf P e/\u (GX a n i)/\K (.v (cI a (i.toNat * bf P e)))
 | .mk (st,e,.vec k v,.v (.int _ i))=>aF (.mk (k:=fun b:Vc=>0<bf P e/\u (0<=i/\i<b.n/\b.sz=bf P e)/\K (.vp k v (i.toNat * bf P e))) (cS st.vc k v))
 |_=>False
def uM {P:Program} {t:TypeId} {u:Prop->Prop} {K:SV->Prop} (x:A (P,t,u,K) (SV×SV)):Prop:=
 match x with
 | .mk (.v (.string s),.v (.int _ i))=>P.underlying t=some .string/\u (0<=i/\i<(tl s).length)/\K (.v (.int .u8 ((tl s).getD i.toNat 0).toNat))
 |_=>False
def G4 {s:List UInt8} {u:Prop->Prop} {K:SV->Prop} (x:A (s,u,K) (Int×Int)):Prop:=
 match x with
 | .mk (l,h)=>u (0<=l/\l<=h/\h<=s.length)/\K (.v (.string (bs ((s.take h.toNat).drop l.toNat))))
def td {P:Program} {t:TypeId} {u:Prop->Prop} {K:SV->Prop} (x:A (P,t,u,K) (SV×Option SV×Option SV)):Prop:=
 match x with
 | .mk (.v (.string s),lo,hi)=>P.underlying t=some .string/\
   aF (.mk (k:=fun l:Int=>aF (.mk (k:=fun h:Int=>G4 (.mk (k:=(tl s,u,K)) (l,h))) (pW hi (tl s).length))) (pW lo 0))
 | .mk (.v (.slice a n c),lo,hi)=>aF (.mk (k:=fun l:Int=>aF (.mk (k:=fun h:Int=>aF (.mk (k:=fun e:TypeId=>
   0<bf P e/\u (0<=l/\l<=h/\h<=c)/\K (.v (OD a c l.toNat h.toNat (bf P e)))) (gV P t))) (pW hi n))) (pW lo 0))
 |_=>False
def wy {m:Mem} {x:Value} {u:Prop->Prop} {K:SV->Prop} (ag:A (m,x,u,K) (Option Nat)):Prop:=
 match ag with
 | .mk none=>∃c,u (Rd m x [c])/\K (.v c)
 | .mk (some n)=>∃cs,u (Rd m x cs/\cs.length=n)/\K (.v (.agg ⟨cs⟩))
def vW {b:Vc} {o:Nat} {u:Prop->Prop} {K:SV->Prop} (ag:A (b,o,u,K) (Option Nat)):Prop:=
 match ag with
 | .mk none=>u (o<b.xs.length)/\K (.v (b.xs.getD o undef))
 | .mk (some n)=>0<n/\u (o+n<=b.xs.length)/\K (.v (.agg ⟨(b.xs.drop o).take n⟩))
def oC {P:Program} {t:TypeId} {u:Prop->Prop} {K:SV->Prop} (x:A (P,t,u,K) (LS×SV)):Prop:=
 match x with
 | .mk (st,.box k o)=>aF (.mk (k:=fun b:Bx=>(b.ty<nE)/\aF (.mk (k:=fun ag:Option Nat=>aF (.mk (k:=K) (tZ b.cs o ag))) (dY P t))) (gl st.bx k))
 | .mk (st,.vp k v o)=>aF (.mk (k:=fun b:Vc=>aF (.mk (k:=fun ag:Option Nat=>vW (.mk (k:=(b,o,u,K)) ag)) (dY P t))) (cS st.vc k v))
 | .mk (st,.v x)=>aF (.mk (k:=fun ag:Option Nat=>wy (.mk (k:=(st.m,x,u,K)) ag)) (dY P t))
 |_=>False
def mw:SV->Option SV
 | .v x=>some (.v x)
 | .box k o=>some (.box k o)
 | .vec k u=>some (.vec k u)
 | .vp k u o=>some (.vp k u o)
 | .mp k=>some (.mp k)
 | .mv f k o=>some (.mv f k o)
 | .agg cs=>some (.agg cs)
 | .tup _=>none
def sP {K:SV->Prop} (x:A K (SV×Nat)):Prop:=
 match x with
 | .mk (.tup l,i)=>aF (.mk (k:=K) (l[i]?.bind mw))
 | .mk (.v (.tuple ⟨l⟩),i)=>aF (.mk (k:=K) (l[i]?.map .v))
 |_=>False
def rq {P:Program} {t:TypeId} {K:SV->Prop} (x:A (P,t,K) (LS×SV)):Prop:=
 match x with
 | .mk (_,.v (.string s))=>P.underlying t=some .string/\K (.v (.int .i64 (tl s).length))
 | .mk (_,.v (.slice _ n _))=>aF (.mk (k:=fun _:TypeId=>K (.v (.int .i64 n))) (gV P t))
 | .mk (st,.vec k v)=>aF (.mk (k:=fun _:TypeId=>aF (.mk (k:=fun b:Vc=>K (.v (.int .i64 b.n))) (cS st.vc k v))) (gV P t))
 |_=>False
def uv {K:SV->Prop} (x:A K (SV×SV)):Prop:=
 match x with
 | .mk (.v (.int k a),.v (.int _ b))=>K (.v (.int k (if b<a then b else a)))
 |_=>False
def uw {K:SV->Prop} (x:A K (SV×SV)):Prop:=
 match x with
 | .mk (.v (.int k a),.v (.int _ b))=>K (.v (.int k (if a<b then b else a)))
 |_=>False
def mx (a b:Int):Int:=if a<b then b else a
def ud {K:SV->Prop} (x:A K (SV×SV×SV×SV)):Prop:=
 match x with
 | .mk (.v (.int k a),.v (.int _ b),.v (.int _ c),.v (.int _ d))=>K (.v (.int k (mx (mx (mx a b) c) d)))
 |_=>False
def sA {p:be} {a b:Operand} {st:LS} {g:Gd} {K:SV->Prop} (x:A (p,a,b,st,g,K) PM):Prop:=
 match g,x with
 |⟨i,_,q,.lit true⟩,_=>mP q p=true/\aF (.mk (k:=K) (bU st ((i,true)::q) a))
 |⟨i,_,q,.lit false⟩,_=>mP q p=true/\aF (.mk (k:=K) (bU st ((i,false)::q) b))
 |⟨i,_,q,.sym c⟩,.mk md=>mP q p=true/\
   aF (.mk (k:=fun x:SV=>aF (.mk (k:=fun y:SV=>sC (.mk (k:=(md,K)) (c,x,y))) (bU st ((i,false)::q) b))) (bU st ((i,true)::q) a))
open Classical in
noncomputable def kZ:List Value->Value->Option Value
 |k::v::r,s=>if k=s then some v else kZ r s
 |_,_=>none
open Classical in
noncomputable def uy:List Value->Value->Value->List Value
 |k::v::r,s,x=>if k=s then k::x::r else k::v::uy r s x
 |_,s,x=>[s,x]
def A8:Option Value->Bool
 |some (.bool b)=>b
 |_=>false
def im (P:Program) (t:TypeId):Nat×Option Value:=
 match P.underlying t with
 |some (.map k e)=>(match P.underlying k,P.underlying e with
  |some .string,some .bool=>(1000000,none)
  |some .string,_=>(1000002,some (((P.info? e).bind (·.zero)).getD undef))
  |_,some .bool=>(1000001,none)
  |_,_=>(0,none))
 |_=>(0,none)
def fN (g:Nat) (v:Value):Prop:=if g=1000001 then ∃s n,v= .agg ⟨[.string s,.int .i64 n]⟩ else ∃s,v= .string s
def ka (g:Nat) (v:Value):Prop:=if g=1000002 then True else ∃b,v= .bool b
open Classical in
noncomputable def uS:List MapEntry->Value->Nat->Option (Nat×Value)
 |[],_,_=>none
 |e::es,s,i=>if e.key=s then some (i,e.val) else uS es s (i+1)
def uo (P:Program) (t:TypeId):Prop:=
 nE<=(im P t).1/\∃k e,P.underlying t=some (.map k e)/\
  (∀w key em n,fN (im P t).1 key->(Instr.checkKey em (n+2) k key).run P w= .ok () w)/\
  (∀w key es,fN (im P t).1 key->(∀x∈es,fN (im P t).1 x.key)->(Instr.findKey k key es).run P w= .ok (uS es key 0) w)/\
  (∀w,(zeroValue e).run P w= .ok ((im P t).2.getD (.bool false)) w)
def plain:SV->Option Value
 | .v x=>some x
 |_=>none
def lC:List SV->Option (List Value)
 |[]=>some []
 |s::r=>(plain s).bind fun x=>(lC r).map (x:: ·)
def ox:SV->Option Value
 | .v x=>some x
 | .agg cs=>(lC cs).map fun l=> .agg ⟨l⟩
 |_=>none
def sN {l:List Value} {key:Value} {K:SV->Prop} (x:A (l,key,K) (Bool×Option Value)):Prop:=
 match x with
 | .mk (false,none)=>K (.v (.bool (A8 (kZ l key))))
 | .mk (false,some z)=>(∀v,kZ l key=some v->K (.v v))/\(kZ l key=none->K (.v z))
 | .mk (true,some z)=>(∀v,kZ l key=some v->K (.tup [.v v,.v (.bool true)]))/\(kZ l key=none->K (.tup [.v z,.v (.bool false)]))
 |_=>False
def sM {P:Program} {t:TypeId} {c:Bool} {K:SV->Prop} (x:A (P,t,c,K) (LS×SV×Option Value)):Prop:=
 match x with
 | .mk (st,.mp k,some key)=>aF (.mk (k:=fun b:Bx=>(b.ty==(im P t).1)=true/\uo P t/\fN b.ty key/\aF (.mk (k:=fun l:List Value=>sN (.mk (k:=(l,key,K)) (c,(im P t).2))) (lC b.cs))) (gl st.bx k))
 |_=>False
def qOp {P:Program} {op:Op} {K:SV->Prop} (x:A (P,op,K) (LS×be)):Prop:=
 match op,x with
 | .move x,.mk (st,p) | .assign x,.mk (st,p)=>aF (.mk (k:=K) (bU st p x))
 | .pick (.tmp t) a b,.mk (st,p)=>aF (.mk (k:=fun g:Gd=>sA (.mk (k:=(p,a,b,st,g,K)) (Ag a b))) (yj st.rho t))
 | .nilCheck x,.mk (st,p)=>aF (.mk (k:=fun s:SV=>sL (.mk (k:=(oP st p,K)) s)) (bU st p x))
 | .binOp op t x (.const .nilIface) _,.mk (st,p)=>aF (.mk (k:=fun a:SV=>uc (.mk (k:=(P,op,t,oP st p,K)) a)) (bU st p x))
 | .binOp op t x y _,.mk (st,p)=>aF (.mk (k:=fun a:SV=>aF (.mk (k:=fun b:SV=>pB (.mk (k:=(P,op,t,oP st p,K)) (a,b))) (bU st p y))) (bU st p x))
 | .unOp op _ x,.mk (st,p)=>aF (.mk (k:=fun s:SV=>tc (.mk (k:=(op,oP st p,K)) s)) (bU st p x))
 | .convert src dst x,.mk (st,p)=>aF (.mk (k:=fun s:SV=>qb (.mk (k:=(oP st p,K)) (st,pN P src dst,s))) (bU st p x))
 | .fieldAddr s x f,.mk (st,p)=>aF (.mk (k:=fun a:SV=>aF (.mk (k:=fun fo:Nat×Option Nat×Nat=>rr (.mk (k:=(oP st p,K)) (st,a,fo.1))) (b7 P s f))) (bU st p x))
 | .field s x f,.mk (st,p)=>aF (.mk (k:=fun cs:List SV=>aF (.mk (k:=fun fo:Nat×Option Nat×Nat=>aF (.mk (k:=K) (tZ cs fo.1 fo.2.1))) (b7 P s f))) ((bU st p x).bind oe))
 | .indexAddr t x i,.mk (st,p)=>aF (.mk (k:=fun a:SV=>aF (.mk (k:=fun i:SV=>aF (.mk (k:=fun e:TypeId=>sO (.mk (k:=(P,oP st p,K)) (st,e,a,i))) (gV P t))) (bU st p i))) (bU st p x))
 | .index t x i,.mk (st,p)=>aF (.mk (k:=fun a:SV=>aF (.mk (k:=fun i:SV=>uM (.mk (k:=(P,t,oP st p,K)) (a,i))) (bU st p i))) (bU st p x))
 | .slice t x lo hi none,.mk (st,p)=>aF (.mk (k:=fun a:SV=>aF (.mk (k:=fun lo:Option SV=>aF (.mk (k:=fun hi:Option SV=>td (.mk (k:=(P,t,oP st p,K)) (a,lo,hi))) (vY st p hi))) (vY st p lo))) (bU st p x))
 | .load t a,.mk (st,p)=>aF (.mk (k:=fun a:SV=>oC (.mk (k:=(P,t,oP st p,K)) (st,a))) (bU st p a))
 | .extract x i,.mk (st,p)=>aF (.mk (k:=fun a:SV=>sP (.mk (k:=K) (a,i))) (bU st p x))
 | .build t parts,.mk (st,p)=>mD P t=true/\aF (.mk (k:=fun z:List SV=>aF (.mk (k:=fun cs:List SV=>K (.agg cs)) (tU P t st p parts.toList z))) (eV P t))
 | .call {callee:= .builtin .len,args:=⟨[x]⟩,argTypes:=⟨[t]⟩},.mk (st,p)=>aF (.mk (k:=fun a:SV=>rq (.mk (k:=(P,t,K)) (st,a))) (bU st p x))
 | .call {callee:= .builtin .min,args:=⟨[x,y]⟩,..},.mk (st,p)=>aF (.mk (k:=fun a:SV=>aF (.mk (k:=fun b:SV=>uv (.mk (k:=K) (a,b))) (bU st p y))) (bU st p x))
 | .lookup t x i c,.mk (st,p)=>aF (.mk (k:=fun a:SV=>aF (.mk (k:=fun i:SV=>sM (.mk (k:=(P,t,c,K)) (st,a,ox i))) (bU st p i))) (bU st p x))
 | .call {callee:= .builtin .max,args:=⟨[x,y]⟩,..},.mk (st,p)=>aF (.mk (k:=fun a:SV=>aF (.mk (k:=fun b:SV=>uw (.mk (k:=K) (a,b))) (bU st p y))) (bU st p x))
 | .call {callee:= .builtin .max,args:=⟨[x,y,z,u]⟩,..},.mk (st,p)=>aF (.mk (k:=fun a:SV=>aF (.mk (k:=fun b:SV=>aF (.mk (k:=fun c:SV=>aF (.mk (k:=fun d:SV=>ud (.mk (k:=K) (a,b,c,d))) (bU st p u))) (bU st p z))) (bU st p y))) (bU st p x))
 |_,_=>False
structure Hd where
 a:Option Addr
 n:Nat
 c:Nat
def Hd.val (h:Hd):Value:= .slice h.a h.n h.c
structure Vl where
 β:Nat->Nat
 γ:Nat->Nat->Hd
def a7 (V:Vl):SV->Value
 | .v x=>x
 | .box k o=> .pointer (some ⟨V.β k,o,none⟩)
 | .vec k u=>(V.γ k u).val
 | .vp k u o=> .pointer ((V.γ k u).a.map (·.add o))
 | .mp k=> .map (some (V.β k))
 | .mv f k o=> .func (.func f) ⟨[.pointer (some ⟨V.β k,o,none⟩)]⟩ ⟨[]⟩
 |_=>undef
def lT (V:Vl):SV->Value
 | .agg cs=> .agg ⟨cs.map (a7 V)⟩
 |s=>a7 V s
def den (V:Vl):SV->Value
 | .tup l=> .tuple ⟨l.map (lT V)⟩
 |s=>lT V s
def qX (d:Nat) (o o' :Option Obj):Prop:=
 match o with
 |some (.cells c _ _)=>∃c' t' f',o' =some (.cells c' t' f')/\∀j,j<d->c'[j]? =c[j]?
 |o=>o' =o
def Mem.le (m m' :Mem):Prop:=∀b,m.D b<=m'.D b/\(0<m.D b->b<m.w.heap.size/\qX (m.D b) m.w.heap[b]? m'.w.heap[b]?)
def Hd.blk (h:Hd):Option Nat:=h.a.map (·.block)
def mL (l:List (Value×Value)):List Value:=l.flatMap fun x=>[x.1,x.2]
def lL (ty:TypeId) (vs:List Value) (o:Obj):Prop:=
 if ty<nE then o= .cells ⟨vs⟩ ty (0,0)
 else ∃es oX l,o= .map es oX/\vs=mL l/\es.toList.map (fun e=>(e.key,e.val))=l/\∀x∈l,fN ty x.1/\ka ty x.2
theorem Xn (s:ByteArray):fN 1000000 (.string s)=True:=eq_true (by unfold fN;rw[ae (by decide)];exact⟨s,rfl⟩)
theorem M4 (s:ByteArray) (n:Int):fN 1000001 (.agg ⟨[.string s,.int .i64 n]⟩)=True:=eq_true (by unfold fN;rw[ah rfl];exact⟨s,n,rfl⟩)
theorem Xm (s:ByteArray):fN 1000002 (.string s)=True:=eq_true (by unfold fN;rw[ae (by decide)];exact⟨s,rfl⟩)
theorem WW (b:Bool):ka 1000000 (.bool b)=True:=eq_true (by unfold ka;rw[ae (by decide)];exact⟨b,rfl⟩)
theorem WV (b:Bool):ka 1000001 (.bool b)=True:=eq_true (by unfold ka;rw[ae (by decide)];exact⟨b,rfl⟩)
theorem WU (v:Value):ka 1000002 v=True:=eq_true (by unfold ka;rw[ah rfl];trivial)
def BG (V:Vl) (D:Nat->Nat) (w:World) (b:Bx):Prop:=
 (∃o,w.heap[V.β b.id]? =some o/\lL b.ty (b.cs.map (a7 V)) o)/\D (V.β b.id)=0
def wZ (V:Vl) (D:Nat->Nat) (w:World) (b:Vc):Prop:=
 w.ownsRow 0 b.el b.sz (V.γ b.id b.ver).val b.n b.xs/\(∀g,(V.γ b.id b.ver).blk=some g->D g<=b.n * b.sz)/\0<b.sz/\∀u∈b.xs,u.oneCell' =true
def aW (V:Vl) (H:Hp):List Nat:=H.bx.map (fun b=>V.β b.id)++H.vc.filterMap fun b=>(V.γ b.id b.ver).blk
structure HSat (V:Vl) (D:Nat->Nat) (w:World) (H:Hp):Prop where
 bx:∀b∈H.bx,BG V D w b
 vc:∀b∈H.vc,wZ V D w b
 apart:(aW V H).Nodup
 uniq:(H.vc.map (·.id)).Nodup
structure Frm (F:Nat->Prop) (w:World) (D:Nat->Nat) (w' :World) (D' :Nat->Nat):Prop where
 os:w'.os=w.os
 tape:w'.tape=w.tape
 output:w'.output=w.output
 size:w.heap.size<=w'.heap.size
 same:∀b,b<w.heap.size->¬F b->w'.heap[b]? =w.heap[b]? /\D' b=D b
def Wf (w:World) (D:Nat->Nat):Prop:=∀b,w.heap.size<=b->D b=0
def FnH (P:Program) (f:FuncId) (args:List SV) (H:Hp) (m:Mem) (R:SV->Hp->Mem->Prop):Prop:=
 ∀(V:Vl) (w:World) (D:Nat->Nat),Wf w D->m.le ⟨w,D⟩->HSat V D w H->
  Calls P f ⟨args.map (den V)⟩ w fun e w' =>∃(r:SV) (V' :Vl) (D' :Nat->Nat) (H' :Hp) (m' :Mem),
   e= .returned (den V' r)/\Wf w' D' /\HSat V' D' w' H' /\(∀b∈H.bx,V'.β b.id=V.β b.id)/\(∀b∈H.vc,∀u,u<=b.ver->V'.γ b.id u=V.γ b.id u)/\
   Frm (· ∈aW V H) w D w' D' /\(∀b∈aW V' H',b∈aW V H\/w.heap.size<=b)/\
   Mem.le ⟨w,D⟩ ⟨w',D'⟩/\m.le m' /\m'.le ⟨w',D'⟩/\R r H' m'
structure Ctx where
 w0:World
 D0:Nat->Nat
 F:Nat->Prop
 H0:Hp
 V0:Vl
 m0:Mem
def ft (rho:List Gd) (p:be):Prop:=∀x∈p,∃g,fF rho x.1=some g
def bD:List Vc->Nat->Nat->Prop
 |[],_,_=>True
 |⟨k',u',_,_,_,_⟩::r,k,u=>if k' =k then u<=u' else bD r k u
def kK (nid:Nat) (vc:List Vc):SV->Prop
 | .v _=>True
 | .box k _=>k<nid
 | .vec k u=>k<nid/\bD vc k u
 | .vp k u _=>k<nid/\bD vc k u
 | .mp k=>k<nid
 | .mv _ k _=>k<nid
 | .agg _=>True
 | .tup _=>True
def eL (nid:Nat) (vc:List Vc):List SV->Prop
 |[]=>True
 |s::r=>kK nid vc s/\eL nid vc r
def okB (nid:Nat) (vc:List Vc):SV->Prop
 | .agg cs=>eL nid vc cs
 |s=>kK nid vc s
def wA (nid:Nat) (vc:List Vc):List SV->Prop
 |[]=>True
 |s::r=>okB nid vc s/\wA nid vc r
def ix (nid:Nat) (vc:List Vc):SV->Prop
 | .tup l=>wA nid vc l
 |s=>okB nid vc s
structure SatF (n:Nat) (env:List Ev) (rho:List Gd) (a:Act) (V:Vl):Prop where
 defers:a.defers=[]
 size:a.tmps.size=n
 pth:∀e∈env,ft rho e.p
 env:∀t p s,ft rho p->fj env t p=some s->bF rho p=true->a.tmps[t]? =some (den V s)
 rho:∀g∈rho,fF rho g.i=some g/\ft rho g.p/\a.tmps[g.slot]? =some (if bF rho g.p=true then .bool g.b.val else undef)
structure SatW (C:Ctx) (bx:List Bx) (vc:List Vc) (nid:Nat) (m:Mem) (V:Vl) (D:Nat->Nat) (w:World):Prop where
 heap:HSat V D w ⟨bx,vc⟩
 wf:Wf w D
 frm:Frm C.F C.w0 C.D0 w D
 own:∀b∈aW V ⟨bx,vc⟩,C.F b\/C.w0.heap.size<=b
 baseB:∀b∈C.H0.bx,V.β b.id=C.V0.β b.id/\b.id<nid
 baseV:∀b∈C.H0.vc,(∀u,u<=b.ver->V.γ b.id u=C.V0.γ b.id u)/\b.id<nid/\bD vc b.id b.ver
 ids:(∀b∈bx,b.id<nid/\eL nid vc b.cs)/\∀b∈vc,b.id<nid
 le0:Mem.le ⟨C.w0,C.D0⟩ ⟨w,D⟩
 m0:C.m0.le m
 mle:m.le ⟨w,D⟩
structure Sat (C:Ctx) (n:Nat) (st:LS) (a:Act) (V:Vl) (D:Nat->Nat) (w:World):Prop where
 f:SatF n st.env st.rho a V
 ids:∀e∈st.env,ix st.nid st.vc e.s
 w:SatW C st.bx st.vc st.nid st.m V D w
theorem Sat.env {C:Ctx} {n:Nat} {st:LS} {a:Act} {V:Vl} {D:Nat->Nat} {w:World} (h:Sat C n st a V D w):∀t p s,ft st.rho p->fj st.env t p=some s->bF st.rho p=true->a.tmps[t]? =some (den V s):=h.f.env
theorem Sat.rho {C:Ctx} {n:Nat} {st:LS} {a:Act} {V:Vl} {D:Nat->Nat} {w:World} (h:Sat C n st a V D w):∀g∈st.rho,fF st.rho g.i=some g/\ft st.rho g.p/\a.tmps[g.slot]? =some (if bF st.rho g.p=true then .bool g.b.val else undef):=h.f.rho
theorem Sat.heap {C:Ctx} {n:Nat} {st:LS} {a:Act} {V:Vl} {D:Nat->Nat} {w:World} (h:Sat C n st a V D w):HSat V D w ⟨st.bx,st.vc⟩:=h.w.heap
theorem Sat.mle {C:Ctx} {n:Nat} {st:LS} {a:Act} {V:Vl} {D:Nat->Nat} {w:World} (h:Sat C n st a V D w):st.m.le ⟨w,D⟩:=h.w.mle
def jl (C:Ctx) (n:Nat) (st:LS) (a:Act) (w:World):Prop:=st.rho=[]/\∃V D,Sat C n st a V D w
def WP (P:Program) (n:Nat) (c:Code) (Q:Exit->LS->Prop) (st:LS):Prop:=
 ∀(C:Ctx) (a:Act) (w:World),jl C n st a w->c.wp P (fun e a' w' =>∃aj,jl C n aj a' w' /\Q e aj) a w
def js {P:Program} {n:Nat} {c:Code} {Q:Exit->LS->Prop} (x:A (P,n,c,Q) LS):Prop:=match x with | .mk st=>WP P n c Q st
def Eg {P:Program} {f:FuncId} {R:SV->Hp->Mem->Prop} (x:A (P,f,R) (List SV×Hp×Mem)):Prop:=match x with | .mk (args,H,m)=>FnH P f args H m R
/-! Operations that act. -/
def vy:List SV->Option (List Value)
 |[]=>some []
 |s::r=>(ox s).bind fun x=>(vy r).map (x:: ·)
def jn:List SV->Bool
 |[]=>true
 | .v x::r=>x.oneCell' &&jn r
 | .box _ _::r=>jn r
 | .vec _ _::r=>jn r
 | .vp _ _ _::r=>jn r
 | .mp _::r=>jn r
 | .mv _ _ _::r=>jn r
 | .agg _::_=>false
 | .tup _::_=>false
def jV:List Bx->Nat->List SV->List Bx
 |[],_,_=>[]
 |⟨k',t',cU⟩::r,k,cs=>if k' =k then⟨k',t',cs⟩::r else⟨k',t',cU⟩::jV r k cs
def oL:List Vc->Nat->Vc->List Vc
 |[],_,_=>[]
 |⟨k',u',e',z',n',x'⟩::r,k,x=>if k' =k then x::r else⟨k',u',e',z',n',x'⟩::oL r k x
def G1 (xs:List Value) (off:Nat):List Value->List Value
 |[]=>xs
 |c::r=>G1 (xs.set off c) (off+1) r
def Dr {st:LS} {K:Value->LS->Prop} (x:A (st,K) Vc):Prop:=
 match x with
 | .mk b=>∀(a:Option Addr) (c:Nat) (m1:Mem),st.m.le m1->b.n<=c->aM m1 a b.n b.sz b.xs->K (.slice a b.n c) ⟨st.env,st.rho,st.bx,st.vc,st.nid,m1⟩
def nD:List SV->(List SV->LS->Prop)->LS->Prop
 |[],K,st=>K [] st
 | .vec k u::r,K,st=>aF (.mk (k:=fun b:Vc=>Dr (.mk (k:=(st,fun v aj=>nD r (fun r' kD=>K (.v v::r') kD) aj)) b)) (cS st.vc k u))
 | .v x::r,K,st=>nD r (fun r' aj=>K (.v x::r') aj) st
 | .box k o::r,K,st=>nD r (fun r' aj=>K (.box k o::r') aj) st
 | .vp k u o::r,K,st=>nD r (fun r' aj=>K (.vp k u o::r') aj) st
 | .mp k::r,K,st=>nD r (fun r' aj=>K (.mp k::r') aj) st
 | .mv f k o::r,K,st=>nD r (fun r' aj=>K (.mv f k o::r') aj) st
 | .agg cs::r,K,st=>nD r (fun r' aj=>K (.agg cs::r') aj) st
 | .tup cs::r,K,st=>nD r (fun r' aj=>K (.tup cs::r') aj) st
def lf {K:List SV->LS->Prop} (x:A K (LS×List SV)):Prop:=match x with | .mk (st,l)=>nD l K st
def Af:List SV->(List SV->LS->Prop)->LS->Prop
 |[],K,st=>K [] st
 | .agg cs::r,K,st=>nD cs (fun cU aj=>Af r (fun r' kD=>K (.agg cU::r') kD) aj) st
 |s::r,K,st=>nD [s] (fun s' aj=>Af r (fun r' kD=>K (s' ++r') kD) aj) st
def nM {K:List SV->LS->Prop} (x:A K (LS×List SV)):Prop:=match x with | .mk (st,l)=>Af l K st
def ye (acc:List Nat) (k:Nat):List Nat:=if acc.contains k=true then acc else acc++[k]
def jY (acc:List Nat):List SV->List Nat
 |[]=>acc
 | .box k _::r=>jY (ye acc k) r
 | .vec k _::r=>jY (ye acc k) r
 | .vp k _ _::r=>jY (ye acc k) r
 | .mp k::r=>jY (ye acc k) r
 | .mv _ k _::r=>jY (ye acc k) r
 | .v _::r=>jY acc r
 | .agg _::r=>jY acc r
 | .tup _::r=>jY acc r
def cellsOf:Option Bx->List SV
 |some b=>b.cs
 |none=>[]
def nN (acc:List Nat):List SV->List Nat
 |[]=>acc
 | .agg cs::r=>nN (jY acc cs) r
 |s::r=>nN (jY acc [s]) r
def ym (bx:List Bx):List Nat->List Nat->List Nat
 |acc,[]=>acc
 |acc,k::r=>ym bx (jY acc (cellsOf (gl bx k))) r
def r0 (bx:List Bx) (l:List Nat):List Nat:=ym bx (ym bx l l) (ym bx l l)
def idxOf:List Nat->Nat->Option Nat
 |[],_=>none
 |j::r,i=>if j=i then some 0 else(idxOf r i).map (· +1)
def iv (L:List Nat) (base:Nat) (i:Nat):Nat:=((idxOf L i).map fun j=>j).getD (base+i)
def ew (L:List Nat) (base:Nat) (j:Nat):Nat:=(L[j]?).getD (base+j)
def lO (ρ:Nat->Nat):SV->SV
 | .box k o=> .box (ρ k) o
 | .vec k u=> .vec (ρ k) u
 | .vp k u o=> .vp (ρ k) u o
 | .mp k=> .mp (ρ k)
 | .mv f k o=> .mv f (ρ k) o
 | .v x=> .v x
 | .agg cs=> .agg cs
 | .tup cs=> .tup cs
def yf (ρ:Nat->Nat):SV->SV
 | .agg cs=> .agg (cs.map (lO ρ))
 |s=>lO ρ s
def sJ (ρ:Nat->Nat):SV->SV
 | .tup l=> .tup (l.map (yf ρ))
 |s=>yf ρ s
def oB (ρ:Nat->Nat):Bx->Bx |⟨k,t,cs⟩=>⟨ρ k,t,cs.map (lO ρ)⟩
def ji (ρ:Nat->Nat):Vc->Vc |⟨k,u,e,z,n,xs⟩=>⟨ρ k,u,e,z,n,xs⟩
def lR:List Vc->Nat->Option Vc
 |[],_=>none
 |⟨k',u',e',z',n',x'⟩::r,i=>if k' =i then some ⟨k',u',e',z',n',x'⟩ else lR r i
def fz (L:List Nat):List Bx->List Bx
 |[]=>[]
 |⟨k',t',cU⟩::r=>if L.contains k' =true then⟨k',t',cU⟩::fz L r else fz L r
def fe (L:List Nat):List Vc->List Vc
 |[]=>[]
 |⟨k',u',e',z',n',x'⟩::r=>if L.contains k' =true then⟨k',u',e',z',n',x'⟩::fe L r else fe L r
def mo (L:List Nat):List Bx->List Bx
 |[]=>[]
 |⟨k',t',cU⟩::r=>if L.contains k' =true then mo L r else⟨k',t',cU⟩::mo L r
def lE (L:List Nat):List Vc->List Vc
 |[]=>[]
 |⟨k',u',e',z',n',x'⟩::r=>if L.contains k' =true then lE L r else⟨k',u',e',z',n',x'⟩::lE L r
def mF:List Bx->Nat |[]=>0 |⟨k,_,_⟩::r=>max (k+1) (mF r)
def mE:List Vc->Nat |[]=>0 |⟨k,_,_,_,_,_⟩::r=>max (k+1) (mE r)
structure Cfg where
 own:FuncId->Bool
 pure:FuncId->Option (Mem->List Value->Option (Prop×Value))
def tV (st:LS) (L:List Nat) (H' :Hp) (m' :Mem):LS:=
 ⟨st.env,st.rho,H'.bx.map (oB (ew L st.nid))++mo L st.bx,H'.vc.map (ji (ew L st.nid))++lE L st.vc,st.nid+max (mF H'.bx) (mE H'.vc),m'⟩
def A6:List Nat->Prop
 |[]=>True
 |k::r=>r.contains k=false/\A6 r
def th (n:Nat):List Nat->Prop
 |[]=>True
 |k::r=>k<n/\th n r
def qI (L:List Nat):SV->Prop
 | .v _=>True
 | .box k _=>L.contains k=true
 | .vec k _=>L.contains k=true
 | .vp k _ _=>L.contains k=true
 | .mp k=>L.contains k=true
 | .mv _ k _=>L.contains k=true
 | .agg _=>True
 | .tup _=>False
def wB (L:List Nat):List SV->Prop
 |[]=>True
 |s::r=>qI L s/\wB L r
def DZ (L:List Nat):SV->Prop
 | .agg cs=>wB L cs
 |s=>qI L s
def AH (L:List Nat):List SV->Prop
 |[]=>True
 |s::r=>DZ L s/\AH L r
def yl (L:List Nat):List Bx->Prop
 |[]=>True
 |⟨_,_,cs⟩::r=>wB L cs/\yl L r
def G5 (st:LS) (L:List Nat) (args:List SV):Prop:=A6 L/\th st.nid L/\AH L args/\yl L (fz L st.bx)
def qU (nB nV:List Nat) (len:Nat):SV->Prop
 | .v _=>True
 | .box j _=>if j<len then nB.contains j=true else True
 | .vec j _=>if j<len then nV.contains j=true else True
 | .vp j _ _=>if j<len then nV.contains j=true else True
 | .mp j=>if j<len then nB.contains j=true else True
 | .mv _ j _=>if j<len then nB.contains j=true else True
 | .agg _=>True
 | .tup _=>True
def wX (nB nV:List Nat) (len:Nat):List SV->Prop
 |[]=>True
 |s::r=>qU nB nV len s/\wX nB nV len r
def BF (nB nV:List Nat) (len:Nat):SV->Prop
 | .agg cs=>wX nB nV len cs
 |s=>qU nB nV len s
def BE (nB nV:List Nat) (len:Nat):List SV->Prop
 |[]=>True
 |s::r=>BF nB nV len s/\BE nB nV len r
def Ef (nB nV:List Nat) (len:Nat):SV->Prop
 | .tup l=>BE nB nV len l
 |s=>BF nB nV len s
def yv (nB nV:List Nat) (len:Nat):List Bx->Prop
 |[]=>True
 |⟨k,_,cs⟩::r=>(if k<len then nB.contains k=true else True)/\wX nB nV len cs/\yv nB nV len r
def yu (nV:List Nat) (len:Nat):List Vc->Prop
 |[]=>True
 |⟨k,_,_,_,_,_⟩::r=>(if k<len then nV.contains k=true else True)/\yu nV len r
def xV (nid:Nat) (vc:List Vc):List Bx->Prop
 |[]=>True
 |⟨_,_,cs⟩::r=>eL nid vc cs/\xV nid vc r
def Ad (L:List Nat) (dV:List Vc):List Vc->Prop
 |[]=>True
 |⟨k,u,_,_,_,_⟩::r=>(if L.contains k=true then bD dV k u else True)/\Ad L dV r
def my:List Bx->List Nat
 |[]=>[]
 |⟨k,_,_⟩::r=>k::my r
def kY:List Vc->List Nat
 |[]=>[]
 |⟨k,_,_,_,_,_⟩::r=>k::kY r
def fE (st:LS) (L:List Nat):Hp:=⟨(fz L st.bx).map (oB (iv L 0)),(fe L st.vc).map (ji (iv L 0))⟩
def L4 {L:List Nat} {r:SV} {H' :Hp} (x:A (L,r,H') (LS×LS×Hp)):Prop:=
 match x with
 | .mk (st,aj,Hi)=>Ef (my Hi.bx) (kY Hi.vc) L.length r/\yv (my Hi.bx) (kY Hi.vc) L.length H'.bx/\yu (kY Hi.vc) L.length H'.vc/\
   ix aj.nid aj.vc (sJ (ew L st.nid) r)/\xV aj.nid aj.vc (H'.bx.map (oB (ew L st.nid)))/\Ad L (H'.vc.map (ji (ew L st.nid))) st.vc
def Gs (st:LS) (L:List Nat) (r:SV) (H' :Hp) (m' :Mem):Prop:=L4 (.mk (k:=(L,r,H')) (st,tV st L H' m',fE st L))
def GW {P:Program} {f:FuncId} {st:LS} {args:List SV} {K:SV->LS->Prop} (x:A (P,f,st,args,K) (List Nat)):Prop:=
 match x with
 | .mk L=>G5 st L args/\Eg (.mk (k:=(P,f,fun r H' m' =>Gs st L r H' m' /\K (sJ (ew L st.nid) r) (tV st L H' m')))
   (args.map (sJ (iv L 0)),fE st L,st.m))
def Av {P:Program} {f:FuncId} {K:SV->LS->Prop} (x:A (P,f,K) (LS×List SV)):Prop:=
 match x with
 | .mk (st,args)=>GW (.mk (k:=(P,f,st,args,K)) (r0 st.bx (nN [] args)))
def Au {P:Program} {f:FuncId} {st:LS} {args:List SV} {K:SV->LS->Prop} (x:A (P,f,st,args,K) Bool):Prop:=
 match x with
 | .mk true=>Av (.mk (k:=(P,f,K)) (st,args))
 | .mk false=>nM (.mk (k:=fun iE aj=>Av (.mk (k:=(P,f,K)) (aj,iE))) (st,args))
def sK (st:LS) (p:be):List Operand->Option (List SV)
 |[]=>some []
 |x::r=>(bU st p x).bind fun s=>(sK st p r).map (s:: ·)
def oy (sz:Nat) (st:LS) (p:be):List (Nat×Operand)->List SV->Option (List SV)
 |[],cs=>some cs
 |(i,x)::r,cs=>((bU st p x).bind ky).bind fun l=>if l.length=sz then(if i * sz+sz<=cs.length then oy sz st p r (ke cs (i * sz) l) else none) else none
def sn (sz:Nat) (st:LS) (p:be):Nat->List (Nat×Operand)->Option (List SV)
 |_,[]=>some []
 |i,(j,x)::r=>if j=i then((bU st p x).bind ky).bind fun l=>if l.length=sz then(sn sz st p (i+1) r).map (l++ ·) else none else none
def zX (sz:Nat) (st:LS) (p:be) (parts:List (Nat×Operand)) (len:Nat) (z:List SV):Option (List SV)->Option (List SV)
 |some cs=>if cs.length=len * sz then some cs else oy sz st p parts (List.replicate len z).flatten
 |none=>oy sz st p parts (List.replicate len z).flatten
def mC:Vc->Nat->List Value->Vc |⟨k,u,e,z,_,_⟩,n,xs=>⟨k,u+1,e,z,n,xs⟩
def room (n vl:Nat):Prop:=n * vl<=140737488355328/\n<=maxLen
def tX {P:Program} {tx:TypeId} {sz:Nat} {K:Nat->List Value->Prop} (x:A (P,tx,sz,K) (LS×SV)):Prop:=
 match x with
 | .mk (st,.vec k u)=>aF (.mk (k:=fun _:TypeId=>aF (.mk (k:=fun b:Vc=>b.sz=sz/\K b.n b.xs) (cS st.vc k u))) (gV P tx))
 | .mk (st,.v (.slice a n _))=>aF (.mk (k:=fun _:TypeId=>∃xs,aM st.m a n sz xs/\(∀u∈xs,u.oneCell' =true)/\K n xs) (gV P tx))
 | .mk (_,.v (.string s))=>P.underlying tx=some .string/\sz=1/\K (tl s).length (kh (tl s))
 |_=>False
def yk {P:Program} {e tx:TypeId} {y:SV} {K:SV->LS->Prop} (x:A (P,e,tx,y,K) (LS×SV)):Prop:=
 match x with
 | .mk (st,.vec k u)=>aF (.mk (k:=fun b:Vc=>b.sz=bf P e/\b.el=e/\0<bf P e/\aF (.mk (k:=fun z:List SV=>z.length=bf P e/\tX (.mk (k:=(P,tx,bf P e,fun n xs=>room (b.n+n) (mY P e)/\
   K (.vec k (u+1)) ⟨st.env,st.rho,st.bx,oL st.vc k (mC b (b.n+n) (b.xs++xs)),st.nid,st.m⟩)) (st,y))) (eV P e))) (cS st.vc k u))
 | .mk (st,.v (.slice none 0 0))=>0<bf P e/\aF (.mk (k:=fun z:List SV=>z.length=bf P e/\tX (.mk (k:=(P,tx,bf P e,fun n xs=>room n (mY P e)/\
   K (.vec st.nid 0) ⟨st.env,st.rho,st.bx,⟨st.nid,0,e,bf P e,n,xs⟩::st.vc,st.nid+1,st.m⟩)) (st,y))) (eV P e))
 |_=>False
def Dz {sz:Nat} {cs:List SV} {K:SV->LS->Prop} (x:A (sz,cs,K) (LS×SV)):Prop:=
 match x with
 | .mk (st,.box k o)=>aF (.mk (k:=fun b:Bx=>b.ty<nE/\0<sz/\cs.length=sz/\jn cs=true/\eL st.nid st.vc cs/\o+cs.length<=b.cs.length/\K (.v undef) ⟨st.env,st.rho,jV st.bx k (ke b.cs o cs),st.vc,st.nid,st.m⟩) (gl st.bx k))
 |_=>False
def DV {P:Program} {e:TypeId} {z:List Value} {K:SV->LS->Prop} (x:A (P,e,z,K) (LS×SV×SV)):Prop:=
 match x with
 | .mk (st,.v (.int _ l),.v (.int _ cp))=>0<=l/\l<=cp/\room cp.toNat (mY P e)/\z.length=bf P e/\0<bf P e/\jn (z.map .v)=true/\
   K (.vec st.nid 0) ⟨st.env,st.rho,st.bx,⟨st.nid,0,e,bf P e,l.toNat,(List.replicate l.toNat z).flatten⟩::st.vc,st.nid+1,st.m⟩
 |_=>False
def gM (P:Program) (f:FuncId):Bool:=
 match P.funcs[f]? with
 |some fn=> !(fn.name== "runtime.NumGoroutine")&&fn.body.isSome
 |none=>false
def Al {c:Cfg} {P:Program} {l:List SV} {K:SV->LS->Prop} (x:A (c,P,l,K) (LS×SV)):Prop:=
 match x with
 | .mk (st,.v (.func (.func f) ⟨[]⟩ ⟨[]⟩))=>gM P f=true/\Au (.mk (k:=(P,f,st,l,K)) (c.own f))
 | .mk (st,.mv f k o)=>gM P f=true/\Au (.mk (k:=(P,f,st,.box k o::l,K)) (c.own f))
 |_=>False
def DU {f:FuncId} {K:SV->LS->Prop} (x:A (f,K) (LS×SV)):Prop:=
 match x with
 | .mk (st,.box k o)=>K (.mv f k o) st
 |_=>False
def DA {P:Program} {t:TypeId} {K:SV->LS->Prop} (x:A (P,t,K) (LS×SV×Option Value×Option Value)):Prop:=
 match x with
 | .mk (st,.mp k,some key,some v)=>aF (.mk (k:=fun b:Bx=>(b.ty==(im P t).1)=true/\uo P t/\fN b.ty key/\ka b.ty v/\aF (.mk (k:=fun l:List Value=>K (.v undef) ⟨st.env,st.rho,jV st.bx k ((uy l key v).map .v),st.vc,st.nid,st.m⟩) (lC b.cs))) (gl st.bx k))
 |_=>False
def nT {c:Cfg} {P:Program} {op:Op} {K:SV->LS->Prop} (x:A (c,P,op,K) (LS×be)):Prop:=
 match op,x with
 | .alloc t,.mk (st,_)=>aF (.mk (k:=fun cs:List SV=>t<nE/\eL st.nid st.vc cs/\K (.box st.nid 0) ⟨st.env,st.rho,⟨st.nid,t,cs⟩::st.bx,st.vc,st.nid+1,st.m⟩) (eV P t))
 | .box t x,.mk (st,p)=>aF (.mk (k:=fun cs:List SV=>t<nE/\eL st.nid st.vc cs/\K (.box st.nid 0) ⟨st.env,st.rho,⟨st.nid,t,cs⟩::st.bx,st.vc,st.nid+1,st.m⟩) ((bU st p x).bind ky))
 | .store t a x,.mk (st,p)=>aF (.mk (k:=fun a:SV=>aF (.mk (k:=fun cs:List SV=>Dz (.mk (k:=(bf P t,cs,K)) (st,a))) ((bU st p x).bind ky))) (bU st p a))
 | .buildSlice t len parts,.mk (st,p)=>aF (.mk (k:=fun e:TypeId=>aF (.mk (k:=fun z:List SV=>z.length=bf P e/\0<bf P e/\len * bf P e<=16777216/\
   aF (.mk (k:=fun cs:List SV=>lf (.mk (k:=fun cU aj=>aF (.mk (k:=fun l:List Value=>jn cU=true/\
    K (.vec aj.nid 0) ⟨aj.env,aj.rho,aj.bx,⟨aj.nid,0,e,bf P e,len,l⟩::aj.vc,aj.nid+1,aj.m⟩) (lC cU))) (st,cs)))
    (zX (bf P e) st p parts.toList len z (sn (bf P e) st p 0 parts.toList)))) (eV P e))) (gV P t))
 | .call {callee:= .builtin .append,args:=⟨[s,x]⟩,argTypes:=⟨[t,tx]⟩},.mk (st,p)=>
   aF (.mk (k:=fun s:SV=>aF (.mk (k:=fun y:SV=>aF (.mk (k:=fun e:TypeId=>yk (.mk (k:=(P,e,tx,y,K)) (st,s))) (gV P t))) (bU st p x))) (bU st p s))
 | .makeSlice t l cp,.mk (st,p)=>aF (.mk (k:=fun l:SV=>aF (.mk (k:=fun cp:SV=>aF (.mk (k:=fun e:TypeId=>aF (.mk (k:=fun z:List Value=>DV (.mk (k:=(P,e,z,K)) (st,l,cp))) ((eV P e).bind lC))) (gV P t))) (bU st p cp))) (bU st p l))
 | .makeMap t none,.mk (st,_)=>uo P t/\K (.mp st.nid) ⟨st.env,st.rho,⟨st.nid,(im P t).1,[]⟩::st.bx,st.vc,st.nid+1,st.m⟩
 | .makeFunc (.func f) ⟨[r]⟩ ⟨[]⟩,.mk (st,p)=>aF (.mk (k:=fun s:SV=>DU (.mk (k:=(f,K)) (st,s))) (bU st p r))
 | .mapUpdate t m k x,.mk (st,p)=>aF (.mk (k:=fun a:SV=>aF (.mk (k:=fun i:SV=>aF (.mk (k:=fun y:SV=>DA (.mk (k:=(P,t,K)) (st,a,ox i,ox y))) (bU st p x))) (bU st p k))) (bU st p m))
 | .call {callee:= .value f,args,..},.mk (st,p)=>aF (.mk (k:=fun l:List SV=>aF (.mk (k:=fun f:SV=>Al (.mk (k:=(c,P,l,K)) (st,f))) (bU st p f))) (sK st p args.toList))
 |_,_=>False
inductive OpK where
 |qt
 |pu (F:Mem->List Value->Option (Prop×Value))
 |ac
def pk:Option (Mem->List Value->Option (Prop×Value))->OpK
 |some F=> .pu F
 |none=> .ac
def fZ (c:Cfg):Op->OpK
 | .move _ | .assign _ | .pick .. | .nilCheck _ | .binOp .. | .unOp .. | .convert .. | .fieldAddr .. | .field .. | .indexAddr .. | .index .. | .slice .. | .load .. | .extract .. | .build .. | .lookup .. => .qt
 | .call {callee:= .builtin .len,..}=> .qt
 | .call {callee:= .builtin .min,..}=> .qt
 | .call {callee:= .builtin .max,..}=> .qt
 | .call {callee:= .value (.func f),..}=>pk (c.pure f)
 |_=> .ac
def xF:Op->List Operand
 | .call {args,..}=>args.toList
 |_=>[]
def GD {F:List Value->Option (Prop×Value)} {u:Prop->Prop} {K:SV->Prop} (x:A (F,u,K) (Option (List SV))):Prop:=
 match x with
 | .mk l=>aF (.mk (k:=fun y:Prop×Value=>u y.1/\K (.v y.2)) ((l.bind vy).bind F))
/-! A region, in the order of the text. -/
def kF:List Gd->Nat->Bool->List Gd
 |[],_,_=>[]
 |⟨i',t',p',b'⟩::r,j,x=>if i' =j then⟨i',t',p',.lit x⟩::kF r j x else⟨i',t',p',b'⟩::kF r j x
def qh {j:Nat} {w:Bool} {dead live:LS->Prop} (x:A (j,w,dead,live) (LS×Gd)):Prop:=
 match w,x with
 |true,.mk (st,⟨_,t,q,.sym b⟩)=>
   (b=true->live ⟨⟨t,q,.v (.bool true)⟩::st.env,kF st.rho j true,st.bx,st.vc,st.nid,st.m⟩)/\
   (b=false->dead ⟨⟨t,q,.v (.bool false)⟩::st.env,kF st.rho j false,st.bx,st.vc,st.nid,st.m⟩)
 |false,.mk (st,⟨_,t,q,.sym b⟩)=>
   (b=false->live ⟨⟨t,q,.v (.bool false)⟩::st.env,kF st.rho j false,st.bx,st.vc,st.nid,st.m⟩)/\
   (b=true->dead ⟨⟨t,q,.v (.bool true)⟩::st.env,kF st.rho j true,st.bx,st.vc,st.nid,st.m⟩)
 |true,.mk (st,⟨_,_,_,.lit true⟩)=>live st
 |false,.mk (st,⟨_,_,_,.lit false⟩)=>live st
 |true,.mk (st,⟨_,_,_,.lit false⟩)=>dead st
 |false,.mk (st,⟨_,_,_,.lit true⟩)=>dead st
def C4:be->(LS->Prop)->(LS->Prop)->LS->Prop
 |[],_,live,st=>live st
 |(j,w)::p,dead,live,st=>C4 p dead (fun aj=>aF (.mk (k:=fun g:Gd=>qh (.mk (k:=(j,w,dead,live)) (aj,g))) (fF aj.rho j))) st
def Dn {dead live:LS->Prop} (x:A (dead,live) (LS×be)):Prop:=match x with | .mk (st,p)=>C4 p dead live st
def put (st:LS) (d:Option Nat) (p:be) (s:SV):LS:=
 match d with
 |some d=>⟨⟨d,p,s⟩::st.env,st.rho,st.bx,st.vc,st.nid,st.m⟩
 |none=>st
def kV (st:LS) (i:Nat) (d:Option Nat) (p:be) (mv:Bool) (s:SV):LS:=
 match mv,d,s with
 |true,some d,.v (.bool b)=>⟨st.env,⟨i,d,p,.sym b⟩::st.rho,st.bx,st.vc,st.nid,st.m⟩
 |_,_,_=>st
def ns:Op->Bool
 | .move _=>true
 |_=>false
def pathOf (st:LS):Option (Nat×Bool)->Option be
 |none=>some []
 |some (j,w)=>(fF st.rho j).map fun g=>(j,w)::g.p
def kW (st:LS) (i:Nat) (d:Option Nat) (p:be) (mv:Bool):LS:=
 match mv,d with
 |true,some d=>⟨st.env,⟨i,d,p,.sym false⟩::st.rho,st.bx,st.vc,st.nid,st.m⟩
 |_,_=>st
def vZ {c:Cfg} {P:Program} {i:Nat} {o:Oper} {K:LS->Prop} {q:OpK} {dead:Bool} (x:A (c,P,i,o,K,q,dead) (LS×be)):Prop:=
 match dead,q,x with
 |true,_,.mk (st,p)=>K (kW (put st o.dst p (.v undef)) i o.dst p (ns o.op))
 |false,.qt,.mk (st,p)=>qOp (.mk (k:=(P,o.op,fun s=>ix st.nid st.vc s/\K (kV (put st o.dst p s) i o.dst p (ns o.op) s))) (st,p))
 |false,.pu F,.mk (st,p)=>GD (.mk (k:=(F st.m,oP st p,fun s=>K (put st o.dst p s))) (sK st p (xF o.op)))
 |false,.ac,.mk (st,p)=>Dn (.mk (k:=(fun aj=>K (put aj o.dst p (.v undef)),fun aj=>nT (.mk (k:=(c,P,o.op,fun s kD=>ix kD.nid kD.vc s/\K (put kD o.dst p s))) (aj,p)))) (st,p))
def jE:List Gd->Option Nat->Bool
 |[],_=>false
 |_::_,none=>false
 |⟨_,t',_,_⟩::r,some d=>if t' =d then true else jE r (some d)
def AD {c:Cfg} {P:Program} {i:Nat} {o:Oper} {K:LS->Prop} {st:LS} {p:be} (x:A (c,P,i,o,K,st,p) (OpK×Bool×Bool)):Prop:=
 match x with
 | .mk (q,dead,false)=>vZ (.mk (k:=(c,P,i,o,K,q,dead)) (st,p))
 | .mk (_,_,true)=>False
def one {c:Cfg} {P:Program} {i:Nat} {o:Oper} {K:LS->Prop} (x:A (c,P,i,o,K) (LS×be)):Prop:=
 match x with
 | .mk (st,p)=>AD (.mk (k:=(c,P,i,o,K,st,p)) (fZ c o.op,uk st.rho p,jE st.rho o.dst))
def ik:List Nat->Nat->Bool
 |[],_=>false
 |y::r,x=>if y=x then true else ik r x
def mq:List Nat->List Ev->List Ev
 |_,[]=>[]
 |dead,⟨t,[],s⟩::r=>if ik dead t=true then mq dead r else⟨t,[],s⟩::mq dead r
 |dead,⟨t,_::_,_⟩::r=>mq (t::dead) r
def clean (st:LS):LS:=⟨mq [] st.env,[],st.bx,st.vc,st.nid,st.m⟩
def AA (c:Cfg) (P:Program):List Oper->Nat->(LS->Prop)->LS->Prop
 |[],_,K,st=>K (clean st)
 |o::r,i,K,st=>aF (.mk (k:=fun p:be=>one (.mk (k:=(c,P,i,o,fun aj=>AA c P r (i+1) K aj)) (st,p))) (pathOf st o.guard))
def yy {c:Cfg} {P:Program} {i:Nat} {l:List Oper} {K:LS->Prop} (x:A (c,P,i,l,K) LS):Prop:=match x with | .mk st=>AA c P l i K st
/-! Code. -/
def ra:SV->Option Bool
 | .v (.bool b)=>some b
 |_=>none
def lh:Code->Bool
 | .ret | .exit _ | .goto _ | .loop _=>false
 | .seq a b=>lh a&&lh b
 | .cond _ a b=>lh a||lh b
 |_=>true
def jf (K:LS->Prop) (Q:Exit->LS->Prop):Exit->LS->Prop
 | .normal,st=>K st
 |e,st=>Q e st
def Am (l:Nat) (J:LS->Prop) (Q:Exit->LS->Prop):Exit->LS->Prop
 | .goto l',st=>l' =l/\J st
 |e,st=>Q e st
def pf (id:Nat) (Q:Exit->LS->Prop):Exit->LS->Prop
 | .exit id',st=>if id' =id then Q .normal st else Q (.exit id') st
 |e,st=>Q e st
def lN (c:Cfg) (P:Program) (n:Nat):Code->(Exit->LS->Prop)->LS->Prop
 | .skip,Q,st=>Q .normal st
 | .region _ ⟨ops⟩ false,Q,st=>yy (.mk (k:=(c,P,0,ops,Q .normal)) st)
 | .seq (.cond x a b) rest,Q,st=>
  match lh a&&lh b with
  |true=>js (.mk (k:=(P,n,.seq (.cond x a b) rest,Q)) st)
  |false=>aF (.mk (k:=fun t:Bool=>(t=true->lN c P n a (jf (lN c P n rest Q) Q) st)/\(t=false->lN c P n b (jf (lN c P n rest Q) Q) st)) ((bU st [] x).bind ra))
 | .seq a b,Q,st=>lN c P n a (jf (lN c P n b Q) Q) st
 | .cond x a b,Q,st=>aF (.mk (k:=fun t:Bool=>(t=true->lN c P n a Q st)/\(t=false->lN c P n b Q st)) ((bU st [] x).bind ra))
 | .block id a,Q,st=>lN c P n a (pf id Q) st
 | .exit id,Q,st=>Q (.exit id) st
 | .ret,Q,st=>Q .ret st
 | .label _,Q,st=>Q .normal st
 | .goto l,Q,st=>Q (.goto l) st
 |x,Q,st=>js (.mk (k:=(P,n,x,Q)) st)
def dq {c:Cfg} {P:Program} {n:Nat} {x:Code} {Q:Exit->LS->Prop} (y:A (c,P,n,x,Q) LS):Prop:=match y with | .mk st=>lN c P n x Q st
def Hu {c:Cfg} {P:Program} {n:Nat} {t e:Code} {Q:Exit->LS->Prop} {st:LS} (y:A (c,P,n,t,e,Q,st) Bool):Prop:=
 match y with
 | .mk b=>(b=true->dq (.mk (k:=(c,P,n,t,Q)) st))/\(b=false->dq (.mk (k:=(c,P,n,e,Q)) st))
/-! Results, loops, joins. -/
def vV:List SV->SV
 |[x]=>x
 |l=> .tup l
def Dq (P:Program) (st:LS) (t:TypeId):Option SV->Option SV
 |some (.box k o)=>(gl st.bx k).bind fun b=>if b.ty<nE then(dY P t).bind fun ag=>tZ b.cs o ag else none
 |_=>none
def oM (P:Program) (st:LS):List ResultVar->Option (List SV)
 |[]=>some []
 | .tmp t::r=>((fj st.env t []).bind mw).bind fun s=>(oM P st r).map (s:: ·)
 | .cell a t::r=>((Dq P st t (fj st.env a [])).bind mw).bind fun s=>(oM P st r).map (s:: ·)
def Hl {st:LS} {l:List SV} {R:SV->Hp->Mem->Prop} (x:A (st,l,R) (List Nat)):Prop:=
 match x with
 | .mk L=>R (vV l) ⟨fz L st.bx,fe L st.vc⟩ st.m
def yq (P:Program) (res:List ResultVar) (sU:List Nat) (R:SV->Hp->Mem->Prop):Exit->LS->Prop
 | .ret,st=>aF (.mk (k:=fun l:List SV=>Hl (.mk (k:=(st,l,R)) (r0 st.bx (nN sU l)))) (oM P st res))
 | .normal,st=>aF (.mk (k:=fun l:List SV=>Hl (.mk (k:=(st,l,R)) (r0 st.bx (nN sU l)))) (oM P st res))
 |_,_=>False
def sY (i:Nat):List SV->List Ev
 |[]=>[]
 |s::r=>⟨i,[],s⟩::sY (i+1) r
def yn (H:Hp):List Nat:=H.bx.map (·.id)++H.vc.map (·.id)
def AU (args:List SV) (H:Hp) (m:Mem):LS:=⟨sY 0 args,[],H.bx,H.vc,max (mF H.bx) (mE H.vc),m⟩
/-! What a function starts from; the head of a loop. -/
def AE (nid:Nat) (vc:List Vc):List SV->Prop
 |[]=>True
 |s::r=>ix nid vc s/\AE nid vc r
def C0 (args:List SV) (H:Hp):Prop:=AE (max (mF H.bx) (mE H.vc)) H.vc args/\xV (max (mF H.bx) (mE H.vc)) H.vc H.bx
def AF (nid:Nat) (vc:List Vc):List Ev->Prop
 |[]=>True
 |⟨_,_,s⟩::r=>ix nid vc s/\AF nid vc r
def yh (nid:Nat) (vc:List Vc):List Bx->Prop
 |[]=>True
 |⟨k,_,cs⟩::r=>k<nid/\eL nid vc cs/\yh nid vc r
def yg (nid:Nat):List Vc->Prop
 |[]=>True
 |⟨k,_,_,_,_,_⟩::r=>k<nid/\yg nid r
def oN (st:LS):Prop:=AF st.nid st.vc st.env/\yh st.nid st.vc st.bx/\yg st.nid st.vc
def yi (st:LS):List Ev->Prop
 |[]=>True
 |⟨t,p,s⟩::r=>fj st.env t []=some s/\p=[]/\yi st r
def qG (st:LS):List Bx->Prop
 |[]=>True
 |⟨k,t,cs⟩::r=>gl st.bx k=some ⟨k,t,cs⟩/\gl r k=none/\qG st r
def qF (st:LS):List Vc->Prop
 |[]=>True
 |⟨k,u,e,z,n,xs⟩::r=>lR st.vc k=some ⟨k,u,e,z,n,xs⟩/\lR r k=none/\qF st r
def ak (m m' :Mem):Prop:=m=m' \/m.le m'
theorem Uf (m:Mem):ak m m=True:=eq_true (.inl rfl)
def Match (st aj:LS):Prop:=yi st aj.env/\aj.rho=[]/\qG st aj.bx/\qF st aj.vc/\ak aj.m st.m
section
variable {c:Cfg} {P:Program} {n i:Nat}
theorem U2 {K:LS->Prop} {st:LS}:yy (.mk (k:=(c,P,i,[],K)) st)=K (clean st):=rfl
theorem S9 {K:LS->Prop} {st:LS} {o:Oper} {r:List Oper}:yy (.mk (k:=(c,P,i,o::r,K)) st)=
  aF (.mk (k:=fun p:be=>one (.mk (k:=(c,P,i,o,fun aj=>yy (.mk (k:=(c,P,i+1,r,K)) aj))) (st,p))) (pathOf st o.guard)):=rfl
theorem T2 {K:List SV->LS->Prop} {st:LS}:lf (.mk (k:=K) (st,[]))=K [] st:=rfl
theorem T1 {K:List SV->LS->Prop} {st:LS} {k u:Nat} {r:List SV}:lf (.mk (k:=K) (st,.vec k u::r))=
  aF (.mk (k:=fun b:Vc=>Dr (.mk (k:=(st,fun v aj=>lf (.mk (k:=fun r' kD=>K (.v v::r') kD) (aj,r)))) b)) (cS st.vc k u)):=rfl
theorem Xb {K:List SV->LS->Prop} {st:LS} {x:Value} {r:List SV}:lf (.mk (k:=K) (st,.v x::r))=lf (.mk (k:=fun r' aj=>K (.v x::r') aj) (st,r)):=rfl
theorem T3 {K:List SV->LS->Prop} {st:LS} {k u:Nat} {r:List SV}:lf (.mk (k:=K) (st,.box k u::r))=lf (.mk (k:=fun r' aj=>K (.box k u::r') aj) (st,r)):=rfl
theorem Vr {K:List SV->LS->Prop} {st:LS} {k u o:Nat} {r:List SV}:lf (.mk (k:=K) (st,.vp k u o::r))=lf (.mk (k:=fun r' aj=>K (.vp k u o::r') aj) (st,r)):=rfl
theorem Vt {K:List SV->LS->Prop} {st:LS} {k:Nat} {r:List SV}:lf (.mk (k:=K) (st,.mp k::r))=lf (.mk (k:=fun r' aj=>K (.mp k::r') aj) (st,r)):=rfl
theorem Vs {K:List SV->LS->Prop} {st:LS} {f:FuncId} {k o:Nat} {r:List SV}:lf (.mk (k:=K) (st,.mv f k o::r))=lf (.mk (k:=fun r' aj=>K (.mv f k o::r') aj) (st,r)):=rfl
theorem Vq {K:List SV->LS->Prop} {st:LS} {k:Nat} {r:List SV}:nM (.mk (k:=K) (st,.mp k::r))=nM (.mk (k:=fun r' aj=>K (.mp k::r') aj) (st,r)):=rfl
theorem Vp {K:List SV->LS->Prop} {st:LS} {f:FuncId} {k o:Nat} {r:List SV}:nM (.mk (k:=K) (st,.mv f k o::r))=nM (.mk (k:=fun r' aj=>K (.mv f k o::r') aj) (st,r)):=rfl
theorem TX {K:List SV->LS->Prop} {st:LS}:nM (.mk (k:=K) (st,[]))=K [] st:=rfl
theorem T0 {K:List SV->LS->Prop} {st:LS} {cs r:List SV}:nM (.mk (k:=K) (st,.agg cs::r))=
  lf (.mk (k:=fun cU aj=>nM (.mk (k:=fun r' kD=>K (.agg cU::r') kD) (aj,r))) (st,cs)):=rfl
theorem Xa {K:List SV->LS->Prop} {st:LS} {x:Value} {r:List SV}:nM (.mk (k:=K) (st,.v x::r))=nM (.mk (k:=fun r' aj=>K (.v x::r') aj) (st,r)):=rfl
theorem TY {K:List SV->LS->Prop} {st:LS} {k u:Nat} {r:List SV}:nM (.mk (k:=K) (st,.box k u::r))=nM (.mk (k:=fun r' aj=>K (.box k u::r') aj) (st,r)):=rfl
theorem TW {K:List SV->LS->Prop} {st:LS} {k u:Nat} {r:List SV}:nM (.mk (k:=K) (st,.vec k u::r))=
  aF (.mk (k:=fun b:Vc=>Dr (.mk (k:=(st,fun v aj=>nM (.mk (k:=fun r' kD=>K (.v v::r') kD) (aj,r)))) b)) (cS st.vc k u)):=rfl
theorem SC {dead live:LS->Prop} {st:LS}:Dn (.mk (k:=(dead,live)) (st,[]))=live st:=rfl
theorem Rs {dead live:LS->Prop} {st:LS} {j:Nat} {w:Bool} {p:be}:Dn (.mk (k:=(dead,live)) (st,(j,w)::p))=
  Dn (.mk (k:=(dead,fun aj=>aF (.mk (k:=fun g:Gd=>qh (.mk (k:=(j,w,dead,live)) (aj,g))) (fF aj.rho j)))) (st,p)):=rfl
variable {Q:Exit->LS->Prop} {st:LS}
theorem Ta:dq (.mk (k:=(c,P,n,.skip,Q)) st)=Q .normal st:=rfl
theorem QH {id:Nat} {l:List Oper}:dq (.mk (k:=(c,P,n,.region id ⟨l⟩ false,Q)) st)=yy (.mk (k:=(c,P,0,l,Q .normal)) st):=rfl
theorem Tn {id:Nat} {l:Array Oper}:dq (.mk (k:=(c,P,n,.region id l true,Q)) st)=js (.mk (k:=(P,n,.region id l true,Q)) st):=by cases l;rfl
theorem Tj {x:Operand} {t e rest:Code} (h:(lh t&&lh e)=true):dq (.mk (k:=(c,P,n,.seq (.cond x t e) rest,Q)) st)=js (.mk (k:=(P,n,.seq (.cond x t e) rest,Q)) st):=by
 simp only[dq,lN,h]
theorem WT {x:Operand} {t e rest:Code} (h:(lh t&&lh e)=false):dq (.mk (k:=(c,P,n,.seq (.cond x t e) rest,Q)) st)=
  aF (.mk (k:=fun b:Bool=>Hu (.mk (k:=(c,P,n,t,e,jf (fun aj=>dq (.mk (k:=(c,P,n,rest,Q)) aj)) Q,st)) b)) ((bU st [] x).bind ra)):=by
 simp only[dq,lN,h];rfl
theorem Tc {id:Nat} {l:Array Oper} {d:Bool} {b:Code}:dq (.mk (k:=(c,P,n,.seq (.region id l d) b,Q)) st)=dq (.mk (k:=(c,P,n,.region id l d,jf (fun aj=>dq (.mk (k:=(c,P,n,b,Q)) aj)) Q)) st):=rfl
theorem Tg {id:Nat} {a b:Code}:dq (.mk (k:=(c,P,n,.seq (.block id a) b,Q)) st)=dq (.mk (k:=(c,P,n,.block id a,jf (fun aj=>dq (.mk (k:=(c,P,n,b,Q)) aj)) Q)) st):=rfl
theorem Tb {x y b:Code}:dq (.mk (k:=(c,P,n,.seq (.seq x y) b,Q)) st)=dq (.mk (k:=(c,P,n,.seq x y,jf (fun aj=>dq (.mk (k:=(c,P,n,b,Q)) aj)) Q)) st):=rfl
theorem Tf {x b:Code}:dq (.mk (k:=(c,P,n,.seq (.loop x) b,Q)) st)=js (.mk (k:=(P,n,.loop x,jf (fun aj=>dq (.mk (k:=(c,P,n,b,Q)) aj)) Q)) st):=rfl
theorem Td {x b:Code}:dq (.mk (k:=(c,P,n,.seq (.scope x) b,Q)) st)=js (.mk (k:=(P,n,.scope x,jf (fun aj=>dq (.mk (k:=(c,P,n,b,Q)) aj)) Q)) st):=rfl
theorem Te {b:Code}:dq (.mk (k:=(c,P,n,.seq .skip b,Q)) st)=dq (.mk (k:=(c,P,n,b,Q)) st):=rfl
theorem To {x:Operand} {t e:Code}:dq (.mk (k:=(c,P,n,.cond x t e,Q)) st)=
  aF (.mk (k:=fun b:Bool=>Hu (.mk (k:=(c,P,n,t,e,Q,st)) b)) ((bU st [] x).bind ra)):=rfl
theorem RP {id:Nat} {a:Code}:dq (.mk (k:=(c,P,n,.block id a,Q)) st)=dq (.mk (k:=(c,P,n,a,pf id Q)) st):=rfl
theorem Ti {a:Code}:dq (.mk (k:=(c,P,n,.loop a,Q)) st)=js (.mk (k:=(P,n,.loop a,Q)) st):=rfl
theorem RM {a:Code}:dq (.mk (k:=(c,P,n,.scope a,Q)) st)=js (.mk (k:=(P,n,.scope a,Q)) st):=rfl
theorem Tm {id:Nat}:dq (.mk (k:=(c,P,n,.exit id,Q)) st)=Q (.exit id) st:=rfl
theorem RO {l:Nat}:dq (.mk (k:=(c,P,n,.label l,Q)) st)=Q .normal st:=rfl
theorem Tl {l:Nat}:dq (.mk (k:=(c,P,n,.goto l,Q)) st)=Q (.goto l) st:=rfl
theorem Th {l:Nat} {b:Code}:dq (.mk (k:=(c,P,n,.seq (.label l) b,Q)) st)=dq (.mk (k:=(c,P,n,b,Q)) st):=rfl
theorem U3:dq (.mk (k:=(c,P,n,.ret,Q)) st)=Q .ret st:=rfl
end
attribute [go_sem] GB.val.eq_1 GB.val.eq_2 nE.eq_1 po.eq_1 po.eq_2 po.eq_3 mP.eq_1 mP.eq_2 fj.eq_1 fj.eq_2 fF.eq_1 fF.eq_2 yj.eq_1 yj.eq_2 gl.eq_1 gl.eq_2 cS.eq_1 cS.eq_2 nO.eq_1 bF.eq_1 bF.eq_2 vR.eq_1 vR.eq_2 vR.eq_3 uk.eq_1 uk.eq_2 oP.eq_1 bU.eq_1 bU.eq_2 bU.eq_3 bU.eq_4 aF.eq_1 aF.eq_2 arith.eq_1 arith.eq_2 iH.eq_1 iH.eq_2 iH.eq_3 iH.eq_4 iH.eq_5 iH.eq_6 iH.eq_7 iH.eq_8 iH.eq_9 iH.eq_10 iH.eq_11 iH.eq_12 iH.eq_13 iH.eq_14 iH.eq_15 iH.eq_16 iH.eq_17 qp.eq_1 qp.eq_2 qp.eq_3 qp.eq_4 qp.eq_5 qp.eq_6 mr.eq_1 mr.eq_2 mr.eq_3 mr.eq_4 jc.eq_1 jc.eq_2 jc.eq_3 mJ.eq_1 mJ.eq_2 mJ.eq_3 mJ.eq_4 kG.eq_1 kG.eq_2 kG.eq_3 uD.eq_1 uD.eq_2 ky.eq_1 ky.eq_2 ky.eq_3 ky.eq_4 ky.eq_5 oe.eq_1 oe.eq_2 oe.eq_3 pC.eq_1 pC.eq_2 pC.eq_3 pB.eq_1 pB.eq_2 pB.eq_3 pB.eq_4 pB.eq_5 pB.eq_6 o9.eq_1 o9.eq_2 sQ.eq_1 sQ.eq_2 sQ.eq_3 sQ.eq_4 sQ.eq_5 sQ.eq_6 rm.eq_1 rm.eq_2 rm.eq_3 rm.eq_4 rm.eq_5 rm.eq_6 rm.eq_7 rm.eq_8 tZ.eq_1 tZ.eq_2 ke.eq_1 ke.eq_2 Ag.eq_1 Ag.eq_2 Ag.eq_3 sC.eq_1 sC.eq_2 sC.eq_3 sC.eq_4 pW.eq_1 pW.eq_2 pW.eq_3 vY.eq_1 vY.eq_2 tU.eq_1 tU.eq_2 sL.eq_1 sL.eq_2 sL.eq_3 tc.eq_1 tc.eq_2 tc.eq_3 uc.eq_1 uc.eq_2 p9.eq_1 p9.eq_2 Am.eq_1 Am.eq_2 qb.eq_1 qb.eq_2 qb.eq_3 qb.eq_4 qb.eq_5 rr.eq_1 rr.eq_2 rr.eq_3 rr.eq_4 sO.eq_1 sO.eq_2 sO.eq_3 uM.eq_1 uM.eq_2 G4.eq_1 td.eq_1 td.eq_2 td.eq_3 wy.eq_1 wy.eq_2 vW.eq_1 vW.eq_2 sN.eq_1 sN.eq_2 sN.eq_3 sN.eq_4 sM.eq_1 sM.eq_2 oC.eq_1 oC.eq_2 oC.eq_3 oC.eq_4 mw.eq_1 mw.eq_2 mw.eq_3 mw.eq_4 mw.eq_5 mw.eq_6 mw.eq_7 mw.eq_8 sP.eq_1 sP.eq_2 sP.eq_3 rq.eq_1 rq.eq_2 rq.eq_3 rq.eq_4 uv.eq_1 uv.eq_2 uw.eq_1 uw.eq_2 ud.eq_1 ud.eq_2 sA.eq_1 sA.eq_2 sA.eq_3 qOp.eq_1 qOp.eq_2 qOp.eq_3 qOp.eq_4 qOp.eq_5 qOp.eq_6 qOp.eq_7 qOp.eq_8 qOp.eq_9 qOp.eq_10 qOp.eq_11 qOp.eq_12 qOp.eq_13 qOp.eq_14 qOp.eq_15 qOp.eq_16 qOp.eq_17 qOp.eq_18 qOp.eq_19 qOp.eq_20 qOp.eq_21 qOp.eq_22 plain.eq_1 plain.eq_2 lC.eq_1 lC.eq_2 ox.eq_1 ox.eq_2 ox.eq_3 vy.eq_1 vy.eq_2 jn.eq_1 jn.eq_2 jn.eq_3 jn.eq_4 jn.eq_5 jn.eq_6 jn.eq_7 jn.eq_8 jn.eq_9 jV.eq_1 jV.eq_2 oL.eq_1 oL.eq_2 G1.eq_1 G1.eq_2 Dr.eq_1 ye.eq_1 jY.eq_1 jY.eq_2 jY.eq_3 jY.eq_4 jY.eq_5 jY.eq_6 jY.eq_7 jY.eq_8 jY.eq_9 cellsOf.eq_1 cellsOf.eq_2 nN.eq_1 nN.eq_2 nN.eq_3 ym.eq_1 ym.eq_2 r0.eq_1 idxOf.eq_1 idxOf.eq_2 iv.eq_1 ew.eq_1 lO.eq_1 lO.eq_2 lO.eq_3 lO.eq_4 lO.eq_5 lO.eq_6 lO.eq_7 lO.eq_8 yf.eq_1 yf.eq_2 sJ.eq_1 sJ.eq_2 oB.eq_1 ji.eq_1 lR.eq_1 lR.eq_2 fz.eq_1 fz.eq_2 fe.eq_1 fe.eq_2 mo.eq_1 mo.eq_2 lE.eq_1 lE.eq_2 mF.eq_1 mF.eq_2 mE.eq_1 mE.eq_2 tV.eq_1 A6.eq_1 A6.eq_2 th.eq_1 th.eq_2 qI.eq_1 qI.eq_2 qI.eq_3 qI.eq_4 qI.eq_5 qI.eq_6 qI.eq_7 qI.eq_8 wB.eq_1 wB.eq_2 DZ.eq_1 DZ.eq_2 AH.eq_1 AH.eq_2 yl.eq_1 yl.eq_2 G5.eq_1 qU.eq_1 qU.eq_2 qU.eq_3 qU.eq_4 qU.eq_5 qU.eq_6 qU.eq_7 qU.eq_8 wX.eq_1 wX.eq_2 BF.eq_1 BF.eq_2 BE.eq_1 BE.eq_2 Ef.eq_1 Ef.eq_2 yv.eq_1 yv.eq_2 yu.eq_1 yu.eq_2 xV.eq_1 xV.eq_2 Ad.eq_1 Ad.eq_2 my.eq_1 my.eq_2 kY.eq_1 kY.eq_2 fE.eq_1 L4.eq_1 Gs.eq_1 bD.eq_1 bD.eq_2 kK.eq_1 kK.eq_2 kK.eq_3 kK.eq_4 kK.eq_5 kK.eq_6 kK.eq_7 kK.eq_8 eL.eq_1 eL.eq_2 okB.eq_1 okB.eq_2 wA.eq_1 wA.eq_2 ix.eq_1 ix.eq_2 GW.eq_1 Av.eq_1 Au.eq_1 Au.eq_2 sK.eq_1 sK.eq_2 oy.eq_1 oy.eq_2 sn.eq_1 sn.eq_2 zX.eq_1 zX.eq_2 mC.eq_1 tX.eq_1 tX.eq_2 tX.eq_3 tX.eq_4 yk.eq_1 yk.eq_2 yk.eq_3 Dz.eq_1 Dz.eq_2 DV.eq_1 DV.eq_2 DA.eq_1 DA.eq_2 DU.eq_1 DU.eq_2 Al.eq_1 Al.eq_2 Al.eq_3 nT.eq_1 nT.eq_2 nT.eq_3 nT.eq_4 nT.eq_5 nT.eq_6 nT.eq_7 nT.eq_8 nT.eq_9 nT.eq_10 nT.eq_11 pk.eq_1 pk.eq_2 fZ.eq_1 fZ.eq_2 fZ.eq_3 fZ.eq_4 fZ.eq_5 fZ.eq_6 fZ.eq_7 fZ.eq_8 fZ.eq_9 fZ.eq_10 fZ.eq_11 fZ.eq_12 fZ.eq_13 fZ.eq_14 fZ.eq_15 fZ.eq_16 fZ.eq_17 fZ.eq_18 fZ.eq_19 fZ.eq_20 fZ.eq_21 xF.eq_1 xF.eq_2 GD.eq_1 kF.eq_1 kF.eq_2 qh.eq_1 qh.eq_2 qh.eq_3 qh.eq_4 qh.eq_5 qh.eq_6 put.eq_1 put.eq_2 kV.eq_1 kV.eq_2 kW.eq_1 kW.eq_2 ns.eq_1 ns.eq_2 jE.eq_1 jE.eq_2 jE.eq_3 pathOf.eq_1 pathOf.eq_2 vZ.eq_1 vZ.eq_2 vZ.eq_3 vZ.eq_4 AD.eq_1 AD.eq_2 one.eq_1 ik.eq_1 ik.eq_2 mq.eq_1 mq.eq_2 mq.eq_3 clean.eq_1 ra.eq_1 ra.eq_2 lh.eq_1 lh.eq_2 lh.eq_3 lh.eq_4 lh.eq_5 lh.eq_6 lh.eq_7 jf.eq_1 jf.eq_2 pf.eq_1 pf.eq_2 Hu.eq_1 vV.eq_1 vV.eq_2 Dq.eq_1 Dq.eq_2 oM.eq_1 oM.eq_2 oM.eq_3 Hl.eq_1 yq.eq_1 yq.eq_2 yq.eq_3 sY.eq_1 sY.eq_2 yn.eq_1 AU.eq_1 AE.eq_1 AE.eq_2 C0.eq_1 AF.eq_1 AF.eq_2 yh.eq_1 yh.eq_2 yg.eq_1 yg.eq_2 oN.eq_1 yi.eq_1 yi.eq_2 qG.eq_1 qG.eq_2 qF.eq_1 qF.eq_2 Match.eq_1 U2 S9 T2 T1 Xb T3 Vr Vt Vs Vq Vp TX T0 Xa TY TW SC Rs Ta QH Tn Tj WT Tc Tg Tb Tf Td Te To RP Ti RM Tm U3 Uf RO Tl Th Xn M4 Xm WW WV WU
theorem eb (V:Vl) (x:Value):den V (.v x)=x:=rfl
theorem xK (V:Vl) (k o:Nat):den V (.box k o)= .pointer (some ⟨V.β k,o,none⟩):=rfl
theorem Gk (V:Vl) (cs:List SV):den V (.agg cs)= .agg ⟨cs.map (a7 V)⟩:=rfl
theorem Wv (V:Vl) (cs:List SV):den V (.tup cs)= .tuple ⟨cs.map (lT V)⟩:=rfl
theorem xW (V:Vl) (l:List Value):(l.map SV.v).map (a7 V)=l:=by
 induction l with
 |nil=>rfl
 |cons x l ih=>simp only[bh,ih];rfl
theorem BN {V:Vl} {s:SV} {cs:List SV} (h:ky s=some cs):(den V s).cells=⟨cs.map (a7 V)⟩:=by
 cases s with
 |agg l=>simp only[ky,de] at h;subst h;rfl
 |tup l=>simp [ky] at h
 |v x=>
  cases x with
  |agg a=>obtain⟨l⟩:=a;simp only[ky,de] at h;subst h;simp only[xW];rfl
  |tuple a=>simp [ky] at h
  |_=>simp only[ky,de] at h;subst h;rfl
 |_=>simp only[ky,de] at h;subst h;rfl
/-! Paths. -/
theorem CQ {rho:List Gd} {j:Nat} {w:Bool} {g:Gd} (h:fF rho j=some g):nO rho j w=(if w=true then g.b.val else !g.b.val):=by
 unfold nO;rw[h]
theorem Dh {rho:List Gd} {i:Nat} {g:Gd} (h:fF rho i=some g):g.i=i/\g∈rho:=by
 induction rho with
 |nil=>cases h
 |cons x r ih=>
  obtain⟨i',t',p',b'⟩:=x;simp only[fF] at h;split at h
  ·rename_i e;cases h;exact⟨e,df ..⟩
  ·exact⟨(ih h).1,cu _ (ih h).2⟩
theorem FG:∀{p q:be},po p q=true->p=q
 |[],[],_=>rfl
 |(j,w)::p,(k,u)::q,h=>by
  simp only[po] at h;split at h
  ·split at h
   ·rename_i e e';subst e;subst e';rw[FG h]
   ·cases h
  ·cases h
 |[],_::_,h=>by simp [po] at h
 |_::_,[],h=>by simp [po] at h
theorem KA {p:be}:∀{q:be},mP p q=true->∃r,q=r++p
 |[],h=>⟨[],by simp only[mP] at h;rw[FG h];rfl⟩
 |x::q,h=>by
  simp only[mP] at h;split at h
  ·rename_i e;exact⟨[],by rw[FG e];rfl⟩
  ·obtain⟨r,hr⟩:=KA h;exact⟨x::r,by rw[hr];rfl⟩
theorem Kj {rho:List Gd}:∀{p q:be},bF rho (p++q)=(bF rho p&&bF rho q)
 |[],q=>by simp [bF]
 |(j,w)::p,q=>by simp [bF,Kj (p:=p),Bool.and_assoc]
theorem Ck {rho:List Gd} {p q:be} (h:mP p q=true) (hq:bF rho q=true):bF rho p=true:=by
 obtain⟨r,rfl⟩:=KA h;rw[Kj,cO] at hq;exact hq.2
theorem pV {rho:List Gd}:ft rho []:=fun _ h=>by cases h
theorem Ci {rho:List Gd}:∀{p:be},uk rho p=true->bF rho p=false
 |[],h=>by simp [uk] at h
 |(j,w)::p,h=>by
  simp only[uk] at h;split at h
  ·rename_i e;simp only[bF,Bool.and_eq_false_iff];refine .inl ?_;cases hg:fF rho j with
   |none=>rw[hg] at e;cases w<;>simp [vR] at e
   |some g=>
    rw[hg] at e;rw[CQ hg];obtain⟨i',t',p',b'⟩:=g;cases b' with
    |lit b=>cases b<;>cases w<;>simp_all [vR,GB.val]
    |sym b=>cases w<;>simp [vR] at e
  ·simp only[bF,Bool.and_eq_false_iff];exact .inr (Ci h)
section
variable {C:Ctx} {n:Nat} {st:LS} {a:Act} {V:Vl} {D:Nat->Nat} {w:World} {P:Program}
theorem cV (hS:Sat C n st a V D w) {p:be} (hp:ft st.rho p) (hc:bF st.rho p=true) {x:Operand} {s:SV} (h:bU st p x=some s):a.eval x=den V s:=by
 cases x with
 |tmp t=>
  have:=hS.env t p s hp h hc;simp [Act.eval,this]
 |const v=>simp only[bU,de] at h;subst h;rfl
 |func f=>simp only[bU,de] at h;subst h;rfl
 |global g=>simp only[bU,de] at h;subst h;rfl
theorem sj {l:List Bx} {k:Nat} {b:Bx} (h:gl l k=some b):b.id=k/\b∈l:=by
 induction l with
 |nil=>cases h
 |cons x r ih=>
  obtain⟨i',t',p'⟩:=x;simp only[gl] at h;split at h
  ·rename_i e;cases h;exact⟨e,df ..⟩
  ·exact⟨(ih h).1,cu _ (ih h).2⟩
theorem zJ {l:List Vc} {k u:Nat} {b:Vc} (h:cS l k u=some b):b.id=k/\b.ver=u/\b∈l:=by
 induction l with
 |nil=>cases h
 |cons x r ih=>
  obtain⟨i',u',e',z',n',x'⟩:=x;simp only[cS] at h;split at h
  ·rename_i e;split at h
   ·rename_i e';cases h;exact⟨e,e',df ..⟩
   ·cases h
  ·exact⟨(ih h).1,(ih h).2.1,cu _ (ih h).2.2⟩
end
def Yl (c:Bool) (P:Program) (x:Sem Value) (w:World) (v:Value):Prop:=c=true->x.run P w= .ok v w
section
variable {P:Program} {c:Bool} {w:World}
abbrev U (c:Bool):Prop->Prop:=fun B=>c=true->B
theorem yX {k:IntKind} {V:Vl} {K:SV->Prop} {n:Int} (h:arith (.mk (k:=(k,U c,K)) n)):
  ∃s,K s/\(c=true->den V s= .int k (k.wrap n)):=by
 cases k;case i64=>
  simp only[arith] at h;refine⟨_,h.2,fun hc=> ?_⟩;have hb:=h.1 hc;rw[eb];have:IntKind.i64.wrap n=n:=by
   rw[IntKind.wrap_i64];unfold ax at hb;omega
  rw[this]
 all_goals exact⟨_,h,fun _=>rfl⟩
theorem RG {op:BinOp} {k k' :IntKind} {x y:Int} {t:TypeId} {o o' :Operand} {V:Vl} {K:SV->Prop} (hk:op= .shl\/op= .shr\/k=k') (h:iH (.mk (k:=(op,k,U c,K)) (x,y))):
  ∃s,K s/\Yl c P (do eqGuard op t o o' (.int k x) (.int k' y);binOp op t (.int k x) (.int k' y)) w (den V s):=by
 by_cases hs:op= .shl\/op= .shr
 ·rcases hs with rfl |rfl
  ·simp only[iH] at h;refine⟨_,h.2,fun hc=> ?_⟩;simp [go_sem,shift_shl _ _ _ _ (h.1 hc).1 (h.1 hc).2,eb]
  ·simp only[iH] at h;refine⟨_,h.2,fun hc=> ?_⟩;simp [go_sem,shift_shr _ _ _ _ (h.1 hc).1 (h.1 hc).2,eb]
 ·have eP:k=k' :=by
   rcases hk with h1 |h1 |h1
   ·exact absurd (.inl h1) hs
   ·exact absurd (.inr h1) hs
   ·exact h1
  subst eP;cases op<;>simp only[iH] at h;case shl=>exact absurd (.inl rfl) hs
  case shr=>exact absurd (.inr rfl) hs
  case add=>obtain⟨s,h1,h2⟩:=yX (V:=V) h;exact⟨s,h1,fun hc=>by rw[h2 hc];simp [go_sem,Op.intArith]⟩
  case sub=>obtain⟨s,h1,h2⟩:=yX (V:=V) h;exact⟨s,h1,fun hc=>by rw[h2 hc];simp [go_sem,Op.intArith]⟩
  case mul=>obtain⟨s,h1,h2⟩:=yX (V:=V) h;exact⟨s,h1,fun hc=>by rw[h2 hc];simp [go_sem,Op.intArith]⟩
  case quo=>obtain⟨s,h1,h2⟩:=yX (V:=V) h.2;exact⟨s,h1,fun hc=>by rw[h2 hc];simp [go_sem,Op.intDiv,h.1 hc]⟩
  case rem=>exact⟨_,h.2,fun hc=>by simp [go_sem,Op.intDiv,h.1 hc,eb]⟩
  case eql=>exact⟨_,h,fun _=>by simp [go_sem,eb];rfl⟩
  case neq=>exact⟨_,h,fun _=>by simp [go_sem,eb,bne];rfl⟩
  all_goals exact⟨_,h,fun _=>by simp [go_sem,eb]⟩
end
theorem SO (x y:ByteArray):x++y=bs (tl x++tl y):=by
 obtain⟨a⟩:=x;obtain⟨b⟩:=y;obtain⟨a⟩:=a;obtain⟨b⟩:=b;exact ByteArray.mk_append_mk a b
theorem xq (x:ByteArray):x.toList=tl x:=ByteArray.toList_eq x
theorem xO (x:ByteArray):(tl x).length=x.size:=by unfold tl ByteArray.size;exact Array.length_toList
theorem MB (x y:List UInt8):(x==y)=decide (x=y):=by
 rw[Bool.eq_iff_iff];simp only[beq_iff_eq,gA]
theorem aB {α:Type} {K:α->Prop} {x:Option α} (h:aF (.mk (k:=K) x)):∃s,x=some s/\K s:=by
 cases x with
 |none=>exact h.elim
 |some s=>exact⟨s,rfl,h⟩
section
variable {P:Program} {c:Bool} {w:World}
theorem RE {op:BinOp} {x y:ByteArray} {t:TypeId} {o o' :Operand} {V:Vl} {K:SV->Prop} (h:qp (.mk (k:=(op,U c,K)) (tl x,tl y))):
  ∃s,K s/\Yl c P (do eqGuard op t o o' (.string x) (.string y);binOp op t (.string x) (.string y)) w (den V s):=by
 cases op<;>simp only[qp] at h;case add=>
  refine⟨_,h.2,fun hc=> ?_⟩;have hl:=h.1 hc;rw[xO,xO] at hl;have:¬((x.size+y.size:Nat):Int)>IntKind.i64.max:=by rw[IntKind.max_i64];omega
  simp only[go_sem,binOp,Op.stringOp,Sem.run_bind,Sem.run_pure,Result.andThen_ok];rw[ae this];rw[SO,eb];rfl
 case eql=>exact⟨_,h,fun _=>by simp [go_sem,eb,xq,MB]⟩
 case neq=>exact⟨_,h,fun _=>by simp [go_sem,eb,xq,MB]⟩
 case lss=>exact⟨_,h,fun _=>by simp [go_sem,eb,xq]⟩
 case geq=>exact⟨_,h,fun _=>by simp [binOp,Op.stringOp,go_sem,eb,xq]⟩
theorem RC {V:Vl} {x y:SV} {b:Bool} (h:mr x y=some b):mr (.v (a7 V x)) (.v (a7 V y))=some b:=by
 unfold mr at h;split at h<;>first |exact h |cases h
theorem Ur {V:Vl} {z x:SV} (h:mJ z x=true):mJ z (.v (a7 V x))=true:=by
 unfold mJ at h;split at h<;>first |exact h |cases h
theorem Lr {V:Vl}:∀{z x:List SV},kG z x=true->kG z ((x.map (a7 V)).map .v)=true
 |[],[],h=>h
 |z::zs,x::xs,h=>by
  simp only[kG,cO] at h;simp only[bh,kG,Ur h.1,Lr h.2,Bool.and_self]
 |[],_::_,h=>by simp [kG] at h
 |_::_,[],h=>by simp [kG] at h
theorem Up {V:Vl} {z:Option (List SV)} {x:List SV} (h:uD z x=true):uD z ((x.map (a7 V)).map .v)=true:=by
 cases z with
 |none=>cases h
 |some z=>exact Lr h
theorem I5 {V:Vl}:∀{x y:List SV} {b:Bool},jc x y=some b->jc ((x.map (a7 V)).map .v) ((y.map (a7 V)).map .v)=some b
 |[],[],_,h=>h
 |x::xs,y::ys,b,h=>by
  simp only[jc,Option.bind_eq_some_iff,Option.map_eq_some_iff] at h;obtain⟨e,he,r,hr,rfl⟩:=h;simp only[bh,jc,RC he,I5 hr,Option.bind_some,Option.map_some]
 |[],_::_,_,h=>by simp [jc] at h
 |_::_,[],_,h=>by simp [jc] at h
theorem EU {op:BinOp} {b:Bool} {K:SV->Prop} {V:Vl} (h:pC (.mk (k:=(op,K)) b)):
  ∃s,K s/\((op= .eql/\den V s= .bool b)\/(op= .neq/\den V s= .bool (!b))):=by
 cases op<;>simp only[pC] at h;case eql=>exact⟨_,h,.inl ⟨rfl,rfl⟩⟩
 case neq=>exact⟨_,h,.inr ⟨rfl,rfl⟩⟩
theorem IQ {V:Vl} {y:SV} {ys:List SV} (h:oe y=some ys):den V y= .agg ⟨ys.map (a7 V)⟩:=by
 cases y with
 |agg l=>simp only[oe,de] at h;subst h;rfl
 |v x=>
  cases x with
  |agg a=>obtain⟨l⟩:=a;simp only[oe,de] at h;subst h;rw[xW];rfl
  |_=>simp [oe] at h
 |_=>simp [oe] at h
theorem I3 {op:BinOp} {t:TypeId} {o o' :Operand} {V:Vl} {K:SV->Prop} {xs:List SV} {y:SV} {xv:Value} (hxv:xv= .agg ⟨xs.map (a7 V)⟩) 
  (he:yx P t) (hl:uD (eV P t) xs=true) (h:aF (.mk (k:=fun b=>pC (.mk (k:=(op,K)) b)) ((oe y).bind fun ys=>jc xs ys))):
  ∃s,K s/\Yl c P (do eqGuard op t o o' xv (den V y);binOp op t xv (den V y)) w (den V s):=by
 obtain⟨b,hb,hK⟩:=aB h;simp only[Option.bind_eq_some_iff] at hb;obtain⟨ys,hys,hb⟩:=hb;have hyv:den V y= .agg ⟨ys.map (a7 V)⟩:=IQ hys;have hE:=fun op=>he (xs.map (a7 V)) (ys.map (a7 V)) b w o o' op (I5 hb) (Up hl)
 obtain⟨s,hs,hh⟩:=EU (V:=V) hK;refine⟨s,hs,fun hc=> ?_⟩;rw[hxv,hyv];rcases hh with ⟨rfl,hr⟩ |⟨rfl,hr⟩
 ·rw[hr];simp only[Sem.run_bind,(hE .eql).1,Result.andThen_ok,binOp,(hE .eql).2,Sem.run_pure]
 ·rw[hr];simp only[Sem.run_bind,(hE .neq).1,Result.andThen_ok,binOp,(hE .neq).2,Sem.run_pure]
theorem run_equal_bool {t:TypeId} (x y:Bool) (h:P.underlying t=some .bool):(Op.equal t (.bool x) (.bool y)).run P w= .ok (x==y) w:=by
 have hd:∀d:Nat,(Op.equalIn (d+1) t (.bool x) (.bool y)).run P w= .ok (x==y) w:=fun d=>by
  simp only[Op.equalIn,Sem.run_bind,run_underlying h,Result.andThen_ok,Sem.run_pure]
 exact hd 9999
theorem IC {t:TypeId} {v:Value} (h:Dj P t=true) (hv:D3 v):(Op.equal t v .nilIface).run P w= .ok (p9 v) w:=by
 unfold Dj at h;split at h
 ·rename_i ms hu;have hd:∀d:Nat,(Op.equalIn (d+1) t v .nilIface).run P w= .ok (p9 v) w:=fun d=>by
   rcases hv with rfl |⟨ty,x,rfl⟩<;>simp only[Op.equalIn,Sem.run_bind,run_underlying hu,Result.andThen_ok,Sem.run_pure,p9]
  exact hd 9999
 ·cases h
theorem Qo {op:BinOp} {x:SV} {t:TypeId} {o:Operand} {V:Vl} {K:SV->Prop} (h:uc (.mk (k:=(P,op,t,U c,K)) x)):
  ∃s,K s/\Yl c P (do eqGuard op t o (.const .nilIface) (den V x) .nilIface;binOp op t (den V x) .nilIface) w (den V s):=by
 unfold uc at h;split at h
 ·rename_i v e;cases e;obtain⟨h1,h2,h3⟩:=h;obtain⟨s,hs,hh⟩:=EU (V:=V) h3;refine⟨s,hs,fun hc=> ?_⟩;have hv:=h2 hc;have hg:∀op,(eqGuard op t o (.const .nilIface) v .nilIface).run P w= .ok () w:=fun op=>by
   unfold eqGuard;rcases hv with rfl |⟨ty,x,rfl⟩<;>cases op<;>simp
  have D8:binOp .eql t v .nilIface=(do let b <- Op.equal t v .nilIface;pure (.bool b)):=by
   rcases hv with rfl |⟨ty,x,rfl⟩<;>rfl
  have yN:binOp .neq t v .nilIface=(do let b <- Op.equal t v .nilIface;pure (.bool (!b))):=by
   rcases hv with rfl |⟨ty,x,rfl⟩<;>rfl
  rcases hh with ⟨rfl,hr⟩ |⟨rfl,hr⟩
  ·rw[hr];simp only[Sem.run_bind,eb,hg,Result.andThen_ok,D8,IC h1 hv,Sem.run_pure]
  ·rw[hr];simp only[Sem.run_bind,eb,hg,Result.andThen_ok,yN,IC h1 hv,Sem.run_pure]
 ·cases h
theorem RF {op:BinOp} {x y:SV} {t:TypeId} {o o' :Operand} {V:Vl} {K:SV->Prop} (h:pB (.mk (k:=(P,op,t,U c,K)) (x,y))):
  ∃s,K s/\Yl c P (do eqGuard op t o o' (den V x) (den V y);binOp op t (den V x) (den V y)) w (den V s):=by
 unfold pB at h;split at h
 ·rename_i k a k' b e;cases e;exact RG h.1 h.2
 ·rename_i a b e;cases e;exact RE h
 ·rename_i a b e;cases e;obtain⟨s,hs,hh⟩:=EU (V:=V) h.2;refine⟨s,hs,fun hc=> ?_⟩;rcases hh with ⟨rfl,hr⟩ |⟨rfl,hr⟩
  ·rw[hr];simp only[Sem.run_bind,eqGuard_at_bool,eb,Sem.run_pure,Result.andThen_ok,binOp,run_equal_bool a b h.1]
  ·rw[hr];simp only[Sem.run_bind,eqGuard_at_bool,eb,Sem.run_pure,Result.andThen_ok,binOp,run_equal_bool a b h.1]
 ·rename_i xs y e;cases e;exact I3 rfl h.1 h.2.1 h.2.2
 ·rename_i xs y e;cases e;obtain⟨l⟩:=xs;refine I3 (xs:=l.map .v) (by rw[xW];rfl) h.1 h.2.1 h.2.2
 ·cases h
end
section
variable {P:Program} {w:World}
theorem zD {t:TypeId} (h:0<bf P t):(sizeOf t).run P w= .ok (bf P t) w:=by
 unfold bf at h ⊢;cases hi:P.info? t with
 |none=>rw[hi] at h;simp at h
 |some i=>simp [sizeOf,typeInfo,hi]
theorem II {t:TypeId} (h:dY P t=some none):(isAgg t).run P w= .ok false w:=by
 unfold dY at h;split at h
 ·simp at h
 ·simp at h
 ·rename_i d h1 h2 hd;simp only[isAgg,Sem.run_bind,run_underlying hd,Result.andThen_ok];rfl
 ·cases h
theorem BJ {t:TypeId} {n:Nat} (h:dY P t=some (some n)):(isAgg t).run P w= .ok true w/\(sizeOf t).run P w= .ok n w:=by
 unfold dY at h;split at h
 ·rename_i fs hd;simp only[Option.map_eq_some_iff,de] at h;obtain⟨i,hi,rfl⟩:=h;exact⟨by simp [isAgg,run_underlying hd],by simp [sizeOf,typeInfo,hi]⟩
 ·rename_i fs k hd;simp only[Option.map_eq_some_iff,de] at h;obtain⟨i,hi,rfl⟩:=h;exact⟨by simp [isAgg,run_underlying hd],by simp [sizeOf,typeInfo,hi]⟩
 ·cases h
 ·cases h
theorem w9 {t:TypeId} {ad:Addr} {ag:Option Nat} {cs:List Value} {v:Value} (h:dY P t=some ag) (hc:∀j u,cs[j]? =some u->w.cell? (ad.add j)=some u)
  (hv:match ag with |none=>cs=[v] |some n=>cs.length=n/\v= .agg ⟨cs⟩):(loadVar t ad).run P w= .ok v w:=by
 cases ag with
 |none=>
  subst hv;have h0:=hc 0 v rfl;rw[Addr.add_zero'] at h0;simp only[loadVar,Sem.run_bind,II h,Result.andThen_ok,Bool.false_eq_true,if_false];rw[run_load];simp [h0]
 |some n=>
  obtain⟨hl,rfl⟩:=hv;simp only[loadVar,Sem.run_bind,(BJ h).1,(BJ h).2,Result.andThen_ok,if_true];subst hl;rw[run_loadCells_list w ad cs hc];rfl
theorem J5 {D:Nat} {o o' :Option Obj} {c:Array Value} {t:TypeId} {f:Nat×Nat} (h:qX D o o') (ho:o=some (.cells c t f)):∃c' t' f',o' =some (.cells c' t' f')/\∀j,j<D->c'[j]? =c[j]? :=by
 subst ho;exact h
theorem B4 {m:Mem} {D:Nat->Nat} (hle:m.le ⟨w,D⟩) {ad:Addr} {v:Value} (hs:ad.spot=none) (hd:ad.off<m.D ad.block) (h:m.w.cell? ad=some v):w.cell? ad=some v:=by
 obtain⟨_,hk⟩:=hle ad.block;obtain⟨_,hk⟩:=hk (by omega);unfold World.cell? at h ⊢;split at h
 ·rename_i c t f hc;obtain⟨c',t',f',ho,hj⟩:=J5 hk hc;dsimp only at ho;rw[ho];simp only[hs,Option.isSome_none,Bool.false_eq_true,if_false] at h ⊢;rw[hj _ hd];exact h
 ·cases h
theorem oc (ad:Addr) (j:Nat) (h:ad.spot=none):(ad.add j).block=ad.block/\(ad.add j).off=ad.off+j/\(ad.add j).spot=none:=by
 unfold Addr.add;split
 ·rename_i e;subst e;exact⟨rfl,rfl,h⟩
 ·exact⟨rfl,rfl,rfl⟩
theorem N0 {m:Mem} {D:Nat->Nat} (hle:m.le ⟨w,D⟩) {x:Value} {cs:List Value} (h:Rd m x cs):∃ad,x= .pointer (some ad)/\∀j u,cs[j]? =some u->w.cell? (ad.add j)=some u:=by
 obtain⟨ad,hx,hs,hc⟩:=h;refine⟨ad,hx,fun j u hu=> ?_⟩;have hj:j<cs.length:=(List.getElem?_eq_some_iff.1 hu).1;obtain⟨h1,h2⟩:=hc j hj;obtain⟨e1,e2,e3⟩:=oc ad j hs;exact B4 hle e3 (by rw[e1,e2];exact h2) (h1.trans hu)
theorem Ny {m:Mem} {D:Nat->Nat} (hle:m.le ⟨w,D⟩) {x:Option Addr} {n sz:Nat} {cs:List Value} (h:aM m x n sz cs) (hn:0<n):∃ad,x=some ad/\∀j u,cs[j]? =some u->w.cell? (ad.add j)=some u:=by
 obtain⟨hl,h⟩:=h;obtain⟨ad,hx,hs,hc⟩:=h hn;refine⟨ad,hx,fun j u hu=> ?_⟩;have hj:j<cs.length:=(List.getElem?_eq_some_iff.1 hu).1;obtain⟨h1,h2⟩:=hc j (by omega);obtain⟨e1,e2,e3⟩:=oc ad j hs;exact B4 hle e3 (by rw[e1,e2];exact h2) (h1.trans hu)
theorem jR {x:Sem Value} {v:Value} {w' :World} (h:x.run P w= .ok v w'):(do pure (Next.value (<- x)):Sem Next).run P w= .ok (.value v) w' :=by
 simp [h]
theorem JI {V:Vl} {cs:List SV} {off:Nat} {ag:Option Nat} {s:SV} (h:tZ cs off ag=some s):
  match ag with |none=>(cs.map (a7 V))[off]? =some (den V s) |some n=>den V s= .agg ⟨((cs.map (a7 V)).drop off).take n⟩/\off+n<=cs.length:=by
 cases ag with
 |none=>
  obtain⟨x,hx,hs⟩:=Option.bind_eq_some_iff.1 h;dsimp only;rw[List.getElem?_map,hx];cases x<;>simp only[rm,de] at hs<;>first |(subst hs;rfl) |cases hs
 |some n=>
  simp only[tZ] at h;split at h
  ·rename_i hl;simp only[de] at h;subst h;exact⟨by rw[Gk,List.map_take,List.map_drop],hl⟩
  ·cases h
end
theorem Uc {rho:List Gd} {t:Nat} {g:Gd} (h:yj rho t=some g):g.slot=t/\g∈rho:=by
 induction rho with
 |nil=>cases h
 |cons x r ih=>
  obtain⟨i',t',p',b'⟩:=x;simp only[yj] at h;split at h
  ·rename_i e;cases h;exact⟨e,df ..⟩
  ·exact⟨(ih h).1,cu _ (ih h).2⟩
theorem tE {α β:Type} {o:Option α} {f:α->Option β} {y:β} (h:o.bind f=some y):∃x,o=some x/\f x=some y:=Option.bind_eq_some_iff.1 h
def Run (P:Program) (c:Bool) (x:Sem Next) (w:World) (v:Value):Prop:=c=true->x.run P w= .ok (.value v) w
theorem Yl.run {P:Program} {c:Bool} {x:Sem Value} {w:World} {v:Value} (h:Yl c P x w v):Run P c (do pure (.value (<- x))) w v:=fun hc=>jR (h hc)
section
variable {C:Ctx} {n:Nat} {st:LS} {a:Act} {V:Vl} {D:Nat->Nat} {w:World} {P:Program} {p:be} {K:SV->Prop} {c:Bool}
theorem Q0 {s:SV} (h:sL (.mk (k:=(U c,K)) s)):∃r,K r/\den V r=den V s/\(c=true->sQ (den V s)=true):=by
 unfold sL at h;split at h
 ·rename_i x e;cases e;exact⟨_,h.2,rfl,fun hc=>h.1 hc⟩
 ·rename_i k o e;cases e;exact⟨_,h,rfl,fun _=>rfl⟩
 ·cases h
theorem Uv {o:Oper} {x:Operand} (ho:o.op= .nilCheck x) (h:sQ (a.eval x)=true):(execOp a.eval o).run P w= .ok (.value (a.eval x)) w:=by
 unfold execOp;simp only[ho];revert h;generalize a.eval x=v
 intro h;cases v with
 |pointer q=>cases q with
  |none=>cases h
  |some q=>rfl
 |nilIface=>cases h
 |nilFunc=>cases h
 |func f b d=>cases f<;>first |rfl |cases h
 |_=>rfl
theorem R8 {op:UnOp} {s:SV} (h:tc (.mk (k:=(op,U c,K)) s)):∃r,K r/\Yl c P (Op.unary op (den V s)) w (den V r):=by
 unfold tc at h;split at h
 ·rename_i b e;cases e;exact⟨_,h,fun _=>rfl⟩
 ·rename_i k m e;cases e;obtain⟨r,h1,h2⟩:=yX (V:=V) h;exact⟨r,h1,fun hc=>by rw[h2 hc];rfl⟩
 ·cases h
theorem aeu {l:List UInt8} {j:Nat} {u:Value} (h:(kh l)[j]? =some u):∃b:UInt8,l[j]? =some b/\u= .int .u8 b.toNat:=by
 simp only[kh,List.getElem?_map,Option.map_eq_some_iff] at h;obtain⟨b,hb,rfl⟩:=h;exact⟨b,hb,rfl⟩
theorem Wy {P:Program} {src dst:TypeId} {k:IntKind} {m:Int} {k' :IntKind} (h:pN P src dst= .int k):(convert src dst (.int k' m)).run P w= .ok (.int k (k.wrap m)) w:=by
 unfold pN at h;split at h
 ·rename_i k1 k2 h1 h2;cases h;simp [convert,run_underlying h1,run_underlying h2,Conv.intToInt]
 ·cases h
 ·split at h<;>cases h
 ·cases h
theorem UD {P:Program} {src dst:TypeId} {s:ByteArray} (h:pN P src dst= .same):(convert src dst (.string s)).run P w= .ok (.string s) w:=by
 unfold pN at h;split at h
 ·cases h
 ·rename_i h1 h2;simp [convert,run_underlying h1,run_underlying h2]
 ·split at h<;>cases h
 ·cases h
theorem Wz {P:Program} {src dst:TypeId} (h:pN P src dst= .b2s):∃e,P.underlying src=some (.slice e)/\P.underlying e=some (.int .u8)/\P.underlying dst=some .string:=by
 unfold pN at h;split at h
 ·cases h
 ·cases h
 ·rename_i e h1 h2;split at h
  ·rename_i h3;exact⟨e,h1,h3,h2⟩
  ·cases h
 ·cases h
theorem LL {P:Program} {src dst:TypeId} {l:List UInt8} {x:Option Addr} {n cp:Nat} (h:pN P src dst= .b2s) (hn:l.length=n) (hx:0<n->∃ad,x=some ad/\∀j u,(kh l)[j]? =some u->w.cell? (ad.add j)=some u):
  (convert src dst (.slice x n cp)).run P w= .ok (.string (bs l)) w:=by
 obtain⟨e,h1,h2,h3⟩:=Wz h;rcases Nat.eq_zero_or_pos n with h0 |h0
 ·subst h0;have:l=[]:=List.eq_nil_of_length_eq_zero hn;subst this;cases x with
  |none=>rw[run_convert_bytes_string w src dst e none _ cp h1 h2 h3];simp [Conv.bytesToString];rfl
  |some ad=>exact run_convert_bytes_back w src dst e ad cp [] h1 h2 h3 (fun j hj=>absurd hj (by simp))
 ·obtain⟨ad,rfl,hc⟩:=hx h0;subst hn;exact run_convert_bytes_back w src dst e ad cp l h1 h2 h3 (fun j hj=>hc j _ (by simp [kh,List.getElem?_eq_getElem hj]))
theorem vI {e:TypeId} {sz:Nat} {h:Hd} {m:Nat} {xs:List Value} (ho:w.ownsRow 0 e sz h.val m xs):h.n=m/\xs.length=m * sz/\(0<m->∃g,h.a=some ⟨g,0,none⟩/\∀j u,xs[j]? =some u->w.cell? ⟨g,j,none⟩=some u):=by
 obtain⟨hl,hv⟩:=ho;rcases hv with ⟨hv,rfl⟩ |⟨g,cap,cur,hv,_,hh,HO,_,jO,wF⟩
 ·simp only[Hd.val,Value.slice.injEq] at hv;exact⟨hv.2.1,hl,fun h0=>absurd h0 (by omega)⟩
 ·simp only[Hd.val,Value.slice.injEq] at hv;refine⟨hv.2.1,hl,fun _=>⟨g,hv.1,fun j u hu=> ?_⟩⟩;have hj:j<m * sz:=by have:=(List.getElem?_eq_some_iff.1 hu).1;omega
  rw[<- wF,List.getElem?_take,ah hj] at hu;simp only[World.cell?,hh,Option.isSome_none,Bool.false_eq_true,if_false];rw[<- hu,Array.getElem?_toList]
theorem BM (g j:Nat):(Addr.add ⟨g,0,none⟩ j)=⟨g,j,none⟩:=by
 unfold Addr.add;split
 ·rename_i h;subst h;rfl
 ·simp
theorem vL (hS:Sat C n st a V D w) {k u:Nat} {b:Vc} (h:cS st.vc k u=some b):wZ V D w b/\b.id=k/\b.ver=u:=
 ⟨hS.heap.vc b (zJ h).2.2,(zJ h).1,(zJ h).2.1⟩
theorem Qq (hS:Sat C n st a V D w) {src dst:TypeId} {s:SV} (h:qb (.mk (k:=(U c,K)) (st,pN P src dst,s))):
  ∃r,K r/\Yl c P (convert src dst (den V s)) w (den V r):=by
 unfold qb at h;split at h
 ·rename_i k k' m e;simp only[A.mk.injEq,Prod.mk.injEq] at e;obtain⟨rfl,e2,rfl⟩:=e;exact⟨_,h,fun _=>Wy e2⟩
 ·rename_i s' e;simp only[A.mk.injEq,Prod.mk.injEq] at e;obtain⟨rfl,e2,rfl⟩:=e;exact⟨_,h,fun _=>UD e2⟩
 ·rename_i aj k v e;simp only[A.mk.injEq,Prod.mk.injEq] at e;obtain⟨rfl,e2,rfl⟩:=e;obtain⟨b,hb,l,h1,h2⟩:=aB h;refine⟨_,h2,fun hc=> ?_⟩;obtain⟨e1,e3⟩:=h1 hc;obtain⟨hv,rfl,rfl⟩:=vL hS hb;obtain⟨hn,hl,hx⟩:=vI hv.1;have H9:l.length=b.n:=by rw[e1,Nat.mul_one,e3] at hl;simpa [kh] using hl
  refine LL e2 (by rw[H9,hn]) (fun h0=> ?_);obtain⟨g,hg,jj⟩:=hx (by omega);refine⟨_,hg,fun j y hy=> ?_⟩;rw[BM];exact jj j y (by rw[e3];exact hy)
 ·rename_i aj x m cp e;simp only[A.mk.injEq,Prod.mk.injEq] at e;obtain⟨rfl,e2,rfl⟩:=e;obtain⟨l,h1,h2⟩:=h;refine⟨_,h2,fun hc=> ?_⟩;have hr:=h1 hc;refine LL e2 (by have:=hr.1;simpa [kh] using this) (fun h0=>Ny hS.mle hr h0)
 ·cases h
theorem FO {P:Program} {s:TypeId} {f off sz:Nat} {ag:Option Nat} (h:b7 P s f=some (off,ag,sz)):∃fs x,P.underlying s=some (.struct fs)/\fs[f]? =some x/\x.offset=off/\dY P x.type=some ag/\0<bf P x.type/\bf P x.type=sz:=by
 unfold b7 at h;split at h
 ·rename_i fs hs;obtain⟨x,hx,h⟩:=tE h;split at h
  ·rename_i h0;simp only[Option.map_eq_some_iff,Prod.mk.injEq] at h;obtain⟨g,hg,rfl,rfl,rfl⟩:=h;exact⟨fs,x,hs,hx,rfl,hg,h0,rfl⟩
  ·cases h
 ·cases h
theorem Eu {P:Program} {s:TypeId} {f off sz:Nat} {ag:Option Nat} {ad:Addr} (h:b7 P s f=some (off,ag,sz)):(Instr.fieldAt s (.pointer (some ad)) f).run P w= .ok (.pointer (some (ad.add off))) w:=by
 obtain⟨fs,x,hs,hx,rfl,_,h0,_⟩:=FO h;have:bf P x.type≠0:=by omega
 simp [Instr.fieldAt,run_underlying hs,hx,Instr.sureAddr,fieldPlace,zD h0,this]
theorem xM (b o f:Nat):(Addr.add ⟨b,o,none⟩ f)=⟨b,o+f,none⟩:=by
 unfold Addr.add;split
 ·rename_i h;subst h;rfl
 ·rfl
theorem Q6 (hS:Sat C n st a V D w) {s:TypeId} {x:SV} {f off sz:Nat} {ag:Option Nat} (hf:b7 P s f=some (off,ag,sz))
  (h:rr (.mk (k:=(U c,K)) (st,x,off))):∃r,K r/\Yl c P (Instr.fieldAt s (den V x) f) w (den V r):=by
 unfold rr at h;split at h
 ·rename_i aj k o f' e;simp only[A.mk.injEq,Prod.mk.injEq] at e;obtain⟨rfl,rfl,rfl⟩:=e;exact⟨_,h,fun _=>by rw[xK,Eu hf,xM];rfl⟩
 ·rename_i aj k v o f' e;simp only[A.mk.injEq,Prod.mk.injEq] at e;obtain⟨rfl,rfl,rfl⟩:=e;obtain⟨b,hb,h1,h2⟩:=aB h;refine⟨_,h2,fun hc=> ?_⟩;obtain⟨hv,rfl,rfl⟩:=vL hS hb;obtain⟨_,hl,hx⟩:=vI hv.1;have ho:=h1 hc;have hn:0<b.n:=by
   rcases Nat.eq_zero_or_pos b.n with h0 |h0
   ·rw[h0,Nat.zero_mul] at hl;omega
   ·exact h0
  obtain⟨g,hg,_⟩:=hx hn;show(Instr.fieldAt s (.pointer ((V.γ b.id b.ver).a.map (·.add o))) f).run P w= .ok (.pointer ((V.γ b.id b.ver).a.map (·.add (o+off)))) w;rw[hg];simp only[Option.map_some,xM,Eu hf,Nat.zero_add]
 ·rename_i aj y f' e;simp only[A.mk.injEq,Prod.mk.injEq] at e;obtain⟨rfl,rfl,rfl⟩:=e;refine⟨_,h.2,fun hc=> ?_⟩;obtain⟨ad,rfl⟩:=h.1 hc;exact Eu hf
 ·cases h
theorem FC {P:Program} {t:TypeId} {ag:Option Nat} {cs:List Value} {off:Nat} {v:Value} (h:dY P t=some ag)
  (hv:match ag with |none=>cs[off]? =some v |some k=>v= .agg ⟨(cs.drop off).take k⟩/\off+k<=cs.length):(part t ⟨cs⟩ off).run P w= .ok v w:=by
 cases ag with
 |none=>
  simp only[part,Sem.run_bind,II h,Result.andThen_ok,Bool.false_eq_true,if_false];dsimp only at hv;have:(⟨cs⟩:Array Value)[off]? =some v:=by rw[<- hv,<- Array.getElem?_toList]
  rw[this];rfl
 |some k=>
  obtain⟨rfl,hl⟩:=hv;simp only[part,Sem.run_bind,(BJ h).1,(BJ h).2,Result.andThen_ok,if_true,Sem.run_pure];have:(Array.mk cs).extract off (off+k)=⟨(cs.drop off).take k⟩:=by
   apply Array.ext'
   simp [List.extract,Nat.add_sub_cancel_left]
  rw[this]
theorem P4 {s:TypeId} {x:SV} {f off sz:Nat} {ag:Option Nat} {cs:List SV} {r:SV} (hf:b7 P s f=some (off,ag,sz)) (hx:oe x=some cs) (h:tZ cs off ag=some r):
  (Instr.field s (den V x) f).run P w= .ok (den V r) w:=by
 obtain⟨fs,y,hs,hy,rfl,hg,_,_⟩:=FO hf;have hd:den V x= .agg ⟨cs.map (a7 V)⟩:=IQ hx;simp only[Instr.field,Sem.run_bind,run_underlying hs,Result.andThen_ok,hy,hd,asAgg,Sem.run_pure];refine FC hg ?_;have ht:=JI (V:=V) h;cases ag with
 |none=>
  exact ht
 |some k=>exact⟨ht.1,by rw[List.length_map];exact ht.2⟩
end
section
variable {C:Ctx} {n:Nat} {st:LS} {a:Act} {V:Vl} {D:Nat->Nat} {w:World} {P:Program} {p:be} {K:SV->Prop} {c:Bool}
theorem nd {t e:TypeId} (h:gV P t=some e):P.underlying t=some (.slice e):=by
 unfold gV at h;split at h
 ·rename_i e' h';cases h;exact h'
 ·cases h
theorem IV {t e:TypeId} {ad:Addr} {len cp:Nat} {k:IntKind} {i:Int} (h:gV P t=some e) (h0:0<bf P e) (hi:0<=i) (hl:i<len):
  (Instr.indexAt t (.slice (some ad) len cp) (.int k i)).run P w= .ok (.pointer (some (ad.add (i.toNat * bf P e)))) w:=by
 simp [Instr.indexAt,asIntOf,run_underlying (nd h),hi,hl,zD h0]
theorem Q5 (hS:Sat C n st a V D w) {t e:TypeId} {x i:SV} (he:gV P t=some e) (h:sO (.mk (k:=(P,U c,K)) (st,e,x,i))):
  ∃r,K r/\Yl c P (Instr.indexAt t (den V x) (den V i)) w (den V r):=by
 unfold sO at h;split at h
 ·rename_i aj e' x m cp k j q;simp only[A.mk.injEq,Prod.mk.injEq] at q;obtain⟨rfl,rfl,rfl,rfl⟩:=q;refine⟨_,h.2.2,fun hc=> ?_⟩;obtain⟨h1,h2,h3⟩:=h.2.1 hc;cases x with
  |none=>exact absurd rfl h3
  |some ad=>exact IV he h.1 h1 h2
 ·rename_i aj e' k v kk j q;simp only[A.mk.injEq,Prod.mk.injEq] at q;obtain⟨rfl,rfl,rfl,rfl⟩:=q;obtain⟨b,hb,h0,h1,h2⟩:=aB h;refine⟨_,h2,fun hc=> ?_⟩;obtain⟨hv,rfl,rfl⟩:=vL hS hb;obtain⟨i0,i1,_⟩:=h1 hc;obtain⟨hn,hl,hx⟩:=vI hv.1;obtain⟨g,hg,_⟩:=hx (by omega);show(Instr.indexAt t (V.γ b.id b.ver).val (.int kk j)).run P w= .ok (.pointer ((V.γ b.id b.ver).a.map (·.add (j.toNat * bf P e)))) w;unfold Hd.val;rw[hg,hn];exact IV he h0 i0 i1
 ·cases h
theorem byte_at (s:ByteArray) (i:Nat) (h:i<(tl s).length):s[i]? =some ((tl s).getD i 0):=by
 have hs:i<s.size:=by rw[<- xO];exact h
 have e1:s[i]? =some s[i]:=getElem?_pos s i hs;rw[e1];rw[List.getD_eq_getElem?_getD,List.getElem?_eq_getElem h];rfl
theorem Sf {t:TypeId} {x i:SV} (h:uM (.mk (k:=(P,t,U c,K)) (x,i))):∃r,K r/\Yl c P (Instr.index t (den V x) (den V i)) w (den V r):=by
 unfold uM at h;split at h
 ·rename_i s k j q;simp only[A.mk.injEq,Prod.mk.injEq] at q;obtain⟨rfl,rfl⟩:=q;refine⟨_,h.2.2,fun hc=> ?_⟩;obtain⟨h1,h2⟩:=h.2.1 hc;have hb:=byte_at s j.toNat (by omega);simp only[eb,Instr.index,asIntOf,Sem.run_bind,Sem.run_pure,Result.andThen_ok,run_underlying h.1,ah h1,hb]
 ·cases h
theorem IH {o:Option SV} {d l:Int} (h:pW o d=some l):(o=none/\l=d)\/∃k,o=some (.v (.int k l)):=by
 unfold pW at h;split at h
 ·cases h;exact .inl ⟨rfl,rfl⟩
 ·cases h;exact .inr ⟨_,rfl⟩
 ·cases h
theorem CX {k:IntKind} {i:Int} {y:Nat} {code:BoundsCode} (h0:0<=i) (h1:i<=y):(Instr.sliceBound (.int k i) y code).run P w= .ok i.toNat w:=by
 simp [Instr.sliceBound,asIntOf,h0,h1]
theorem LK {isS:Bool} {len cp:Nat} {lo hi:Option SV} {l h:Int} (hl:pW lo 0=some l) (hh:pW hi len=some h) (h0:0<=l) (h1:l<=h) (h2:h<=cp):
  (Instr.sliceBounds isS len cp (lo.map (den V)) (hi.map (den V)) none).run P w= .ok (l.toNat,h.toNat,cp) w:=by
 have eh:(h.toNat:Int)=h:=Int.toNat_of_nonneg (by omega);rcases IH hl with ⟨rfl,rfl⟩ |⟨k,rfl⟩<;>rcases IH hh with ⟨rfl,rfl⟩ |⟨k',rfl⟩
 ·simp [Instr.sliceBounds]
 ·simp only[Instr.sliceBounds,Option.map_none,Option.map_some,Sem.run_bind,Sem.run_pure,Result.andThen_ok,eb];rw[CX (by omega) h2];rfl
 ·simp only[Instr.sliceBounds,Option.map_none,Option.map_some,Sem.run_bind,Sem.run_pure,Result.andThen_ok,eb];rw[CX h0 h1];simp
 ·simp only[Instr.sliceBounds,Option.map_none,Option.map_some,Sem.run_bind,Sem.run_pure,Result.andThen_ok,eb];rw[CX (by omega) h2];simp only[Result.andThen_ok];rw[CX h0 (by omega)];rfl
theorem Rv (s:ByteArray) (l h:Nat):s.extract l h=bs (((tl s).take h).drop l):=by
 rw[<- la (s.extract l h)];congr 1
 show(s.extract l h).data.toList=_;rw[Lib.extract_data,List.drop_take];rfl
theorem R9 {t:TypeId} {x:SV} {lo hi:Option SV} (h:td (.mk (k:=(P,t,U c,K)) (x,lo,hi))):
  ∃r,K r/\Yl c P (Instr.sliceAt t (den V x) (lo.map (den V)) (hi.map (den V)) none) w (den V r):=by
 unfold td at h;split at h
 ·rename_i s lo hi q;simp only[A.mk.injEq,Prod.mk.injEq] at q;obtain⟨rfl,rfl,rfl⟩:=q;obtain⟨ht,h⟩:=h;obtain⟨l,hl,h⟩:=aB h;obtain⟨r,hr,h⟩:=aB h;simp only[G4] at h;refine⟨_,h.2,fun hc=> ?_⟩;obtain⟨h0,h1,h2⟩:=h.1 hc;rw[xO] at hr h2;rw[eb,run_sliceAt_string (h:=ht)];simp only[Instr.slice,Sem.run_bind,run_underlying ht,Result.andThen_ok,Option.isSome_none,Bool.false_eq_true,if_false,Sem.run_pure];rw[LK hl hr h0 h1 h2];simp only[Result.andThen_ok,Rv];rfl
 ·rename_i x m cp lo hi q;simp only[A.mk.injEq,Prod.mk.injEq] at q;obtain⟨rfl,rfl,rfl⟩:=q;obtain⟨l,hl,h⟩:=aB h;obtain⟨r,hr,h⟩:=aB h;obtain⟨e,he,hz,h⟩:=aB h;refine⟨_,h.2,fun hc=> ?_⟩;obtain⟨h0,h1,h2⟩:=h.1 hc;have hu:=nd he;have HG:P.underlying t=some (.slice (P.elem t)):=by
   rw[hu];unfold Program.elem;rw[hu]
  rw[eb,run_sliceAt_slice (h:=HG)];simp only[Instr.slice,Sem.run_bind,run_underlying hu,Result.andThen_ok];rw[LK hl hr h0 h1 h2];simp only[Result.andThen_ok,zD hz,Sem.run_pure];rfl
 ·cases h
theorem zh {t:TypeId} {ad:Addr} {v:Value} (h:(loadVar t ad).run P w= .ok v w):(Instr.loadAt t (.pointer (some ad))).run P w= .ok v w:=by
 simp [Instr.loadAt,Instr.sureAddr,h]
theorem Mz (hS:Sat C n st a V D w) {k:Nat} {b:Bx} (h:gl st.bx k=some b) (dI:b.ty<nE) (j:Nat):w.cell? ⟨V.β k,j,none⟩=(b.cs.map (a7 V))[j]? :=by
 obtain⟨rfl,hm⟩:=sj h;obtain⟨o,this,ho⟩:=(hS.heap.bx b hm).1;unfold lL at ho;rw[ah dI] at ho;subst ho;simp only[World.cell?,this,Option.isSome_none,Bool.false_eq_true,if_false];rw[<- Array.getElem?_toList]
theorem IX (hS:Sat C n st a V D w) {t:TypeId} {x:SV} (h:oC (.mk (k:=(P,t,U c,K)) (st,x))):∃r,K r/\Yl c P (Instr.loadAt t (den V x)) w (den V r):=by
 unfold oC at h;split at h
 ·rename_i aj k o q;simp only[A.mk.injEq,Prod.mk.injEq] at q;obtain⟨rfl,rfl⟩:=q;obtain⟨b,hb,dI,h⟩:=aB h;obtain⟨ag,iA,h⟩:=aB h;obtain⟨r,hr,h⟩:=aB h;refine⟨r,h,fun _=>zh ?_⟩;have ht:=JI (V:=V) hr;cases ag with
  |none=>
   refine w9 (cs:=[den V r]) iA (fun j u hu=> ?_) rfl;cases j with
   |zero=>rw[xM,Mz hS hb dI];simp only[List.getElem?_cons_zero] at hu;rw[<- hu];exact ht
   |succ j=>simp at hu
  |some k' =>
   refine w9 (cs:=((b.cs.map (a7 V)).drop o).take k') iA (fun j u hu=> ?_) ⟨?_,ht.1⟩
   ·rw[xM,Mz hS hb dI];rw[List.getElem?_take] at hu;split at hu
    ·rw[List.getElem?_drop] at hu;exact hu
    ·cases hu
   ·have:=ht.2;simp only[List.length_take,cj,List.length_map];omega
 ·rename_i aj k v o q;simp only[A.mk.injEq,Prod.mk.injEq] at q;obtain⟨rfl,rfl⟩:=q;obtain⟨b,hb,h⟩:=aB h;obtain⟨ag,iA,h⟩:=aB h;obtain⟨hv,rfl,rfl⟩:=vL hS hb;obtain⟨_,hl,hx⟩:=vI hv.1;have key:o<b.xs.length->∃g,den V (.vp b.id b.ver o)= .pointer (some ⟨g,o,none⟩)/\∀j u,b.xs[j]? =some u->w.cell? ⟨g,j,none⟩=some u:=by
   intro ho;have hn:0<b.n:=by
    rcases Nat.eq_zero_or_pos b.n with h0 |h0
    ·rw[h0,Nat.zero_mul] at hl;omega
    ·exact h0
   obtain⟨g,hg,hc⟩:=hx hn;refine⟨g,?_,hc⟩;show Value.pointer ((V.γ b.id b.ver).a.map (·.add o))=_;rw[hg];simp only[Option.map_some,BM]
  cases ag with
  |none=>
   simp only[vW] at h;refine⟨_,h.2,fun hc=> ?_⟩;have ho:=h.1 hc;obtain⟨g,hg,jj⟩:=key ho;rw[hg,eb];refine zh (w9 (cs:=[b.xs.getD o undef]) iA (fun j u hu=> ?_) rfl);cases j with
   |zero=>
    simp only[List.getElem?_cons_zero,de] at hu;rw[xM];refine jj _ _ ?_;rw[<- hu,Nat.add_zero,List.getD_eq_getElem?_getD,List.getElem?_eq_getElem ho];rfl
   |succ j=>simp at hu
  |some k' =>
   simp only[vW] at h;obtain⟨hk,h⟩:=h;refine⟨_,h.2,fun hc=> ?_⟩;have ho:=h.1 hc;obtain⟨g,hg,jj⟩:=key (by omega);rw[hg,eb];refine zh (w9 (cs:=(b.xs.drop o).take k') iA (fun j u hu=> ?_) ⟨by simp only[List.length_take,cj];omega,rfl⟩);rw[xM];refine jj _ _ ?_;rw[List.getElem?_take] at hu;split at hu
   ·rw[List.getElem?_drop] at hu;exact hu
   ·cases hu
 ·rename_i aj x q;simp only[A.mk.injEq,Prod.mk.injEq] at q;obtain⟨rfl,rfl⟩:=q;obtain⟨ag,iA,h⟩:=aB h;cases ag with
  |none=>
   simp only[wy] at h;obtain⟨v,h1,h2⟩:=h;refine⟨_,h2,fun hc=> ?_⟩;obtain⟨ad,rfl,jj⟩:=N0 hS.mle (h1 hc);exact zh (w9 iA jj rfl)
  |some k' =>
   simp only[wy] at h;obtain⟨cs,h1,h2⟩:=h;refine⟨_,h2,fun hc=> ?_⟩;obtain⟨hr,hlen⟩:=h1 hc;obtain⟨ad,rfl,jj⟩:=N0 hS.mle hr;exact zh (w9 iA jj ⟨hlen,rfl⟩)
 ·cases h
end
open Classical in
noncomputable def lP:List (Value×Value)->Value->Value->List (Value×Value)
 |[],s,x=>[(s,x)]
 |(a,v)::r,s,x=>if a=s then(a,x)::r else(a,v)::lP r s x
open Classical in
noncomputable def lV:List (Value×Value)->Value->Option (Nat×Value)
 |[],_=>none
 |(a,v)::r,s=>if a=s then some (0,v) else(lV r s).map fun x=>(x.1+1,x.2)
theorem Kg (a v:Value) (l:List (Value×Value)):mL ((a,v)::l)=a::v::mL l:=rfl
theorem Fl (s:Value):∀(l:List (Value×Value)),kZ (mL l) s=(lV l s).map (·.2)
 |[]=>rfl
 |(a,v)::l=>by
  rw[Kg,kZ,lV];by_cases h:a=s
  ·rw[ah h,ah h];rfl
  ·rw[ae h,ae h,Fl s l];cases lV l s<;>rfl
theorem KM (s x:Value):∀(l:List (Value×Value)),uy (mL l) s x=mL (lP l s x)
 |[]=>rfl
 |(a,v)::l=>by
  rw[Kg,uy,lP];by_cases h:a=s
  ·rw[ah h,ah h];rfl
  ·rw[ae h,ae h,KM s x l];rfl
theorem Ge (s:Value):∀(es:List MapEntry) (i:Nat),uS es s i=(lV (es.map fun e=>(e.key,e.val)) s).map fun x=>(i+x.1,x.2)
 |[],_=>rfl
 |e::es,i=>by
  simp only[uS,bh,lV];by_cases h:e.key=s
  ·rw[ah h,ah h];rfl
  ·rw[ae h,ae h,Ge s es (i+1)];cases lV (es.map fun e=>(e.key,e.val)) s with
   |none=>rfl
   |some x=>simp only[Option.map_some];rw[show i+1+x.1=i+(x.1+1) by omega]
theorem Mi {g:Nat}:∀{l:List (Value×Value)} {s:Value} {y:Nat×Value},(∀x∈l,fN g x.1/\ka g x.2)->lV l s=some y->ka g y.2
 |[],_,_,_,h=>by cases h
 |(a,v)::l,s,y,hl,h=>by
  simp only[lV] at h;split at h
  ·cases h;exact(hl (a,v) (df ..)).2
  ·obtain⟨y',h',rfl⟩:=Option.map_eq_some_iff.1 h;exact Mi (l:=l) (s:=s) (y:=y') (fun x hx=>hl x (cu _ hx)) h'
theorem LV {g:Nat} {s x:Value} (hs:fN g s) (hx:ka g x):∀{l:List (Value×Value)},(∀y∈l,fN g y.1/\ka g y.2)->∀y∈lP l s x,fN g y.1/\ka g y.2
 |[],_,y,hy=>by
  rw[List.mem_singleton.1 hy];exact⟨hs,hx⟩
 |(a,v)::l,hl,y,hy=>by
  rw[lP] at hy;have ha:=hl (a,v) (df ..);have hr:=fun z hz=>hl z (cu _ hz)
  split at hy
  ·rcases List.mem_cons.1 hy with rfl |hy
   ·exact⟨ha.1,hx⟩
   ·exact hr y hy
  ·rcases List.mem_cons.1 hy with rfl |hy
   ·exact ha
   ·exact LV hs hx hr y hy
theorem Sv {P:Program} {t:TypeId} (h:(im P t).2=none):(im P t).1≠1000002:=by
 unfold im at h ⊢;split<;>rename_i hu
 ·rw[hu] at h;simp only at h ⊢;split<;>rename_i hk he
  ·simp
  ·exfalso;revert h;split
   ·simp_all
   ·simp
   ·simp_all
   ·simp_all
  ·simp
  ·simp
 ·simp
theorem RQ {g:Nat} {v:Value} (h:ka g v) (hg:g≠1000002):∃b,v= .bool b:=by
 unfold ka at h;rwa [ae hg] at h
theorem Ug {P:Program} {w:World} {g:Nat} {v:Value} (h:fN g v):(Instr.keyThatStays v v).run P w= .ok v w:=by
 have e:Instr.sameBits 10000 v v=true:=by
  unfold fN at h;split at h
  ·obtain⟨s,n,rfl⟩:=h;have hs:(s==s)=true:=(MapKept.bytes_beq s s).2 rfl;simp [Instr.sameBits,hs]
  ·obtain⟨s,rfl⟩:=h;have hs:(s==s)=true:=(MapKept.bytes_beq s s).2 rfl;simp [Instr.sameBits,hs]
 unfold Instr.keyThatStays;rw[e];rfl
def Dx (c:Bool) (z:Value):Option Value->Value
 |some v=>if c=true then .tuple #[v,.bool true] else v
 |none=>if c=true then .tuple #[z,.bool false] else z
section
variable {P:Program} {w:World} {t:TypeId} {r oX:Nat} {es:Array MapEntry} {l:List (Value×Value)}
theorem Mg {g:Nat} (eE:es.toList.map (fun e=>(e.key,e.val))=l) (hk:∀x∈l,fN g x.1/\ka g x.2):∀x∈es.toList,fN g x.key:=fun x hx=>by
 have:(x.key,x.val)∈l:=by rw[<- eE];exact List.mem_map.2 ⟨x,hx,rfl⟩
 exact(hk _ this).1
theorem Ri (ht:uo P t) (hb:w.heap[r]? =some (.map es oX)) (eE:es.toList.map (fun e=>(e.key,e.val))=l) (hk:∀x∈l,fN (im P t).1 x.1/\ka (im P t).1 x.2) {key:Value} (qm:fN (im P t).1 key) (c:Bool):
  (Instr.lookup t (.map (some r)) key c).run P w= .ok (Dx c ((im P t).2.getD (.bool false)) (kZ (mL l) key)) w:=by
 obtain⟨_,k,e,h1,h2,h3,h4⟩:=ht;have hc:=h2 w key es.isEmpty 9998 qm;have hf:=h3 w key es.toList qm (Mg eE hk);rw[Ge,eE] at hf;have hz:=h4 w;rw[Fl];cases hx:lV l key with
 |none=>
  rw[hx] at hf;cases c<;>simp [Instr.lookup,run_underlying h1,MapKept.run_getObj_map hb,hc,hf,hz,Result.andThen,Dx]
 |some x=>
  rw[hx] at hf;cases c<;>simp [Instr.lookup,run_underlying h1,MapKept.run_getObj_map hb,hc,hf,Result.andThen,Dx]
theorem KL {s x:Value}:∀{l:List (Value×Value)},lV l s=none->lP l s x=l++[(s,x)]
 |[],_=>rfl
 |(a,v)::l,h=>by
  simp only[lV] at h;split at h
  ·cases h
  ·rename_i hs;rw[lP,ae hs,KL (Option.map_eq_none_iff.1 h)];rfl
theorem KK {s x:Value}:∀{l:List (Value×Value)} {y:Nat×Value},lV l s=some y->∃h:y.1<l.length,l[y.1].1=s/\lP l s x=l.set y.1 (s,x)
 |[],_,h=>by cases h
 |(a,v)::l,y,h=>by
  simp only[lV] at h;split at h
  ·rename_i hs;cases h;exact⟨Nat.zero_lt_succ _,hs,by rw[lP,ah hs,hs];rfl⟩
  ·rename_i hs;obtain⟨y',h',rfl⟩:=Option.map_eq_some_iff.1 h;obtain⟨h1,h2,h3⟩:=KK (x:=x) h';exact⟨Nat.succ_lt_succ h1,h2,by rw[lP,ae hs,h3];rfl⟩
theorem QJ (ht:uo P t) (hb:w.heap[r]? =some (.map es oX)) (eE:es.toList.map (fun e=>(e.key,e.val))=l) (hk:∀x∈l,fN (im P t).1 x.1/\ka (im P t).1 x.2) {key:Value} (qm:fN (im P t).1 key) (v:Value):
  ∃wT yr,(Instr.mapUpdate t (.map (some r)) key v).run P w= .ok () {w with heap:=w.heap.setIfInBounds r (.map wT yr)}/\
   wT.toList.map (fun e=>(e.key,e.val))=lP l key v:=by
 obtain⟨_,k,e,h1,h2,h3,h4⟩:=ht;have hc:=h2 w key false 9998 qm;have hf:=h3 w key es.toList qm (Mg eE hk);rw[Ge,eE] at hf;cases hx:lV l key with
 |none=>
  rw[hx] at hf;refine⟨es.push {key:=key,val:=v,born:=oX},oX+1,?_,?_⟩
  ·simp [Instr.mapUpdate,run_underlying h1,MapKept.run_getObj_map hb,hc,hf,MapKept.run_setObj_map _ hb,Result.andThen]
  ·rw[KL hx,Array.toList_push,List.map_append,eE];rfl
 |some y=>
  rw[hx] at hf;obtain⟨hy,hky,hput⟩:=KK (x:=v) hx;have hlen:es.toList.length=l.length:=by have:=congrArg List.length eE;simpa using this
  have hj:y.1<es.size:=by rw[<- Array.length_toList,hlen];exact hy
  have YO:(es[y.1]).key=key:=by
   have:=congrArg (·[y.1]?) eE;simp only[List.getElem?_map,Array.getElem?_toList,Array.getElem?_eq_getElem hj,List.getElem?_eq_getElem hy,Option.map_some,de] at this;rw[<- hky,<- this]
  refine⟨es.modify y.1 fun e=>{e with key:=key,val:=v},oX,?_,?_⟩
  ·simp [Instr.mapUpdate,run_underlying h1,MapKept.run_getObj_map hb,hc,hf,MapKept.run_setObj_map _ hb,Result.andThen,hj,YO,Ug qm]
  ·rw[hput];apply List.ext_getElem?
   intro q;have hq:=congrArg (·[q]?) eE;simp only[List.getElem?_map,Array.getElem?_toList] at hq ⊢;rw[List.getElem?_set,Array.getElem?_modify];by_cases e:y.1=q
   ·subst e;simp [hj,hy]
   ·simp only[ae e];exact hq
end
/-! Which maps are so. -/
theorem I1 {s:ByteArray}:∀(es:List MapEntry) (i:Nat),(∀x∈es,∃a,x.key= .string a)->Instr.findNow .string (.string s) es i=some (uS es (.string s) i)
 |[],_,_=>rfl
 |e::es,i,h=>by
  obtain⟨a,ha⟩:=h e (df ..);have ih:=I1 (s:=s) es (i+1) fun x hx=>h x (cu _ hx)
  simp only[Instr.findNow,ha,Instr.sameNow,uS];by_cases hs:s=a
  ·have:(s==a)=true:=(MapKept.bytes_beq s a).2 hs;rw[this,ah (by rw[ha,hs])]
  ·have:(s==a)=false:=by
    cases hb:(s==a) with
    |false=>rfl
    |true=>exact absurd ((MapKept.bytes_beq s a).1 hb) hs
   rw[this,ae (fun h=>hs (Value.string.inj (ha.symm.trans h)).symm)];exact ih
theorem FL {g:Nat} {v:Value} (hg:g≠1000001):fN g v↔∃s,v= .string s:=by unfold fN;rw[ae hg]
theorem Su {P:Program} {t k e:TypeId} (h1:P.underlying t=some (.map k e)) (h2:P.underlying k=some .string) (hg:nE<=(im P t).1/\(im P t).1≠1000001)
  (hz:∀w,(zeroValue e).run P w= .ok ((im P t).2.getD (.bool false)) w):uo P t:=by
 refine⟨hg.1,k,e,h1,fun w key em n hk=> ?_,fun w key es hk eE=> ?_,hz⟩
 ·obtain⟨s,rfl⟩:=(FL hg.2).1 hk;exact MapKept.run_checkKey (P:=P) (w:=w) (kt:=k) h2 (by simp [MapKept.IsKey]) em (n+1)
 ·obtain⟨s,rfl⟩:=(FL hg.2).1 hk;exact MapKept.run_findKey (P:=P) (w:=w) (kt:=k) h2 (I1 es 0 fun x hx=>(FL hg.2).1 (eE x hx))
theorem JD {P:Program} {e:TypeId} {i:TypeInfo} {z:Value} (h1:P.info? e=some i) (h2:i.zero=some z) (w:World):(zeroValue e).run P w= .ok z w:=by simp [zeroValue,typeInfo,h1,h2]
section
variable {P:Program} {C:Ctx} {n:Nat} {st:LS} {a:Act} {V:Vl} {D:Nat->Nat} {w:World} {K:SV->Prop}
theorem B6 {V:Vl}:∀{cs:List SV} {l:List Value},lC cs=some l->cs.map (a7 V)=l
 |[],l,h=>by simp only[lC,de] at h;subst h;rfl
 |s::r,l,h=>by
  simp only[lC,Option.bind_eq_some_iff,Option.map_eq_some_iff] at h;obtain⟨x,hx,l',hl,rfl⟩:=h;simp only[bh];rw[B6 hl];cases s<;>simp only[plain,de] at hx<;>first |(subst hx;rfl) |cases hx
theorem E6 {V:Vl} {s:SV} {v:Value} (h:ox s=some v):den V s=v:=by
 cases s with
 |v x=>cases h;rfl
 |agg cs=>
  obtain⟨l,hl,rfl⟩:=Option.map_eq_some_iff.1 h;show Value.agg ⟨_⟩=_;rw[B6 hl]
 |box k o=>cases h
 |vec k u=>cases h
 |vp k u o=>cases h
 |mp k=>cases h
 |mv f k o=>cases h
 |tup l=>cases h
theorem MW (hS:Sat C n st a V D w) {k:Nat} {b:Bx} (hb:gl st.bx k=some b) (dI:nE<=b.ty):
  ∃es oX l,w.heap[V.β k]? =some (.map es oX)/\b.cs.map (a7 V)=mL l/\es.toList.map (fun e=>(e.key,e.val))=l/\∀x∈l,fN b.ty x.1/\ka b.ty x.2:=by
 obtain⟨rfl,hm⟩:=sj hb;obtain⟨o,ho,hob⟩:=(hS.heap.bx b hm).1;unfold lL at hob;rw[ae (Nat.not_lt.2 dI)] at hob;obtain⟨es,oX,l,rfl,h1,h2,h3⟩:=hob;exact⟨es,oX,l,ho,h1,h2,h3⟩
theorem Q3 (hS:Sat C n st a V D w) {t:TypeId} {c:Bool} {x i:SV} (h:sM (.mk (k:=(P,t,c,K)) (st,x,ox i))):∃r,K r/\(Instr.lookup t (den V x) (den V i) c).run P w= .ok (den V r) w:=by
 unfold sM at h;split at h
 ·rename_i aj k key q;simp only[A.mk.injEq,Prod.mk.injEq] at q;obtain⟨rfl,rfl,qm⟩:=q;obtain⟨b,hb,dI,ht,hk,h⟩:=aB h;obtain⟨l,hl,hK⟩:=aB h;have dI:=beq_iff_eq.1 dI;obtain⟨es,oX,l',h1,h2,h3,h4⟩:=MW hS hb (by rw[dI];exact ht.1);rw[B6 hl] at h2;rw[dI] at h4 hk;subst h2;have cR:=Ri (P:=P) (w:=w) ht h1 h3 h4 hk c;rw[E6 qm];unfold sN at hK;split at hK
  ·rename_i q;simp only[A.mk.injEq,Prod.mk.injEq] at q;obtain⟨rfl,hz⟩:=q;refine⟨_,hK,?_⟩;rw[hz] at cR;rw[show Instr.lookup t (den V (.mp k)) key false=Instr.lookup t (.map (some (V.β k))) key false from rfl,cR];rw[Fl];cases hx:lV l' key with
   |none=>rfl
   |some y=>
    obtain⟨bv,hbv⟩:=RQ (Mi h4 hx) (Sv hz);simp only[Option.map_some,Dx,hbv];rfl
  ·rename_i z q;simp only[A.mk.injEq,Prod.mk.injEq] at q;obtain⟨rfl,hz⟩:=q;rw[hz] at cR;cases hf:kZ (mL l') key with
   |none=>
    rw[hf] at cR;exact⟨_,hK.2 hf,cR⟩
   |some v=>
    rw[hf] at cR;exact⟨_,hK.1 v hf,cR⟩
  ·rename_i z q;simp only[A.mk.injEq,Prod.mk.injEq] at q;obtain⟨rfl,hz⟩:=q;rw[hz] at cR;cases hf:kZ (mL l') key with
   |none=>
    rw[hf] at cR;exact⟨_,hK.2 hf,cR⟩
   |some v=>
    rw[hf] at cR;exact⟨_,hK.1 v hf,cR⟩
  ·cases hK
 ·cases h
end
section
variable {C:Ctx} {n:Nat} {st:LS} {a:Act} {V:Vl} {D:Nat->Nat} {w:World} {P:Program} {p:be} {K:SV->Prop} {c:Bool}
theorem KB:∀(l cs:List SV) (off:Nat),(ke cs off l).length=cs.length
 |[],_,_=>rfl
 |c::r,cs,off=>by simp only[ke];rw[KB r];simp
theorem FN {V:Vl}:∀(l:List SV) (cs:List SV) (off k:Nat),
  (List.zipIdx (l.map (a7 V)) k).foldl (fun(cs:Array Value) (x:Value×Nat)=>cs.setIfInBounds (off+x.2) x.1) ⟨cs.map (a7 V)⟩=⟨(ke cs (off+k) l).map (a7 V)⟩
 |[],_,_,_=>rfl
 |c::r,cs,off,k=>by
  simp only[bh,List.zipIdx_cons,List.foldl_cons,ke];have:(⟨cs.map (a7 V)⟩:Array Value).setIfInBounds (off+k) (a7 V c)=⟨(cs.set (off+k) c).map (a7 V)⟩:=by
   apply Array.ext'
   simp
  rw[this,FN r (cs.set (off+k) c) off (k+1)];rfl
theorem KD {α β:Type} (f:α->Sem β) (g:α->β):∀(l:List α),(∀x∈l,∀w,(f x).run P w= .ok (g x) w)->∀w,(l.mapM f).run P w= .ok (l.map g) w
 |[],_,w=>by simp
 |x::r,h,w=>by
  simp only[List.mapM_cons,Sem.run_bind,h x (df ..),Result.andThen_ok,KD f g r (fun y hy=>h y (cu _ hy)),Sem.run_pure,bh]
theorem TA {α β:Type} (f:α->Sem β) (g:α->β) (l:Array α) (h:∀x∈l.toList,∀w,(f x).run P w= .ok (g x) w):(l.mapM f).run P w= .ok (l.map g) w:=by
 obtain⟨l⟩:=l;simp only[List.mapM_toArray,Sem.run_map,KD f g l h,Result.andThen_ok];simp
theorem EF {t:TypeId} {cs:List SV} (h:eV P t=some cs):∃z,(zeroValue t).run P w= .ok z w/\z.cells=⟨cs.map (a7 V)⟩:=by
 unfold eV at h;simp only[Option.map_eq_some_iff,Option.bind_eq_some_iff] at h;obtain⟨z,⟨i,hi,hz⟩,rfl⟩:=h;refine⟨z,by simp [zeroValue,typeInfo,hi,hz],?_⟩;rw[xW]
theorem IN (hS:Sat C n st a V D w) (hp:ft st.rho p) (hc:bF st.rho p=true) {t:TypeId} {fs:Array Field} (hf:P.underlying t=some (.struct fs)):
  ∀(parts:List (Nat×Operand)) (cs cU:List SV),tU P t st p parts cs=some cU->
   Instr.fill (fun i=>(fs.map fun f=>(f.offset,bf P f.type))[i]?) ⟨cs.map (a7 V)⟩ (parts.map fun x=>(x.1,a.eval x.2))=some ⟨cU.map (a7 V)⟩
 |[],cs,cU,h=>by simp only[tU,de] at h;subst h;rfl
 |(i,x)::r,cs,cU,h=>by
  simp only[tU,Option.bind_eq_some_iff] at h;obtain⟨⟨off,ag,sz⟩,hfo,l,⟨s,hs,hl⟩,h⟩:=h;split at h
  ·rename_i jO;split at h
   ·rename_i sW;dsimp only at jO sW h;obtain⟨fs',y,hs',hy,rfl,_,_,rfl⟩:=FO hfo;rw[hf] at hs';cases hs';have pL:=cV hS hp hc hs;have bN:=BN (V:=V) hl;have Ap:(a.eval x).cells.size=l.length:=by rw[pL,bN];simp
    have km:(fs.map fun f=>(f.offset,bf P f.type))[i]? =some (y.offset,bf P y.type):=by
     simp [Array.getElem?_map,hy]
    simp only[bh,Instr.fill,km]
    rw[ae (by
     simp only[Ap,List.size_toArray,List.length_map,Bool.or_eq_true,gA,not_or,Decidable.not_not]
     exact⟨by simpa using jO,by omega⟩)]
    have GS:((a.eval x).cells.zipIdx.foldl (fun(cs:Array Value) (x:Value×Nat)=>cs.setIfInBounds (y.offset+x.2) x.1) ⟨cs.map (a7 V)⟩)=⟨(ke cs y.offset l).map (a7 V)⟩:=by
     rw[pL,bN,<- Array.foldl_toList];have:=FN (V:=V) l cs y.offset 0;simp only[Nat.add_zero] at this;rw[<- this];simp [Array.toList_zipIdx]
    have ih:=IN hS hp hc hf r _ cU h;rw[<- ih,<- GS]
   ·cases h
  ·cases h
theorem RZ {fs:Array Field} (h:(fs.toList.all fun x=>(P.info? x.type).isSome)=true):
  (fs.mapM (m:=Sem) fun(f:Field)=>do pure (f.offset,<- sizeOf f.type)).run P w= .ok (fs.map fun f=>(f.offset,bf P f.type)) w:=by
 refine TA _ _ fs (fun x hx w=> ?_);have:=List.all_eq_true.1 h x hx;obtain⟨i,hi⟩:=Option.isSome_iff_exists.1 this;simp [sizeOf,typeInfo,hi,bf]
theorem QD (hS:Sat C n st a V D w) (hp:ft st.rho p) (hc:bF st.rho p=true) {t:TypeId} {parts:Array (Nat×Operand)} {z cs:List SV}
  (hb:mD P t=true) (hz:eV P t=some z) (h:tU P t st p parts.toList z=some cs):
  (Instr.build t (parts.map fun x=>(x.1,a.eval x.2))).run P w= .ok (.agg ⟨cs.map (a7 V)⟩) w:=by
 unfold mD at hb;split at hb
 ·rename_i fs hf;obtain⟨zv,hzv,hzc⟩:=EF (V:=V) (w:=w) hz;have yb:=IN hS hp hc hf parts.toList z cs h;simp only[Instr.build,Sem.run_bind,hzv,Result.andThen_ok,run_underlying hf,RZ hb,hzc];have:(parts.map fun x=>(x.1,a.eval x.2)).toList=parts.toList.map fun x=>(x.1,a.eval x.2):=by simp
  rw[this,yb];simp
 ·cases hb
theorem LR (hS:Sat C n st a V D w) (hp:ft st.rho p) (hc:bF st.rho p=true) {x:Option Operand} {s:Option SV} (h:vY st p x=some s):x.map a.eval=s.map (den V):=by
 cases x with
 |none=>simp only[vY,de] at h;subst h;rfl
 |some x=>
  simp only[vY,Option.map_eq_some_iff] at h;obtain⟨s,hs,rfl⟩:=h;simp only[Option.map_some,cV hS hp hc hs]
theorem Fe {s r:SV} (h:mw s=some r):den V r=lT V s:=by
 cases s<;>simp only[mw,de] at h<;>first |(subst h;rfl) |cases h
theorem Q7 {x:SV} {i:Nat} (h:sP (.mk (k:=K) (x,i))):∃r,K r/\(Instr.extract (den V x) i).run P w= .ok (den V r) w:=by
 unfold sP at h;split at h
 ·rename_i l i' q;simp only[A.mk.injEq,Prod.mk.injEq] at q;obtain⟨rfl,rfl⟩:=q;obtain⟨r,hr,hK⟩:=aB h;obtain⟨s,hs,hr⟩:=tE hr;refine⟨r,hK,?_⟩;have:(⟨l.map (lT V)⟩:Array Value)[i]? =some (den V r):=by
   rw[<- Array.getElem?_toList];simp only[List.getElem?_map,hs,Option.map_some,Fe hr]
  rw[Wv];simp only[Instr.extract,this,Sem.run_pure]
 ·rename_i l i' q;simp only[A.mk.injEq,Prod.mk.injEq] at q;obtain⟨rfl,rfl⟩:=q;obtain⟨r,hr,hK⟩:=aB h;simp only[Option.map_eq_some_iff] at hr;obtain⟨v,hv,rfl⟩:=hr;refine⟨_,hK,?_⟩;have:(⟨l⟩:Array Value)[i]? =some v:=by rw[<- Array.getElem?_toList];exact hv
  simp only[eb,Instr.extract,this,Sem.run_pure]
 ·cases h
theorem Q4 (hS:Sat C n st a V D w) {t ty:TypeId} {x:SV} (h:rq (.mk (k:=(P,t,K)) (st,x))):∃r,K r/\(Builtin.len_ #[t] ty #[den V x]).run P w= .ok (den V r) w:=by
 unfold rq at h;split at h
 ·rename_i aj s q;simp only[A.mk.injEq,Prod.mk.injEq] at q;obtain⟨rfl,rfl⟩:=q;refine⟨_,h.2,?_⟩;simp [Builtin.len_,run_underlying h.1,eb,goInt,xO]
 ·rename_i aj x m cp q;simp only[A.mk.injEq,Prod.mk.injEq] at q;obtain⟨rfl,rfl⟩:=q;obtain⟨e,he,hK⟩:=aB h;refine⟨_,hK,?_⟩;simp [Builtin.len_,run_underlying (nd he),eb,goInt]
 ·rename_i aj k v q;simp only[A.mk.injEq,Prod.mk.injEq] at q;obtain⟨rfl,rfl⟩:=q;obtain⟨e,he,h⟩:=aB h;obtain⟨b,hb,hK⟩:=aB h;obtain⟨hv,rfl,rfl⟩:=vL hS hb;obtain⟨hn,_,_⟩:=vI hv.1;refine⟨_,hK,?_⟩;show(Builtin.len_ #[t] ty #[(V.γ b.id b.ver).val]).run P w=_;unfold Hd.val;simp [Builtin.len_,run_underlying (nd he),eb,goInt,hn]
 ·cases h
theorem Q1 {ts:Array TypeId} {ty:TypeId} {x y:SV} (h:uv (.mk (k:=K) (x,y))):∃r,K r/\(Builtin.min_ ts ty #[den V x,den V y]).run P w= .ok (den V r) w:=by
 unfold uv at h;split at h
 ·rename_i k i k' j q;simp only[A.mk.injEq,Prod.mk.injEq] at q;obtain⟨rfl,rfl⟩:=q;exact⟨_,h,by simp [Builtin.min_,Builtin.min2,eb]⟩
 ·cases h
theorem Q2 {ts:Array TypeId} {ty:TypeId} {x y:SV} (h:uw (.mk (k:=K) (x,y))):∃r,K r/\(Builtin.max_ ts ty #[den V x,den V y]).run P w= .ok (den V r) w:=by
 unfold uw at h;split at h
 ·rename_i k i k' j q;simp only[A.mk.injEq,Prod.mk.injEq] at q;obtain⟨rfl,rfl⟩:=q;exact⟨_,h,by simp [Builtin.max_,Builtin.max2,eb]⟩
 ·cases h
theorem Qp {ts:Array TypeId} {ty:TypeId} {x y z u:SV} (h:ud (.mk (k:=K) (x,y,z,u))):∃r,K r/\(Builtin.max_ ts ty #[den V x,den V y,den V z,den V u]).run P w= .ok (den V r) w:=by
 unfold ud at h;split at h
 ·rename_i k a k' b k2 c k3 d q;simp only[A.mk.injEq,Prod.mk.injEq] at q;obtain⟨rfl,rfl,rfl,rfl⟩:=q;exact⟨_,h,by simp [Builtin.max_,Builtin.max2,eb,mx]<;>rfl⟩
 ·cases h
theorem Qn (hS:Sat C n st a V D w) (hp:ft st.rho p) {g:Gd} {x y:Operand} (hg:g∈st.rho) (h:sA (.mk (k:=(p,x,y,st,g,K)) (Ag x y))):
  ∃r,K r/\(bF st.rho p=true->a.tmps.getD g.slot undef= .bool g.b.val/\(if g.b.val=true then a.eval x else a.eval y)=den V r):=by
 obtain⟨ko,jN,Ao⟩:=hS.rho g hg;have jj:bF st.rho p=true->mP g.p p=true->a.tmps.getD g.slot undef= .bool g.b.val/\bF st.rho g.p=true:=fun hc hs=>by
  have:=Ck hs hc;rw[this,ah rfl] at Ao;exact⟨by simp [Ao],this⟩
 have side:∀b,g.b.val=b->bF st.rho g.p=true->bF st.rho ((g.i,b)::g.p)=true:=fun b hb hc=>by
  simp only[bF,CQ ko,hb,hc,Bool.and_true];cases b<;>simp
 have uJ:∀b,ft st.rho ((g.i,b)::g.p):=fun b x hx=>by
  rcases List.mem_cons.1 hx with rfl |hx
  ·exact⟨g,ko⟩
  ·exact jN x hx
 unfold sA at h;split at h
 ·rename_i i s q _;obtain⟨hs,h⟩:=h;obtain⟨r,hr,hK⟩:=aB h;refine⟨r,hK,fun hc=> ?_⟩;obtain⟨h1,h2⟩:=jj hc hs;exact⟨h1,by simp only[GB.val,if_true];exact cV hS (uJ true) (side true rfl h2) hr⟩
 ·rename_i i s q _;obtain⟨hs,h⟩:=h;obtain⟨r,hr,hK⟩:=aB h;refine⟨r,hK,fun hc=> ?_⟩;obtain⟨h1,h2⟩:=jj hc hs;exact⟨h1,by simp only[GB.val,Bool.false_eq_true,if_false];exact cV hS (uJ false) (side false rfl h2) hr⟩
 ·rename_i i s q b md heq;obtain⟨hs,h⟩:=h;obtain⟨sx,hx,h⟩:=aB h;obtain⟨sy,hy,h⟩:=aB h;have Ik:bF st.rho p=true->b=true->a.eval x=den V sx:=fun hc hb=>cV hS (uJ true) (side true hb (jj hc hs).2) hx
  have Ij:bF st.rho p=true->b=false->a.eval y=den V sy:=fun hc hb=>cV hS (uJ false) (side false hb (jj hc hs).2) hy
  unfold sC at h;split at h
  ·rename_i b' a1 q';simp only[A.mk.injEq,Prod.mk.injEq] at q';obtain⟨rfl,rfl,rfl⟩:=q';refine⟨_,h,fun hc=>⟨(jj hc hs).1,?_⟩⟩;cases b with
   |true=>simp only[GB.val,if_true,Ik hc rfl,eb,Bool.true_and]
   |false=>simp only[GB.val,Bool.false_eq_true,if_false,Ij hc rfl,eb,Bool.false_and]
  ·rename_i b' a1 q';simp only[A.mk.injEq,Prod.mk.injEq] at q';obtain⟨rfl,rfl,rfl⟩:=q';refine⟨_,h,fun hc=>⟨(jj hc hs).1,?_⟩⟩;cases b with
   |true=>simp only[GB.val,if_true,Ik hc rfl,eb,Bool.true_or]
   |false=>simp only[GB.val,Bool.false_eq_true,if_false,Ij hc rfl,eb,Bool.false_or]
  ·rename_i b' a1 a2 q';simp only[A.mk.injEq,Prod.mk.injEq] at q';obtain⟨rfl,rfl,rfl⟩:=q';refine⟨_,h,fun hc=>⟨(jj hc hs).1,?_⟩⟩;cases b with
   |true=>simp only[GB.val,if_true,Ik hc rfl,eb,cond_true]
   |false=>simp only[GB.val,Bool.false_eq_true,if_false,Ij hc rfl,eb,cond_false]
  ·cases h
theorem E4 (hS:Sat C n st a V D w) (hp:ft st.rho p) {o:Oper} {op:Op} (ho:o.op=op) (h:qOp (.mk (k:=(P,op,K)) (st,p))):
  ∃s,K s/\(bF st.rho p=true->(execOp a.eval o).run P w= .ok (.value (den V s)) w):=by
 unfold qOp at h;split at h
 ·rename_i x aj p' q;cases q;obtain⟨s,hs,hK⟩:=aB h;exact⟨s,hK,fun hc=>by simp only[execOp,ho,Sem.run_pure,cV hS hp hc hs]⟩
 ·rename_i x aj p' q;cases q;obtain⟨s,hs,hK⟩:=aB h;exact⟨s,hK,fun hc=>by simp only[execOp,ho,Sem.run_pure,cV hS hp hc hs]⟩
 ·rename_i t x y aj p' q;cases q;obtain⟨g,hg,h'⟩:=aB h;obtain⟨ga,hm⟩:=Uc hg;obtain⟨r,hK,hr⟩:=Qn hS hp hm h';refine⟨r,hK,fun hc=> ?_⟩;obtain⟨h1,h2⟩:=hr hc;have he:a.eval (.tmp t)= .bool g.b.val:=by rw[<- ga];exact h1
  simp only[execOp,ho,he,asBool,Sem.run_bind,Sem.run_pure,Result.andThen_ok,h2]
 ·rename_i x aj p' q;cases q;obtain⟨s,hs,h⟩:=aB h;obtain⟨r,hK,e,hn⟩:=Q0 (V:=V) h;refine⟨r,hK,fun hc=> ?_⟩;have pL:=cV hS hp hc hs;rw[e,<- pL];exact Uv ho (by rw[pL];exact hn hc)
 ·rename_i PC t x t' aj p' q;cases q;obtain⟨sx,hx,h⟩:=aB h;obtain⟨r,hK,hr⟩:=Qo (V:=V) (w:=w) (o:=x) h;refine⟨r,hK,fun hc=> ?_⟩;have:=jR (hr hc);rw[<- cV hS hp hc hx] at this;simp only[execOp,ho];exact this
 ·rename_i PC t x y t' aj p' _ q;cases q;obtain⟨sx,hx,h⟩:=aB h;obtain⟨sy,hy,h⟩:=aB h;obtain⟨r,hK,hr⟩:=RF (V:=V) (w:=w) (o:=x) (o' :=y) h;refine⟨r,hK,fun hc=> ?_⟩;have:=jR (hr hc);rw[<- cV hS hp hc hx,<- cV hS hp hc hy] at this;simp only[execOp,ho];exact this
 ·rename_i uop t x aj p' q;cases q;obtain⟨sx,hx,h⟩:=aB h;obtain⟨r,hK,hr⟩:=R8 (V:=V) (w:=w) (P:=P) h;refine⟨r,hK,fun hc=> ?_⟩;have:=jR (hr hc);rw[<- cV hS hp hc hx] at this;simp only[execOp,ho];exact this
 ·rename_i src dst x aj p' q;cases q;obtain⟨sx,hx,h⟩:=aB h;obtain⟨r,hK,hr⟩:=Qq hS h;refine⟨r,hK,fun hc=> ?_⟩;have:=jR (hr hc);rw[<- cV hS hp hc hx] at this;simp only[execOp,ho];exact this
 ·rename_i s x f aj p' q;cases q;obtain⟨sx,hx,h⟩:=aB h;obtain⟨⟨off,ag,sz⟩,hf,h⟩:=aB h;obtain⟨r,hK,hr⟩:=Q6 hS hf h;refine⟨r,hK,fun hc=> ?_⟩;have:=jR (hr hc);rw[<- cV hS hp hc hx] at this;simp only[execOp,ho];exact this
 ·rename_i s x f aj p' q;cases q;obtain⟨cs,gd,h⟩:=aB h;obtain⟨sx,hx,gd⟩:=tE gd;obtain⟨⟨off,ag,sz⟩,hf,h⟩:=aB h;obtain⟨r,hr,hK⟩:=aB h;refine⟨r,hK,fun hc=> ?_⟩;have:=jR (P4 (V:=V) (w:=w) hf gd hr);rw[<- cV hS hp hc hx] at this;simp only[execOp,ho];exact this
 ·rename_i t x i aj p' q;cases q;obtain⟨sx,hx,h⟩:=aB h;obtain⟨si,hi,h⟩:=aB h;obtain⟨e,he,h⟩:=aB h;obtain⟨r,hK,hr⟩:=Q5 hS he h;refine⟨r,hK,fun hc=> ?_⟩;have:=jR (hr hc);rw[<- cV hS hp hc hx,<- cV hS hp hc hi] at this;simp only[execOp,ho];exact this
 ·rename_i t x i aj p' q;cases q;obtain⟨sx,hx,h⟩:=aB h;obtain⟨si,hi,h⟩:=aB h;obtain⟨r,hK,hr⟩:=Sf (V:=V) (w:=w) h;refine⟨r,hK,fun hc=> ?_⟩;have:=jR (hr hc);rw[<- cV hS hp hc hx,<- cV hS hp hc hi] at this;simp only[execOp,ho];exact this
 ·rename_i t x lo hi aj p' q;cases q;obtain⟨sx,hx,h⟩:=aB h;obtain⟨sl,hl,h⟩:=aB h;obtain⟨sh,hh,h⟩:=aB h;obtain⟨r,hK,hr⟩:=R9 (V:=V) (w:=w) h;refine⟨r,hK,fun hc=> ?_⟩;have:=jR (hr hc);rw[<- cV hS hp hc hx,<- LR hS hp hc hl,<- LR hS hp hc hh] at this;simp only[execOp,ho];exact this
 ·rename_i t x aj p' q;cases q;obtain⟨sx,hx,h⟩:=aB h;obtain⟨r,hK,hr⟩:=IX hS h;refine⟨r,hK,fun hc=> ?_⟩;have:=jR (hr hc);rw[<- cV hS hp hc hx] at this;simp only[execOp,ho];exact this
 ·rename_i x i aj p' q;cases q;obtain⟨sx,hx,h⟩:=aB h;obtain⟨r,hK,hr⟩:=Q7 (V:=V) (P:=P) (w:=w) h;refine⟨r,hK,fun hc=> ?_⟩;have:=jR hr;rw[<- cV hS hp hc hx] at this;simp only[execOp,ho];exact this
 ·rename_i t parts aj p' q;cases q;obtain⟨hb,h⟩:=h;obtain⟨z,hz,h⟩:=aB h;obtain⟨cs,gd,hK⟩:=aB h;refine⟨_,hK,fun hc=> ?_⟩;simp only[execOp,ho];exact jR (QD hS hp hc hb hz gd)
 ·rename_i x t aj p' q;cases q;obtain⟨sx,hx,h⟩:=aB h;obtain⟨r,hK,hr⟩:=Q4 (ty:=o.type) hS h;refine⟨r,hK,fun hc=> ?_⟩;rw[<- cV hS hp hc hx] at hr;simp only[execOp,ho,resolve,Sem.run_bind,Sem.run_pure,Result.andThen_ok,invoke,builtin];simp only[List.map_toArray,bh,List.map_nil,hr,Result.andThen_ok]
 ·rename_i x y ts aj p' q;cases q;obtain⟨sx,hx,h⟩:=aB h;obtain⟨sy,hy,h⟩:=aB h;obtain⟨r,hK,hr⟩:=Q1 (V:=V) (P:=P) (w:=w) (ts:=ts) (ty:=o.type) h;refine⟨r,hK,fun hc=> ?_⟩;rw[<- cV hS hp hc hx,<- cV hS hp hc hy] at hr;simp only[execOp,ho,resolve,Sem.run_bind,Sem.run_pure,Result.andThen_ok,invoke,builtin];simp only[List.map_toArray,bh,List.map_nil,hr,Result.andThen_ok]
 ·rename_i t x i cm aj p' q;cases q;obtain⟨sx,hx,h⟩:=aB h;obtain⟨si,hi,h⟩:=aB h;obtain⟨r,hK,hr⟩:=Q3 hS h;refine⟨r,hK,fun hc=> ?_⟩;have:=jR hr;rw[<- cV hS hp hc hx,<- cV hS hp hc hi] at this;simp only[execOp,ho];exact this
 ·rename_i x y ts aj p' q;cases q;obtain⟨sx,hx,h⟩:=aB h;obtain⟨sy,hy,h⟩:=aB h;obtain⟨r,hK,hr⟩:=Q2 (V:=V) (P:=P) (w:=w) (ts:=ts) (ty:=o.type) h;refine⟨r,hK,fun hc=> ?_⟩;rw[<- cV hS hp hc hx,<- cV hS hp hc hy] at hr;simp only[execOp,ho,resolve,Sem.run_bind,Sem.run_pure,Result.andThen_ok,invoke,builtin];simp only[List.map_toArray,bh,List.map_nil,hr,Result.andThen_ok]
 ·rename_i x y z u ts aj p' q;cases q;obtain⟨sx,hx,h⟩:=aB h;obtain⟨sy,hy,h⟩:=aB h;obtain⟨sz,hz,h⟩:=aB h;obtain⟨su,hu,h⟩:=aB h;obtain⟨r,hK,hr⟩:=Qp (V:=V) (P:=P) (w:=w) (ts:=ts) (ty:=o.type) h;refine⟨r,hK,fun hc=> ?_⟩;rw[<- cV hS hp hc hx,<- cV hS hp hc hy,<- cV hS hp hc hz,<- cV hS hp hc hu] at hr;simp only[execOp,ho,resolve,Sem.run_bind,Sem.run_pure,Result.andThen_ok,invoke,builtin];simp only[List.map_toArray,bh,List.map_nil,hr,Result.andThen_ok]
 ·cases h
end
theorem IE {d d' :Nat} {o o' OM:Option Obj} (hd:d<=d') (h:qX d o o') (h' :qX d' o' OM):qX d o OM:=by
 unfold qX at h;split at h
 ·rename_i c t f;obtain⟨c',t',f',rfl,h1⟩:=h;obtain⟨c'',t'',f'',rfl,h2⟩:=h';exact⟨c'',t'',f'',rfl,fun j hj=>(h2 j (by omega)).trans (h1 j hj)⟩
 ·rename_i cY;subst h;unfold qX at h' ⊢;split
  ·exact absurd rfl (cY _ _ _)
  ·split at h'
   ·exact absurd rfl (cY _ _ _)
   ·exact h'
theorem rS {d:Nat} {o o' :Option Obj} (h:o' =o):qX d o o' :=by
 subst h;unfold qX;split
 ·exact⟨_,_,_,rfl,fun _ _=>rfl⟩
 ·rfl
theorem Mem.le_refl (m:Mem) (h:Wf m.w m.D):m.le m:=fun b=>⟨aq _,fun h0=>⟨by
 rcases Nat.lt_or_ge b m.w.heap.size with h1 |h1
 ·exact h1
 ·rw[h b h1] at h0;omega,rS rfl⟩⟩
theorem Mem.le_trans {m m' iI:Mem} (h:m.le m') (h' :m'.le iI):m.le iI:=fun b=>
 ⟨cg (h b).1 (h' b).1,fun h0=>⟨((h b).2 h0).1,IE (h b).1 ((h b).2 h0).2 ((h' b).2 (dM h0 (h b).1)).2⟩⟩
theorem Mem.le_same {w w' :World} {D D' :Nat->Nat} (hw:Wf w D) (h:∀b,b<w.heap.size->D b<=D' b/\(0<D b->w'.heap[b]? =w.heap[b]?)):Mem.le ⟨w,D⟩ ⟨w',D'⟩:=fun b=>by
 rcases Nat.lt_or_ge b w.heap.size with h1 |h1
 ·exact⟨(h b h1).1,fun h0=>⟨h1,rS ((h b h1).2 h0)⟩⟩
 ·have:=hw b h1;exact⟨by dsimp only;omega,fun h0=>by dsimp only at h0;omega⟩
theorem Frm.refl (F:Nat->Prop) (w:World) (D:Nat->Nat):Frm F w D w D:=⟨rfl,rfl,rfl,aq _,fun _ _ _=>⟨rfl,rfl⟩⟩
theorem Frm.trans {F S:Nat->Prop} {w w' pD:World} {D D' PE:Nat->Nat} (h:Frm F w D w' D') (h' :Frm S w' D' pD PE) (hs:∀b,S b->F b\/w.heap.size<=b):Frm F w D pD PE:=
 ⟨h'.os.trans h.os,h'.tape.trans h.tape,h'.output.trans h.output,cg h.size h'.size,fun b hb hF=>by
  have h1:=h.same b hb hF;have h2:=h'.same b (dM hb h.size) (fun hS=>(hs b hS).elim hF (fun h3=>by omega))
  exact⟨h2.1.trans h1.1,h2.2.trans h1.2⟩⟩
/-! Values that name no block that is yet to come. -/
def Agree (nid:Nat) (vc:List Vc) (V V' :Vl):Prop:=∀k,k<nid->V'.β k=V.β k/\∀u,bD vc k u->V'.γ k u=V.γ k u
structure Step (nid:Nat) (vc:List Vc) (gK:Nat) (dV:List Vc) (V V' :Vl):Prop where
 agr:Agree nid vc V V'
 up:nid<=gK
 ver:∀k u,k<nid->bD vc k u->bD dV k u
theorem Agree.refl (nid:Nat) (vc:List Vc) (V:Vl):Agree nid vc V V:=fun _ _=>⟨rfl,fun _ _=>rfl⟩
section
variable {nid:Nat} {vc:List Vc} {V V' :Vl}
theorem xo (h:Agree nid vc V V') {s:SV} (hs:kK nid vc s):a7 V' s=a7 V s:=by
 cases s with
 |v x=>rfl
 |box k o=>show Value.pointer _=_;rw[(h k hs).1];rfl
 |vec k u=>show(V'.γ k u).val=_;rw[(h k hs.1).2 u hs.2];rfl
 |vp k u o=>show Value.pointer ((V'.γ k u).a.map _)=_;rw[(h k hs.1).2 u hs.2];rfl
 |mp k=>show Value.map _=_;rw[(h k hs).1];rfl
 |mv f k o=>show Value.func _ _ _=_;rw[(h k hs).1];rfl
 |agg cs=>rfl
 |tup l=>rfl
theorem xm (h:Agree nid vc V V'):∀{l:List SV},eL nid vc l->l.map (a7 V')=l.map (a7 V)
 |[],_=>rfl
 |s::r,hs=>by simp only[bh];rw[xo h hs.1,xm h hs.2]
theorem vn (h:Agree nid vc V V') {s:SV} (hs:okB nid vc s):lT V' s=lT V s:=by
 cases s with
 |agg cs=>simp only[lT];rw[xm h hs]
 |v x=>rfl
 |box k o=>exact xo (s:= .box k o) h hs
 |vec k u=>exact xo (s:= .vec k u) h hs
 |vp k u o=>exact xo (s:= .vp k u o) h hs
 |mp k=>exact xo (s:= .mp k) h hs
 |mv f k o=>exact xo (s:= .mv f k o) h hs
 |tup l=>rfl
theorem Jz (h:Agree nid vc V V'):∀{l:List SV},wA nid vc l->l.map (lT V')=l.map (lT V)
 |[],_=>rfl
 |s::r,hs=>by simp only[bh];rw[vn h hs.1,Jz h hs.2]
theorem Cg (h:Agree nid vc V V') {s:SV} (hs:ix nid vc s):den V' s=den V s:=by
 cases s with
 |tup l=>simp only[den];rw[Jz h hs]
 |v x=>rfl
 |box k o=>exact vn (s:= .box k o) h hs
 |vec k u=>exact vn (s:= .vec k u) h hs
 |vp k u o=>exact vn (s:= .vp k u o) h hs
 |mp k=>exact vn (s:= .mp k) h hs
 |mv f k o=>exact vn (s:= .mv f k o) h hs
 |agg cs=>exact vn (s:= .agg cs) h hs
theorem Ma:∀{env:List Ev} {t:Nat} {p:be} {s:SV},fj env t p=some s->∃e∈env,e.s=s
 |⟨t',p',s'⟩::r,t,p,s,h=>by
  simp only[fj] at h;split at h
  ·split at h
   ·cases h;exact⟨_,df ..,rfl⟩
   ·cases h
  ·obtain⟨e,he,hs⟩:=Ma h;exact⟨e,cu _ he,hs⟩
theorem SatF.agree {n:Nat} {env:List Ev} {rho:List Gd} {a:Act} (hf:SatF n env rho a V) (qn:∀e∈env,ix nid vc e.s) (h:Agree nid vc V V'):SatF n env rho a V' :=
 ⟨hf.defers,hf.size,hf.pth,fun t p s hp hl hc=>by
  obtain⟨e,he,rfl⟩:=Ma hl
  rw[hf.env t p _ hp hl hc,Cg h (qn e he)],hf.rho⟩
end
section
variable {V V' :Vl} {D D' :Nat->Nat} {w w' :World} {H:Hp}
theorem F6 {e:TypeId} {sz m:Nat} {xs:List Value} {h:Hd} (ho:w.ownsRow 0 e sz h.val m xs) {g:Nat} (hg:h.blk=some g):h.val.ownBlock=some g/\g<w.heap.size:=by
 have:h.val.ownBlock=some g:=by
  unfold Hd.val Value.ownBlock;unfold Hd.blk at hg;cases ha:h.a with
  |none=>rw[ha] at hg;cases hg
  |some ad=>rw[ha] at hg;exact hg
 exact⟨this,(ho.lt g this).2⟩
theorem tQ (h:HSat V D w H):∀b∈aW V H,b<w.heap.size:=by
 intro b hb;simp only[aW,List.mem_append,List.mem_map,List.mem_filterMap] at hb;rcases hb with ⟨x,hx,rfl⟩ |⟨x,hx,hb⟩
 ·obtain⟨o,ho,_⟩:=(h.bx x hx).1;exact(Array.getElem?_eq_some_iff.1 ho).1
 ·exact(F6 (h.vc x hx).1 hb).2
theorem KT {e:TypeId} {sz m:Nat} {xs:List Value} {h:Hd} (ho:w.ownsRow 0 e sz h.val m xs) (hw:∀g,h.blk=some g->w'.heap[g]? =w.heap[g]?):w'.ownsRow 0 e sz h.val m xs:=by
 refine⟨ho.1,?_⟩;rcases ho.2 with hn |⟨g,cap,cur,hv,hb,hh,rest⟩
 ·exact .inl hn
 ·refine .inr ⟨g,cap,cur,hv,hb,?_,rest⟩
  rw[hw g (by
   simp only[Hd.val,Value.slice.injEq] at hv
   simp [Hd.blk,hv.1])]
  exact hh
theorem BH {α β:Type} {f g:α->Option β}:∀{l:List α},(∀x∈l,f x=g x)->l.filterMap f=l.filterMap g
 |[],_=>rfl
 |x::r,h=>by
  rw[List.filterMap_cons,List.filterMap_cons,h x (df ..),BH fun y hy=>h y (cu _ hy)]
theorem zM (hb:∀b∈H.bx,V'.β b.id=V.β b.id) (hv:∀b∈H.vc,V'.γ b.id b.ver=V.γ b.id b.ver):aW V' H=aW V H:=by
 unfold aW;congr 1
 ·exact List.map_congr_left hb
 ·exact BH fun x hx=>by rw[hv x hx]
theorem HSat.frame (h:HSat V D w H) (hb:∀b∈H.bx,V'.β b.id=V.β b.id/\b.cs.map (a7 V')=b.cs.map (a7 V)) (hv:∀b∈H.vc,V'.γ b.id b.ver=V.γ b.id b.ver)
  (hw:∀g∈aW V H,w'.heap[g]? =w.heap[g]? /\D' g=D g):HSat V' D' w' H:=by
 refine⟨fun b hm=> ?_,fun b hm=> ?_,by rw[zM (fun b hm=>(hb b hm).1) hv];exact h.apart,h.uniq⟩
 ·have fG:V.β b.id∈aW V H:=by
   simp only[aW,List.mem_append,List.mem_map];exact .inl ⟨b,hm,rfl⟩
  obtain⟨h1,h2⟩:=h.bx b hm;unfold BG;rw[(hb b hm).1,(hb b hm).2,(hw _ fG).1,(hw _ fG).2];exact⟨h1,h2⟩
 ·have fG:∀g,(V.γ b.id b.ver).blk=some g->g∈aW V H:=fun g hg=>by
   simp only[aW,List.mem_append,List.mem_filterMap];exact .inr ⟨b,hm,hg⟩
  obtain⟨h1,h2,h3,h4⟩:=h.vc b hm;unfold wZ;rw[hv b hm];exact⟨KT h1 fun g hg=>(hw g (fG g hg)).1,fun g hg=>by rw[(hw g (fG g hg)).2];exact h2 g hg,h3,h4⟩
end
theorem Gf {P:Program} {t:TypeId} (h:0<bf P t):∃i,P.info? t=some i/\i.size=bf P t/\i.bytes=mY P t:=by
 unfold bf at h ⊢;unfold mY;cases hi:P.info? t with
 |none=>rw[hi] at h;simp at h
 |some i=>exact⟨i,rfl,rfl,rfl⟩
theorem LD {P:Program} {t:TypeId} {z:List SV} {i:TypeInfo} (hi:P.info? t=some i) (h:eV P t=some z):∃zv,i.zero=some zv/\zv.cells.size=z.length:=by
 unfold eV at h;simp only[Option.map_eq_some_iff,Option.bind_eq_some_iff] at h;obtain⟨zv,⟨i',jq,hz⟩,rfl⟩:=h;rw[hi] at jq;cases jq;exact⟨zv,hz,by simp⟩
section
variable {P:Program} {w:World}
theorem PF (t tx ty e:TypeId) (i:TypeInfo) (ht:P.underlying t=some (.slice e)) (hi:P.info? e=some i) (g vU G2:Nat) (cur:Array Value) (hg:w.heap[g]? =some (.cells cur e (0,0)))
  (x:Value) (m:Nat) (news:List Value) (hs:Src P i.size tx x m news w) (oI:vU+m<=G2) (sW:vU * i.size+news.length<=cur.size):
  (Builtin.append_ #[t,tx] ty #[.slice (some ⟨g,0,none⟩) vU G2,x]).run P w=
   .ok (.slice (some ⟨g,0,none⟩) (vU+m) G2) (w.setRow g (cur.toList.take (vU * i.size)++news++cur.toList.drop (vU * i.size+news.length)).toArray):=by
 have fQ:=run_storeCells_at P g (vU * i.size) e news 0 cur w hg (by simpa using sW) hs.one;simp only[Nat.add_zero] at fQ;rcases hs.kind with ⟨e',hk⟩ |hk<;>simp [Builtin.append_,run_underlying ht,run_underlying hk,sizeOf,typeInfo,hi,hs.len,oI,hs.cells,Addr.add_lit,fQ]
theorem IM {v8 dR vl:Nat} (h:dR<v8) (hb:v8 * vl<=140737488355328):Builtin.nextslicecap v8 dR * vl<=281474976710656:=by
 have h1:=nextslicecap_le h;have h2:Builtin.nextslicecap v8 dR * vl<=2 * v8 * vl:=Nat.mul_le_mul_right _ h1;have h3:2 * v8 * vl=2 * (v8 * vl):=Nat.mul_assoc ..;omega
theorem Jh {t tx ty e:TypeId} {i:TypeInfo} {zv:Value} {h:Hd} {n m:Nat} {xs news:List Value} {x:Value}
  (ht:P.underlying t=some (.slice e)) (hi:P.info? e=some i) (hz:i.zero=some zv) (wD:zv.cells.size=i.size)
  (dA:w.ownsRow 0 e i.size h.val n xs) (hs:Src P i.size tx x m news w) (hr:room (n+m) i.bytes):
  ∃(h' :Hd) (w' :World),(Builtin.append_ #[t,tx] ty #[h.val,x]).run P w= .ok h'.val w' /\w'.ownsRow 0 e i.size h'.val (n+m) (xs++news)/\
   (w' =w/\h' =h\/(∃g cur mN,h'.blk=some g/\h.blk=some g/\w.heap[g]? =some (.cells cur e (0,0))/\w' =w.setRow g mN/\(∀j,j<n * i.size->mN[j]? =cur[j]?))\/
    (∃c,h'.blk=some w.heap.size/\w' =w.drew.alloc (.cells c e))):=by
 obtain⟨hb,h63⟩:=hr;have hlen:(xs++news).length=(n+m) * i.size:=by rw[bY,dA.1,hs.newsLen,Nat.add_mul]
 have nU:((n+m:Nat):Int)<=9223372036854775807:=by simp only[maxLen] at h63;omega
 have grow:∀(dR:Nat),dR<n+m->(w.drew.alloc (.cells ((xs++news).toArray++Builtin.zeroCells zv.cells (grownCap w (n+m) dR e - (n+m))) e)).ownsRow 0 e i.size
    (Hd.val ⟨some ⟨w.heap.size,0,none⟩,n+m,grownCap w (n+m) dR e⟩) (n+m) (xs++news):=by
  intro dR ho;have cA:=grownCap_ge w (n+m) dR e;have H6:grownCap w (n+m) dR e<=maxLen:=grownCap_le_maxLen w (n+m) dR e h63;refine⟨hlen,.inr ⟨w.heap.size,_,_,rfl,au _,heap_alloc_new w.drew _,cA,H6,?_,?_⟩⟩
  ·simp only[Array.size_append,List.size_toArray,size_zeroCells,wD,hlen,<- Nat.add_mul];congr 1
   omega
  ·simp only[Array.toList_append];rw[<- hlen];exact List.take_left
 obtain⟨ha,hn,hc⟩:∃(a:Option Addr) (n' c:Nat),h=⟨a,n',c⟩:=⟨h.a,h.n,h.c,rfl⟩;obtain⟨c,rfl⟩:=hc;rcases dA.2 with ⟨hv,Bj⟩ |⟨g,cap,cur,hv,_,hg,HO,H6,gd,htake⟩
 ·simp only[Hd.val,Value.slice.injEq] at hv;obtain⟨rfl,rfl,rfl⟩:=hv;subst Bj;have hx:xs=[]:=List.eq_nil_of_length_eq_zero (by simpa using dA.1);subst hx;by_cases hm:m=0
  ·subst hm;have hn:news=[]:=List.eq_nil_of_length_eq_zero (by simpa using hs.newsLen);subst hn;refine⟨⟨none,0,0⟩,w,?_,by simpa using dA,.inl ⟨rfl,rfl⟩⟩;rcases hs.kind with ⟨e',hk⟩ |hk<;>simp [Hd.val,Builtin.append_,run_underlying ht,run_underlying hk,sizeOf,typeInfo,hi,hs.len,hs.cells]
  ·have hr:=run_append_grow_src w t tx ty e i zv ht hi hz none 0 0 [] (by simp [Builtin.firstCells]) x m news hs (by omega) nU (IM (by omega) hb);exact⟨⟨some ⟨w.heap.size,0,none⟩,0+m,grownCap w (0+m) 0 e⟩,_,hr,by have:=grow 0 (by omega);simpa using this,.inr (.inr ⟨_,rfl,rfl⟩)⟩
 ·simp only[Hd.val,Value.slice.injEq] at hv;obtain⟨rfl,rfl,rfl⟩:=hv;by_cases oI:hn+m<=c
  ·have sW:hn * i.size+news.length<=cur.size:=by rw[hs.newsLen,gd,<- Nat.add_mul];exact Nat.mul_le_mul_right _ oI
   have hr:=PF t tx ty e i ht hi g hn c cur hg x m news hs oI sW;refine⟨⟨some ⟨g,0,none⟩,hn+m,c⟩,_,hr,⟨hlen,.inr ⟨g,c,_,rfl,au _,setRow_heap w g cur _ e _ hg,oI,H6,?_,?_⟩⟩,.inr (.inl ⟨g,cur,_,rfl,rfl,hg,rfl,fun j hj=> ?_⟩)⟩
   ·simp only[List.size_toArray,bY,List.length_take,cj,Array.length_toList];omega
   ·rw[htake,<- hlen];exact List.take_left
   ·have HD:=dA.1;simp only[List.getElem?_toArray];rw[List.append_assoc,List.getElem?_append_left (by rw[htake];omega),List.getElem?_take,ah hj,Array.getElem?_toList]
  ·have holds:∀j u,xs[j]? =some u->w.cell? ((⟨g,0,none⟩:Addr).add j)=some u:=dA.cells (g:=g) rfl;have hf:(Builtin.firstCells i.size hn (.slice (some ⟨g,0,none⟩) hn c)).run P w.drew= .ok xs.toArray w.drew:=run_firstCells_some w.drew i.size hn ⟨g,0,none⟩ hn c xs dA.1 (by simpa using holds);have hr:=run_append_grow_src w t tx ty e i zv ht hi hz (some ⟨g,0,none⟩) hn c xs hf x m news hs (by omega) nU (IM (by omega) hb);exact⟨⟨some ⟨w.heap.size,0,none⟩,hn+m,grownCap w (hn+m) c e⟩,_,hr,grow c (by omega),.inr (.inr ⟨_,rfl,rfl⟩)⟩
end
section
variable {V V' :Vl} {D D' :Nat->Nat} {w w' :World} {bx:List Bx} {vc:List Vc} {nid:Nat}
theorem HSat.consBx {b:Bx} (h:HSat V D w ⟨bx,vc⟩) (hb:BG V D w b) (hn:V.β b.id ∉ aW V ⟨bx,vc⟩):HSat V D w ⟨b::bx,vc⟩:=
 ⟨fun x hx=>(List.mem_cons.1 hx).elim (fun e=>e▸hb) (h.bx x),h.vc,List.nodup_cons.2 ⟨hn,h.apart⟩,h.uniq⟩
theorem Fv {b:Vc}:(aW V ⟨bx,b::vc⟩).Perm ((V.γ b.id b.ver).blk.toList++aW V ⟨bx,vc⟩):=by
 unfold aW;simp only[List.filterMap_cons];cases (V.γ b.id b.ver).blk with
 |none=>exact List.Perm.refl _
 |some g=>exact List.perm_middle
theorem HSat.consVc {b:Vc} (h:HSat V D w ⟨bx,vc⟩) (hb:wZ V D w b) (hu:b.id ∉ vc.map (·.id)) (hn:∀g,(V.γ b.id b.ver).blk=some g->g ∉ aW V ⟨bx,vc⟩):HSat V D w ⟨bx,b::vc⟩:=
 ⟨h.bx,fun x hx=>(List.mem_cons.1 hx).elim (fun e=>e▸hb) (h.vc x),by
  rw[Fv.nodup_iff];cases hg:(V.γ b.id b.ver).blk with
  |none=>exact h.apart
  |some g=>exact List.nodup_cons.2 ⟨hn g hg,h.apart⟩,List.nodup_cons.2 ⟨hu,h.uniq⟩⟩
theorem Ej {b:Vc} {x:Nat}:x∈aW V ⟨bx,b::vc⟩↔(V.γ b.id b.ver).blk=some x\/x∈aW V ⟨bx,vc⟩:=by
 rw[Fv.mem_iff,List.mem_append];cases (V.γ b.id b.ver).blk<;>simp [eq_comm]
/-! What was all right stays all right. -/
theorem xC {gK:Nat} {dV:List Vc} (hn:nid<=gK) (hv:∀k u,k<nid->bD vc k u->bD dV k u) {s:SV} (h:kK nid vc s):kK gK dV s:=by
 cases s with
 |v x=>trivial
 |box k o=>exact dM h hn
 |vec k u=>exact⟨dM h.1 hn,hv k u h.1 h.2⟩
 |vp k u o=>exact⟨dM h.1 hn,hv k u h.1 h.2⟩
 |mp k=>exact dM h hn
 |mv f k o=>exact dM h hn
 |agg cs=>trivial
 |tup l=>trivial
theorem vr {gK:Nat} {dV:List Vc} (hn:nid<=gK) (hv:∀k u,k<nid->bD vc k u->bD dV k u):∀{l:List SV},eL nid vc l->eL gK dV l
 |[],_=>trivial
 |_::_,h=>⟨xC hn hv h.1,vr hn hv h.2⟩
theorem vt {gK:Nat} {dV:List Vc} (hn:nid<=gK) (hv:∀k u,k<nid->bD vc k u->bD dV k u) {s:SV} (h:okB nid vc s):okB gK dV s:=by
 cases s with
 |agg cs=>exact vr hn hv h
 |v x=>trivial
 |box k o=>exact xC (s:= .box k o) hn hv h
 |vec k u=>exact xC (s:= .vec k u) hn hv h
 |vp k u o=>exact xC (s:= .vp k u o) hn hv h
 |mp k=>exact xC (s:= .mp k) hn hv h
 |mv f k o=>exact xC (s:= .mv f k o) hn hv h
 |tup l=>trivial
theorem KV {gK:Nat} {dV:List Vc} (hn:nid<=gK) (hv:∀k u,k<nid->bD vc k u->bD dV k u):∀{l:List SV},wA nid vc l->wA gK dV l
 |[],_=>trivial
 |_::_,h=>⟨vt hn hv h.1,KV hn hv h.2⟩
theorem KX {gK:Nat} {dV:List Vc} (hn:nid<=gK) (hv:∀k u,k<nid->bD vc k u->bD dV k u) {s:SV} (h:ix nid vc s):ix gK dV s:=by
 cases s with
 |tup l=>exact KV hn hv h
 |v x=>trivial
 |box k o=>exact vt (s:= .box k o) hn hv h
 |vec k u=>exact vt (s:= .vec k u) hn hv h
 |vp k u o=>exact vt (s:= .vp k u o) hn hv h
 |mp k=>exact vt (s:= .mp k) hn hv h
 |mv f k o=>exact vt (s:= .mv f k o) hn hv h
 |agg cs=>exact vt (s:= .agg cs) hn hv h
theorem rU {b:Vc} (hb:b.id=nid):∀k u,k<nid->bD vc k u->bD (b::vc) k u:=by
 intro k u hk h;obtain⟨k',u',e',z',n',x'⟩:=b;dsimp only at hb;subst hb;simp only[bD];rw[ae (by omega)];exact h
theorem I9 {k u:Nat} {b x:Vc} (hb:cS vc k u=some b) (hx:x.id=k) (hu:u<=x.ver):∀k' u',bD vc k' u' ->bD (oL vc k x) k' u' :=by
 intro k' u' h;induction vc with
 |nil=>cases hb
 |cons y r ih=>
  obtain⟨i',v',e',z',n',x'⟩:=y;obtain⟨kx,ux,ex,zx,nx,xx⟩:=x;dsimp only at hx hu;subst hx;simp only[cS] at hb;simp only[oL];simp only[bD] at h;by_cases he:i' =kx
  ·rw[ah he] at hb ⊢;split at hb
   ·rename_i hv;subst he;simp only[bD];split
    ·rename_i e;rw[ah e] at h;omega
    ·rename_i e;rw[ae e] at h;exact h
   ·cases hb
  ·rw[ae he] at hb ⊢;simp only[bD];split
   ·rename_i e;rw[ah e] at h;exact h
   ·rename_i e;rw[ae e] at h;exact ih hb h
theorem tF {vc:List Vc}:∀{b:Vc},(vc.map (·.id)).Nodup->b∈vc->bD vc b.id b.ver:=by
 induction vc with
 |nil=>intro b _ h;cases h
 |cons y r ih=>
  intro b hu h;obtain⟨i',v',e',z',n',x'⟩:=y;simp only[bh,List.nodup_cons] at hu;simp only[bD];rcases List.mem_cons.1 h with rfl |h
  ·rw[ah rfl];exact aq _
  ·have:¬i' =b.id:=fun e=>hu.1 (by rw[e];exact List.mem_map.2 ⟨b,h,rfl⟩)
   rw[ae this];exact ih hu.2 h
theorem Cn {vc:List Vc} {k v u:Nat} (h:bD vc k v) (hu:u<=v):bD vc k u:=by
 induction vc with
 |nil=>trivial
 |cons y r ih=>
  obtain⟨i',v',e',z',n',x'⟩:=y;simp only[bD] at h ⊢;split
  ·rename_i e;rw[ah e] at h;omega
  ·rename_i e;rw[ae e] at h;exact ih h
theorem Jg (V:Vl) (g:Nat):Agree nid vc V {V with β:=fun k=>if k=nid then g else V.β k}:=fun k hk=>⟨ae (by omega),fun _ _=>rfl⟩
theorem Jf (V:Vl) (h:Hd):Agree nid vc V {V with γ:=fun k u=>if k=nid then h else V.γ k u}:=fun k hk=>⟨rfl,fun _ _=>ae (by omega)⟩
end
section
variable {C:Ctx} {bx:List Bx} {vc:List Vc} {nid:Nat} {m:Mem} {V:Vl} {D:Nat->Nat} {w:World}
theorem xa (w:World) (o:Obj) (k:Nat) (h:k<w.heap.size):(w.alloc o).heap[k]? =w.heap[k]? :=Go.RowKit.Below.heap_alloc w o k h
theorem SatW.keepH (h:SatW C bx vc nid m V D w) {V' :Vl} {w' :World} (ha:Agree nid vc V V') (hw:∀b,b<w.heap.size->w'.heap[b]? =w.heap[b]?):HSat V' D w' ⟨bx,vc⟩:=
 h.heap.frame (fun b hb=>⟨(ha b.id (h.ids.1 b hb).1).1,xm ha (h.ids.1 b hb).2⟩)
  (fun b hb=>(ha b.id (h.ids.2 b hb)).2 b.ver (tF h.heap.uniq hb))
  fun g hg=>⟨hw g (tQ h.heap g hg),rfl⟩
theorem Frm.quiet {w' :World} {D' :Nat->Nat} (h1:w'.os=w.os) (h2:w'.tape=w.tape) (h3:w'.output=w.output) (h4:w.heap.size<=w'.heap.size) (hw:∀b,b<w.heap.size->w'.heap[b]? =w.heap[b]? /\D' b=D b) (F:Nat->Prop):Frm F w D w' D' :=
 ⟨h1,h2,h3,h4,fun b hb _=>hw b hb⟩
theorem EE {t:TypeId} {vs:List Value} (h:t<nE):lL t vs (.cells ⟨vs⟩ t (0,0)):=by
 unfold lL;rw[ah h]
theorem Ly {t:TypeId} {vs:List Value} {o:Obj} (h:t<nE) (ho:lL t vs o):o= .cells ⟨vs⟩ t (0,0):=by
 unfold lL at ho;rwa [ah h] at ho
theorem SatW.addBx (h:SatW C bx vc nid m V D w) {t:TypeId} {cs:List SV} {o:Obj} (ho:lL t (cs.map (a7 V)) o) (av:eL nid vc cs):
  ∃V',Agree nid vc V V' /\V'.β nid=w.heap.size/\SatW C (⟨nid,t,cs⟩::bx) vc (nid+1) m V' D (w.alloc o):=by
 refine⟨{V with β:=fun k=>if k=nid then w.heap.size else V.β k},Jg V _,ah rfl,?_⟩;have ha:=Jg (nid:=nid) (vc:=vc) V w.heap.size;have hw:∀b,b<w.heap.size->(w.alloc o).heap[b]? =w.heap[b]? :=fun b hb=>xa w _ b hb
 have hold:=h.keepH ha hw;have ao:=tQ hold;have jr:aW {V with β:=fun k=>if k=nid then w.heap.size else V.β k} ⟨bx,vc⟩=aW V ⟨bx,vc⟩:=
  zM (fun b hb=>(ha b.id (h.ids.1 b hb).1).1) (fun b hb=>(ha b.id (h.ids.2 b hb)).2 b.ver (tF h.heap.uniq hb))
 have Ha:=tQ h.heap;have hD:D w.heap.size=0:=h.wf _ (aq _);have oV:Frm (fun _=>False) w D (w.alloc o) D:=Frm.quiet (w:=w) (w' :=w.alloc o) rfl rfl rfl (by simp) (fun b hb=>⟨hw b hb,rfl⟩) _;have hle:Mem.le ⟨w,D⟩ ⟨w.alloc o,D⟩:=Mem.le_same h.wf (fun b hb=>⟨aq _,fun _=>hw b hb⟩);refine⟨hold.consBx ⟨?_,?_⟩ ?_,fun b hb=>h.wf b (by simp at hb;omega),h.frm.trans oV (fun _ h=>h.elim),?_,fun b hb=> ?_,fun b hb=> ?_,⟨fun b hb=> ?_,fun b hb=>Nat.lt_succ_of_lt (h.ids.2 b hb)⟩,Mem.le_trans h.le0 hle,h.m0,Mem.le_trans h.mle hle⟩
 ·refine⟨o,?_,?_⟩
  ·show(w.alloc _).heap[(if nid=nid then w.heap.size else V.β nid)]? =_;rw[ah rfl];exact heap_alloc_new w _
  ·show lL t (cs.map (a7 _)) o;rw[xm ha av];exact ho
 ·show D (if nid=nid then w.heap.size else V.β nid)=0;rw[ah rfl];exact hD
 ·show(if nid=nid then w.heap.size else V.β nid) ∉ _;rw[ah rfl,jr];exact fun fG=>Nat.lt_irrefl _ (Ha _ fG)
 ·intro b hb;rcases List.mem_cons.1 hb with rfl |hb
  ·show C.F (if nid=nid then w.heap.size else V.β nid)\/C.w0.heap.size<=(if nid=nid then w.heap.size else V.β nid);rw[ah rfl];exact .inr h.frm.size
  ·refine h.own b ?_;rw[<- jr];exact hb
 ·obtain⟨h1,h2⟩:=h.baseB b hb;exact⟨((ha b.id h2).1).trans h1,Nat.lt_succ_of_lt h2⟩
 ·obtain⟨h1,h2,h3⟩:=h.baseV b hb;exact⟨fun u hu=>h1 u hu,Nat.lt_succ_of_lt h2,h3⟩
 ·rcases List.mem_cons.1 hb with rfl |hb
  ·exact⟨Nat.lt_succ_self _,vr (Nat.le_succ _) (fun _ _ _ h=>h) av⟩
  ·exact⟨Nat.lt_succ_of_lt (h.ids.1 b hb).1,vr (Nat.le_succ _) (fun _ _ _ h=>h) (h.ids.1 b hb).2⟩
theorem SatW.addVc (h:SatW C bx vc nid m V D w) {w' :World} {hd:Hd} {e:TypeId} {sz n:Nat} {xs:List Value}
  (h1:w'.os=w.os) (h2:w'.tape=w.tape) (h3:w'.output=w.output) (h4:w.heap.size<=w'.heap.size) (hw:∀b,b<w.heap.size->w'.heap[b]? =w.heap[b]?)
  (dA:w'.ownsRow 0 e sz hd.val n xs) (rB:∀g,hd.blk=some g->w.heap.size<=g) (jO:0<sz) (pA:∀u∈xs,u.oneCell' =true):
  ∃V',Agree nid vc V V' /\V'.γ nid 0=hd/\SatW C bx (⟨nid,0,e,sz,n,xs⟩::vc) (nid+1) m V' D w' :=by
 refine⟨{V with γ:=fun k u=>if k=nid then hd else V.γ k u},Jf V _,ah rfl,?_⟩;have ha:=Jf (nid:=nid) (vc:=vc) V hd;have hold:=h.keepH (w' :=w') ha hw;have jr:aW {V with γ:=fun k u=>if k=nid then hd else V.γ k u} ⟨bx,vc⟩=aW V ⟨bx,vc⟩:=
  zM (fun b hb=>(ha b.id (h.ids.1 b hb).1).1) (fun b hb=>(ha b.id (h.ids.2 b hb)).2 b.ver (tF h.heap.uniq hb))
 have ao:=tQ h.heap;have oV:Frm (fun _=>False) w D w' D:=Frm.quiet h1 h2 h3 h4 (fun b hb=>⟨hw b hb,rfl⟩) _;have hle:Mem.le ⟨w,D⟩ ⟨w',D⟩:=Mem.le_same h.wf (fun b hb=>⟨aq _,fun _=>hw b hb⟩);have sF:∀k u,k<nid->bD vc k u->bD (⟨nid,0,e,sz,n,xs⟩::vc) k u:=rU rfl;refine⟨hold.consVc ⟨?_,?_,jO,pA⟩ ?_ ?_,fun b hb=>h.wf b (cg h4 hb),h.frm.trans oV (fun _ h=>h.elim),?_,fun b hb=> ?_,fun b hb=> ?_,⟨fun b hb=> ?_,fun b hb=> ?_⟩,Mem.le_trans h.le0 hle,h.m0,Mem.le_trans h.mle hle⟩
 ·show w'.ownsRow 0 e sz (if nid=nid then hd else V.γ nid 0).val n xs;rw[ah rfl];exact dA
 ·intro g hg;have gw:hd.blk=some g:=by
   have:(if nid=nid then hd else V.γ nid 0).blk=some g:=hg;rwa [ah rfl] at this
  rw[h.wf g (rB g gw)];exact au _
 ·intro fG;obtain⟨b,hb,va⟩:=List.mem_map.1 fG;have:=h.ids.2 b hb;dsimp only at va;omega
 ·intro g hg fG;have gw:hd.blk=some g:=by
   have:(if nid=nid then hd else V.γ nid 0).blk=some g:=hg;rwa [ah rfl] at this
  rw[jr] at fG;have:=ao g fG;have:=rB g gw;omega
 ·intro b hb;rcases Ej.1 hb with hb |hb
  ·have nY:hd.blk=some b:=by
    have:(if nid=nid then hd else V.γ nid 0).blk=some b:=hb;rwa [ah rfl] at this
   exact .inr (cg h.frm.size (rB b nY))
  ·rw[jr] at hb;exact h.own b hb
 ·exact⟨(h.baseB b hb).1,Nat.lt_succ_of_lt (h.baseB b hb).2⟩
 ·obtain⟨e1,e2,e3⟩:=h.baseV b hb;exact⟨fun u hu=>((ha b.id e2).2 u (Cn e3 hu)).trans (e1 u hu),Nat.lt_succ_of_lt e2,sF _ _ e2 e3⟩
 ·exact⟨Nat.lt_succ_of_lt (h.ids.1 b hb).1,vr (Nat.le_succ _) sF (h.ids.1 b hb).2⟩
 ·rcases List.mem_cons.1 hb with rfl |hb
  ·exact Nat.lt_succ_self _
  ·exact Nat.lt_succ_of_lt (h.ids.2 b hb)
end
theorem Je {k:Nat} {b:Bx} {cs:List SV}:∀{bx:List Bx},gl bx k=some b->∃l1 l2,bx=l1++b::l2/\jV bx k cs=l1++⟨b.id,b.ty,cs⟩::l2
 |[],h=>by cases h
 |⟨k',t',c'⟩::r,h=>by
  simp only[gl] at h;simp only[jV];split at h
  ·rename_i e;cases h;rw[ah e];exact⟨[],r,rfl,rfl⟩
  ·rename_i e;rw[ae e];obtain⟨l1,l2,h1,h2⟩:=Je (cs:=cs) h;exact⟨⟨k',t',c'⟩::l1,l2,by rw[h1];rfl,by rw[h2];rfl⟩
theorem Jd {k u:Nat} {b x:Vc}:∀{vc:List Vc},cS vc k u=some b->∃l1 l2,vc=l1++b::l2/\oL vc k x=l1++x::l2
 |[],h=>by cases h
 |⟨k',u',e',z',n',x'⟩::r,h=>by
  simp only[cS] at h;simp only[oL];split at h
  ·rename_i e;split at h
   ·cases h;rw[ah e];exact⟨[],r,rfl,rfl⟩
   ·cases h
  ·rename_i e;rw[ae e];obtain⟨l1,l2,h1,h2⟩:=Jd (x:=x) h;exact⟨⟨k',u',e',z',n',x'⟩::l1,l2,by rw[h1];rfl,by rw[h2];rfl⟩
theorem Fy {k u v:Nat} {b:Vc}:∀{vc:List Vc},cS vc k u=some b->bD vc k v->v<=u
 |[],h,_=>by cases h
 |⟨k',u',e',z',n',x'⟩::r,h,hv=>by
  simp only[cS] at h;simp only[bD] at hv;split at h
  ·rename_i e;split at h
   ·rename_i e';rw[ah e] at hv;omega
   ·cases h
  ·rename_i e;rw[ae e] at hv;exact Fy h hv
section
variable {V V' :Vl} {D D' :Nat->Nat} {w w' :World} {bx:List Bx} {vc:List Vc} {nid:Nat} {m:Mem} {C:Ctx}
theorem Lz {l1 l2:List Bx} {b:Bx}:(aW V ⟨l1++b::l2,vc⟩).Perm (V.β b.id::aW V ⟨l1++l2,vc⟩):=by
 unfold aW;simp only[List.map_append,bh,List.append_assoc,jt];exact List.perm_middle
theorem SatW.setOb (h:SatW C bx vc nid m V D w) {k:Nat} {b:Bx} {cs:List SV} (hb:gl bx k=some b) (av:eL nid vc cs) {w' :World} {o:Obj} (ho:lL b.ty (cs.map (a7 V)) o)
  (e1:w'.os=w.os) (e2:w'.tape=w.tape) (e3:w'.output=w.output) (e4:w'.heap.size=w.heap.size) (e5:w'.heap[V.β k]? =some o) (e6:∀g,g≠V.β k->w'.heap[g]? =w.heap[g]?):
  SatW C (jV bx k cs) vc nid m V D w' :=by
 obtain⟨rfl,hm⟩:=sj hb;obtain⟨l1,l2,hl,hu⟩:=Je (cs:=cs) hb;have pM:=h.heap.apart;rw[hl] at pM;have gv:=(Lz.nodup_iff).1 pM;obtain⟨yp,_⟩:=List.nodup_cons.1 gv;have Ni:∀g,g∈aW V ⟨l1++l2,vc⟩->w'.heap[g]? =w.heap[g]? :=fun g hg=>
  e6 g (fun e=>yp (e▸hg))
 have hD:D (V.β b.id)=0:=(h.heap.bx b hm).2;have dA:=h.own (V.β b.id) (by rw[hl];exact Lz.mem_iff.2 (df ..));have oV:Frm (fun x=>x=V.β b.id) w D w' D:=
  ⟨e1,e2,e3,by rw[e4];exact aq _,fun x _ hx=>⟨e6 x hx,rfl⟩⟩
 have hle:Mem.le ⟨w,D⟩ ⟨w',D⟩:=Mem.le_same h.wf (fun x _=>⟨aq _,fun h0=>e6 x (fun e=>by subst e;omega)⟩);have jr:aW V ⟨jV bx b.id cs,vc⟩=aW V ⟨bx,vc⟩:=by
  unfold aW;rw[hu,hl];simp
 rw[hu];rw[hu] at jr;refine⟨⟨fun x hx=> ?_,fun x hx=> ?_,by rw[jr];exact h.heap.apart,h.heap.uniq⟩,fun x hx=>h.wf x (by rw[e4] at hx;exact hx),h.frm.trans oV (fun x hx=>by subst hx;exact dA),?_,h.baseB,h.baseV,⟨fun x hx=> ?_,h.ids.2⟩,Mem.le_trans h.le0 hle,h.m0,Mem.le_trans h.mle hle⟩
 ·have bR:x∈l1++l2\/x=⟨b.id,b.ty,cs⟩:=by
   simp only[List.mem_append,List.mem_cons] at hx ⊢;rcases hx with hx |hx |hx
   ·exact .inl (.inl hx)
   ·exact .inr hx
   ·exact .inl (.inr hx)
  rcases bR with bR |rfl
  ·have fG:x∈bx:=by
    rw[hl];simp only[List.mem_append,List.mem_cons] at bR ⊢;rcases bR with h1 |h1
    ·exact .inl h1
    ·exact .inr (.inr h1)
   have hg:V.β x.id∈aW V ⟨l1++l2,vc⟩:=by
    simp only[aW,List.mem_append,List.mem_map] at bR ⊢;exact .inl ⟨x,bR,rfl⟩
   obtain⟨h1,h2⟩:=h.heap.bx x fG;exact⟨by rw[Ni _ hg];exact h1,h2⟩
  ·exact⟨⟨o,e5,ho⟩,hD⟩
 ·obtain⟨h1,h2,h3,h4⟩:=h.heap.vc x hx
  exact⟨KT h1 (fun g hg=>Ni g (by
   simp only[aW,List.mem_append,List.mem_filterMap]
   exact .inr ⟨x,hx,hg⟩)),h2,h3,h4⟩
 ·intro x hx;rw[jr] at hx;exact h.own x hx
 ·have bR:x∈bx\/x=⟨b.id,b.ty,cs⟩:=by
   rw[hl];simp only[List.mem_append,List.mem_cons] at hx ⊢;rcases hx with hx |hx |hx
   ·exact .inl (.inl hx)
   ·exact .inr hx
   ·exact .inl (.inr (.inr hx))
  rcases bR with bR |rfl
  ·exact h.ids.1 x bR
  ·exact⟨(h.ids.1 b hm).1,av⟩
theorem SatW.setBx (h:SatW C bx vc nid m V D w) {k:Nat} {b:Bx} {cs:List SV} (hb:gl bx k=some b) (dI:b.ty<nE) (av:eL nid vc cs):
  SatW C (jV bx k cs) vc nid m V D (w.setRow (V.β k) ⟨cs.map (a7 V)⟩):=by
 obtain⟨hk,hm⟩:=sj hb;obtain⟨o,uA,ho⟩:=(h.heap.bx b hm).1;have ho' :=Ly dI ho;subst ho';rw[hk] at uA;exact h.setOb hb av (EE dI) rfl rfl rfl (size_setRow _ _ _) (setRow_heap w _ _ _ _ _ uA) (fun g hg=>setRow_other w _ g _ hg)
theorem HSat.permVc {dV:List Vc} (h:HSat V D w ⟨bx,vc⟩) (hp:vc.Perm dV):HSat V D w ⟨bx,dV⟩:=
 ⟨h.bx,fun b hb=>h.vc b (hp.mem_iff.2 hb),by
  have:(aW V ⟨bx,vc⟩).Perm (aW V ⟨bx,dV⟩):=List.Perm.append_left _ (hp.filterMap _)
  exact(this.nodup_iff).1 h.apart,((hp.map _).nodup_iff).1 h.uniq⟩
theorem HSat.tailVc {b:Vc} (h:HSat V D w ⟨bx,b::vc⟩):HSat V D w ⟨bx,vc⟩/\b.id ∉ vc.map (·.id)/\∀g,(V.γ b.id b.ver).blk=some g->g ∉ aW V ⟨bx,vc⟩:=by
 have gv:=(Fv.nodup_iff).1 h.apart;have hu:=List.nodup_cons.1 h.uniq;refine⟨⟨h.bx,fun x hx=>h.vc x (cu _ hx),(List.nodup_append.1 gv).2.1,hu.2⟩,hu.1,fun g hg fG=> ?_⟩;rw[hg] at gv;exact(List.nodup_cons.1 gv).1 fG
theorem SatW.updVc (h:SatW C bx vc nid m V D w) {k u n:Nat} {b:Vc} {hd:Hd} {xs:List Value} (hb:cS vc k u=some b) (H9:b.n * b.sz<=n * b.sz)
  (h1:w'.os=w.os) (h2:w'.tape=w.tape) (h3:w'.output=w.output) (h4:w.heap.size<=w'.heap.size)
  (hw:∀g,g<w.heap.size->(V.γ k u).blk≠some g->w'.heap[g]? =w.heap[g]?) (hkp:∀g,(V.γ k u).blk=some g->qX (b.n * b.sz) w.heap[g]? w'.heap[g]?)
  (dA:w'.ownsRow 0 b.el b.sz hd.val n xs) (Hg:∀g,hd.blk=some g->(V.γ k u).blk=some g\/w.heap.size<=g) (pA:∀y∈xs,y.oneCell' =true):
  ∃V',Agree nid vc V V' /\V'.γ k (u+1)=hd/\SatW C bx (oL vc k (mC b n xs)) nid m V' D w' :=by
 obtain⟨va,hbv,hm⟩:=zJ hb;subst va;subst hbv;refine⟨{V with γ:=fun i v=>if i=b.id/\v=b.ver+1 then hd else V.γ i v},?_,ah ⟨rfl,rfl⟩,?_⟩
 ·intro i hi;refine⟨rfl,fun v hv=>ae ?_⟩;rintro⟨rfl,rfl⟩;have:=Fy hb hv;omega
 have ha:Agree nid vc V {V with γ:=fun i v=>if i=b.id/\v=b.ver+1 then hd else V.γ i v}:=by
  intro i hi;refine⟨rfl,fun v hv=>ae ?_⟩;rintro⟨rfl,rfl⟩;have:=Fy hb hv;omega
 obtain⟨l1,l2,hl,hu⟩:=Jd (x:=mC b n xs) hb;have hp:vc.Perm (b::(l1++l2)):=by rw[hl];exact List.perm_middle
 have HM:(oL vc b.id (mC b n xs)).Perm (mC b n xs::(l1++l2)):=by rw[hu];exact List.perm_middle
 have sF:∀i v,bD vc i v->bD (oL vc b.id (mC b n xs)) i v:=I9 hb (by cases b;rfl) (by cases b;exact Nat.le_succ _);obtain⟨ht,hid,hblkb⟩:=(h.heap.permVc hp).tailVc;have wO:=h.heap.vc b hm;have ao:=tQ h.heap;have Od:=tQ ht;have ya:∀g,g∈aW V ⟨bx,l1++l2⟩->w'.heap[g]? =w.heap[g]? :=fun g hg=>hw g (Od g hg) (fun e=>hblkb g e hg)
 have AJ:∀x∈l1++l2,x∈vc:=fun x hx=>hp.mem_iff.2 (cu _ hx)
 have HH:HSat {V with γ:=fun i v=>if i=b.id/\v=b.ver+1 then hd else V.γ i v} D w' ⟨bx,l1++l2⟩:=
  ht.frame (fun x hx=>⟨rfl,xm ha (h.ids.1 x hx).2⟩) (fun x hx=>(ha x.id (h.ids.2 x (AJ x hx))).2 x.ver (tF h.heap.uniq (AJ x hx))) (fun g hg=>⟨ya g hg,rfl⟩)
 have jr:aW {V with γ:=fun i v=>if i=b.id/\v=b.ver+1 then hd else V.γ i v} ⟨bx,l1++l2⟩=aW V ⟨bx,l1++l2⟩:=
  zM (fun x hx=>rfl) (fun x hx=>(ha x.id (h.ids.2 x (AJ x hx))).2 x.ver (tF h.heap.uniq (AJ x hx)))
 have rB:(({V with γ:=fun i v=>if i=b.id/\v=b.ver+1 then hd else V.γ i v}:Vl).γ (mC b n xs).id (mC b n xs).ver)=hd:=by
  cases b;exact ah ⟨rfl,rfl⟩
 have hD:∀g,hd.blk=some g->D g<=n * b.sz:=fun g hg=>by
  rcases Hg g hg with e |e
  ·exact cg (wO.2.1 g e) H9
  ·rw[h.wf g e];exact au _
 have Mm:∀g,(V.γ b.id b.ver).blk=some g->C.F g\/C.w0.heap.size<=g:=fun g hg=>h.own g (by
  simp only[aW,List.mem_append,List.mem_filterMap]
  exact .inr ⟨b,hm,hg⟩)
 have oV:Frm (fun x=>(V.γ b.id b.ver).blk=some x) w D w' D:=⟨h1,h2,h3,h4,fun x hx hn=>⟨hw x hx hn,rfl⟩⟩
 have hle:Mem.le ⟨w,D⟩ ⟨w',D⟩:=fun x=>⟨aq _,fun h0=>by
  have HD:x<w.heap.size:=by
   rcases Nat.lt_or_ge x w.heap.size with h5 |h5
   ·exact h5
   ·have:=h.wf x h5;dsimp only at h0;omega
  refine⟨HD,?_⟩;by_cases hx:(V.γ b.id b.ver).blk=some x
  ·exact IE (wO.2.1 x hx) (rS (d:=D x) rfl) (hkp x hx)
  ·exact rS (hw x HD hx)⟩
 have YR:HSat {V with γ:=fun i v=>if i=b.id/\v=b.ver+1 then hd else V.γ i v} D w' ⟨bx,mC b n xs::(l1++l2)⟩:=by
  refine HH.consVc ?_ (by cases b;exact hid) ?_
  ·unfold wZ;rw[rB];cases b;exact⟨dA,hD,wO.2.2.1,pA⟩
  ·rw[rB];intro g hg fG;rw[jr] at fG;rcases Hg g hg with e |e
   ·exact hblkb g e fG
   ·have:=Od g fG;omega
 refine⟨YR.permVc HM.symm,fun x hx=>h.wf x (cg h4 hx),h.frm.trans oV Mm,fun x hx=> ?_,fun x hx=>h.baseB x hx,fun x hx=> ?_,⟨fun x hx=>⟨(h.ids.1 x hx).1,vr (aq _) (fun i v _=>sF i v) (h.ids.1 x hx).2⟩,fun x hx=> ?_⟩,Mem.le_trans h.le0 hle,h.m0,Mem.le_trans h.mle hle⟩
 ·have bR:x∈aW {V with γ:=fun i v=>if i=b.id/\v=b.ver+1 then hd else V.γ i v} ⟨bx,mC b n xs::(l1++l2)⟩:=by
   have:(aW {V with γ:=fun i v=>if i=b.id/\v=b.ver+1 then hd else V.γ i v} ⟨bx,oL vc b.id (mC b n xs)⟩).Perm _:=List.Perm.append_left _ (HM.filterMap _);exact this.mem_iff.1 hx
  rcases Ej.1 bR with e |e
  ·rw[rB] at e;rcases Hg x e with e' |e'
   ·exact Mm x e'
   ·exact .inr (cg h.frm.size e')
  ·rw[jr] at e;refine h.own x ?_;have:(aW V ⟨bx,vc⟩).Perm _:=List.Perm.append_left _ (hp.filterMap _);exact this.mem_iff.2 (Ej.2 (.inr e))
 ·obtain⟨e1,e2,e3⟩:=h.baseV x hx;exact⟨fun v hv=>((ha x.id e2).2 v (Cn e3 hv)).trans (e1 v hv),e2,sF _ _ e3⟩
 ·have:=HM.mem_iff.1 hx;rcases List.mem_cons.1 this with rfl |hx
  ·have:=h.ids.2 b hm;cases b;exact this
  ·exact h.ids.2 x (AJ x hx)
end
theorem zg (L:List Nat):∀bx:List Bx,fz L bx=bx.filter fun b=>L.contains b.id
 |[]=>rfl
 |⟨k,t,cs⟩::r=>by
  simp only[fz,List.filter_cons,zg L r]
theorem B7 (L:List Nat):∀vc:List Vc,fe L vc=vc.filter fun b=>L.contains b.id
 |[]=>rfl
 |⟨k,u,e,z,n,xs⟩::r=>by
  simp only[fe,List.filter_cons,B7 L r]
theorem Cf (L:List Nat):∀bx:List Bx,mo L bx=bx.filter fun b=> !L.contains b.id
 |[]=>rfl
 |⟨k,t,cs⟩::r=>by
  simp only[mo,List.filter_cons,Cf L r];cases L.contains k<;>simp
theorem zl (L:List Nat):∀vc:List Vc,lE L vc=vc.filter fun b=> !L.contains b.id
 |[]=>rfl
 |⟨k,u,e,z,n,xs⟩::r=>by
  simp only[lE,List.filter_cons,zl L r];cases L.contains k<;>simp
theorem xf {α:Type} (p:α->Bool):∀l:List α,(l.filter p++l.filter fun x=> !p x).Perm l
 |[]=>List.Perm.refl _
 |x::r=>by
  simp only[List.filter_cons];cases h:p x with
  |true=>simpa using(xf p r).cons x
  |false=>simpa using List.perm_middle.trans ((xf p r).cons x)
theorem Yj {α:Type} (a b c d:List α):((a++b)++(c++d)).Perm ((a++c)++(b++d)):=by
 simp only[List.append_assoc];refine List.Perm.append_left _ ?_;rw[<- List.append_assoc,<- List.append_assoc];exact List.Perm.append_right _ List.perm_append_comm
section
variable {V:Vl} {D:Nat->Nat} {w:World}
theorem HSat.permBx {bx pO:List Bx} {vc:List Vc} (h:HSat V D w ⟨bx,vc⟩) (hp:bx.Perm pO):HSat V D w ⟨pO,vc⟩:=
 ⟨fun b hb=>h.bx b (hp.mem_iff.2 hb),h.vc,by
  have:(aW V ⟨bx,vc⟩).Perm (aW V ⟨pO,vc⟩):=List.Perm.append_right _ (hp.map _)
  exact(this.nodup_iff).1 h.apart,h.uniq⟩
theorem CB (a b:List Bx) (c d:List Vc):(aW V ⟨a++b,c++d⟩).Perm (aW V ⟨a,c⟩++aW V ⟨b,d⟩):=by
 unfold aW;simp only[List.map_append,List.filterMap_append];exact Yj _ _ _ _
theorem HSat.app {a b:List Bx} {c d:List Vc} (h:HSat V D w ⟨a++b,c++d⟩):HSat V D w ⟨a,c⟩/\HSat V D w ⟨b,d⟩/\∀g,g∈aW V ⟨a,c⟩->g ∉ aW V ⟨b,d⟩:=by
 have hn:=((CB a b c d).nodup_iff).1 h.apart;obtain⟨h1,h2,h3⟩:=List.nodup_append.1 hn;have hu:=h.uniq;simp only[List.map_append] at hu;obtain⟨u1,u2,_⟩:=List.nodup_append.1 hu
 exact⟨⟨fun x hx=>h.bx x (List.mem_append_left _ hx),fun x hx=>h.vc x (List.mem_append_left _ hx),h1,u1⟩,
  ⟨fun x hx=>h.bx x (List.mem_append_right _ hx),fun x hx=>h.vc x (List.mem_append_right _ hx),h2,u2⟩,fun g hg gw=>h3 g hg g gw rfl⟩
theorem HSat.join {a b:List Bx} {c d:List Vc} (h:HSat V D w ⟨a,c⟩) (h' :HSat V D w ⟨b,d⟩) (hd:∀g,g∈aW V ⟨a,c⟩->g ∉ aW V ⟨b,d⟩) (hu:∀x∈c,∀y∈d,x.id≠y.id):HSat V D w ⟨a++b,c++d⟩:=
 ⟨fun x hx=>(List.mem_append.1 hx).elim (h.bx x) (h'.bx x),fun x hx=>(List.mem_append.1 hx).elim (h.vc x) (h'.vc x),((CB a b c d).nodup_iff).2 (List.nodup_append.2 ⟨h.apart,h'.apart,fun g hg g' gw e=>hd g hg (e▸gw)⟩),by
  simp only[List.map_append];refine List.nodup_append.2 ⟨h.uniq,h'.uniq,fun i hi j hj e=> ?_⟩;obtain⟨x,hx,rfl⟩:=List.mem_map.1 hi;obtain⟨y,hy,rfl⟩:=List.mem_map.1 hj
  exact hu x hx y hy e⟩
theorem BS (L:List Nat) {bx:List Bx} {vc:List Vc} (h:HSat V D w ⟨bx,vc⟩):HSat V D w ⟨fz L bx++mo L bx,fe L vc++lE L vc⟩:=by
 rw[zg,Cf,B7,zl];exact(h.permBx (xf _ bx).symm).permVc (xf _ vc).symm
theorem ET (L:List Nat) (bx:List Bx) (vc:List Vc):(aW V ⟨bx,vc⟩).Perm (aW V ⟨fz L bx,fe L vc⟩++aW V ⟨mo L bx,lE L vc⟩):=by
 refine List.Perm.trans ?_ (CB _ _ _ _);rw[zg,Cf,B7,zl];unfold aW;exact List.Perm.append ((xf _ bx).symm.map _) ((xf _ vc).symm.filterMap _)
/-! Numbers in a call. -/
theorem Jt:∀{L:List Nat} {i j:Nat},idxOf L i=some j->L[j]? =some i
 |x::r,i,j,h=>by
  simp only[idxOf] at h;split at h
  ·rename_i e;cases h;simp [e]
  ·simp only[Option.map_eq_some_iff] at h;obtain⟨j',hj,rfl⟩:=h;simpa using Jt hj
theorem J7:∀{L:List Nat} {i:Nat},i∈L->∃j,idxOf L i=some j
 |x::r,i,h=>by
  simp only[idxOf];split
  ·exact⟨0,rfl⟩
  ·rename_i e;rcases List.mem_cons.1 h with h |h
   ·exact absurd h.symm e
   ·obtain⟨j,hj⟩:=J7 h;exact⟨j+1,by rw[hj];rfl⟩
theorem xH {L:List Nat} {i:Nat} (h:L.contains i=true):L[iv L 0 i]? =some i/\iv L 0 i<L.length:=by
 obtain⟨j,hj⟩:=J7 (by simpa using h);have:iv L 0 i=j:=by unfold iv;rw[hj];rfl
 rw[this];have:=Jt hj;exact⟨this,(List.getElem?_eq_some_iff.1 this).1⟩
def kj (L:List Nat) (V:Vl):Vl:=⟨fun j=>V.β (L.getD j 0),fun j u=>V.γ (L.getD j 0) u⟩
theorem xZ {L:List Nat} {i:Nat} (h:L.contains i=true):(kj L V).β (iv L 0 i)=V.β i:=by
 show V.β (L.getD (iv L 0 i) 0)=_;rw[List.getD_eq_getElem?_getD,(xH h).1];rfl
theorem An {L:List Nat} {i:Nat} (h:L.contains i=true) (u:Nat):(kj L V).γ (iv L 0 i) u=V.γ i u:=by
 show V.γ (L.getD (iv L 0 i) 0) u=_;rw[List.getD_eq_getElem?_getD,(xH h).1];rfl
theorem xE {L:List Nat} {s:SV} (h:qI L s):a7 (kj L V) (lO (iv L 0) s)=a7 V s:=by
 cases s with
 |v x=>rfl
 |box k o=>show Value.pointer _=Value.pointer _;rw[xZ h]
 |vec k u=>show Hd.val _=Hd.val _;rw[An h]
 |vp k u o=>show Value.pointer _=Value.pointer _;rw[An h]
 |mp k=>show Value.map _=Value.map _;rw[xZ h]
 |mv f k o=>show Value.func _ _ _=Value.func _ _ _;rw[xZ h]
 |agg cs=>rfl
 |tup l=>cases h
theorem FV {L:List Nat}:∀{l:List SV},wB L l->(l.map (lO (iv L 0))).map (a7 (kj L V))=l.map (a7 V)
 |[],_=>rfl
 |s::r,h=>by simp only[bh];rw[xE h.1,FV h.2]
theorem Ww {L:List Nat} {s:SV} (h:DZ L s):den (kj L V) (sJ (iv L 0) s)=den V s:=by
 cases s with
 |agg cs=>show Value.agg _=Value.agg _;rw[FV h]
 |v x=>rfl
 |box k o=>exact xE (s:= .box k o) h
 |vec k u=>exact xE (s:= .vec k u) h
 |vp k u o=>exact xE (s:= .vp k u o) h
 |mp k=>exact xE (s:= .mp k) h
 |mv f k o=>exact xE (s:= .mv f k o) h
 |tup l=>cases h
theorem Lw {L:List Nat}:∀{l:List SV},AH L l->(l.map (sJ (iv L 0))).map (den (kj L V))=l.map (den V)
 |[],_=>rfl
 |s::r,h=>by simp only[bh];rw[Ww h.1,Lw h.2]
theorem JY {l:List Nat} {f g:Nat->Nat} (h:∀x∈l,g (f x)=x) (hl:l.Nodup):(l.map f).Nodup:=by
 have:(l.map f).map g=l:=by
  rw[List.map_map];exact(List.map_congr_left h).trans (List.map_id' l)
 rw[<- this] at hl;exact List.Pairwise.of_map g (fun a b h e=>h (by rw[e])) hl
theorem tH {L:List Nat} {vc:List Vc} {b:Vc} (h:b∈fe L vc):b∈vc/\L.contains b.id=true:=by
 rw[B7,List.mem_filter] at h;exact h
theorem E7 {L:List Nat} {bx:List Bx} {b:Bx} (h:b∈fz L bx):b∈bx/\L.contains b.id=true:=by
 rw[zg,List.mem_filter] at h;exact h
theorem SF {L:List Nat} {bx:List Bx} {b:Bx} (h:b∈mo L bx):b∈bx/\L.contains b.id=false:=by
 rw[Cf,List.mem_filter] at h;simpa using h
theorem Lv {L:List Nat} {vc:List Vc} {b:Vc} (h:b∈lE L vc):b∈vc/\L.contains b.id=false:=by
 rw[zl,List.mem_filter] at h;simpa using h
theorem Ll {L:List Nat}:∀{bx:List Bx},yl L bx->∀b∈bx,wB L b.cs
 |⟨_,_,cs⟩::r,h,b,hb=>by
  rcases List.mem_cons.1 hb with rfl |hb
  ·exact h.1
  ·exact Ll h.2 b hb
theorem xz (ρ:Nat->Nat) (b:Bx):(oB ρ b).id=ρ b.id/\(oB ρ b).ty=b.ty/\(oB ρ b).cs=b.cs.map (lO ρ):=by cases b;exact⟨rfl,rfl,rfl⟩
theorem mf (ρ:Nat->Nat) (b:Vc):(ji ρ b).id=ρ b.id/\(ji ρ b).ver=b.ver/\(ji ρ b).el=b.el/\(ji ρ b).sz=b.sz/\(ji ρ b).n=b.n/\(ji ρ b).xs=b.xs:=by
 cases b;exact⟨rfl,rfl,rfl,rfl,rfl,rfl⟩
theorem MA {L:List Nat} {st:LS}:aW (kj L V) (fE st L)=aW V ⟨fz L st.bx,fe L st.vc⟩:=by
 unfold aW fE;congr 1
 ·rw[List.map_map];refine List.map_congr_left fun b hb=> ?_
  show(kj L V).β (oB _ b).id=_;rw[(xz _ b).1,xZ (E7 hb).2]
 ·rw[List.filterMap_map];refine BH fun b hb=> ?_
  show((kj L V).γ (ji _ b).id (ji _ b).ver).blk=_;rw[(mf _ b).1,(mf _ b).2.1,An (tH hb).2]
theorem HSat.into {L:List Nat} {st:LS} (h:HSat V D w ⟨fz L st.bx,fe L st.vc⟩) (fG:yl L (fz L st.bx)):HSat (kj L V) D w (fE st L):=by
 refine⟨fun b hb=> ?_,fun b hb=> ?_,by rw[MA];exact h.apart,?_⟩
 ·obtain⟨x,hx,rfl⟩:=List.mem_map.1 hb;obtain⟨h1,h2⟩:=h.bx x hx;obtain⟨e1,e2,e3⟩:=xz (iv L 0) x;unfold BG;rw[e1,e2,e3,xZ (E7 hx).2,FV (Ll fG x hx)];exact⟨h1,h2⟩
 ·obtain⟨x,hx,rfl⟩:=List.mem_map.1 hb;have h1:=h.vc x hx;obtain⟨e1,e2,e3,e4,e5,e6⟩:=mf (iv L 0) x;unfold wZ;rw[e1,e2,e3,e4,e5,e6,An (tH hx).2];exact h1
 ·show(((fe L st.vc).map (ji (iv L 0))).map (·.id)).Nodup;rw[List.map_map];have:((fe L st.vc).map ((·.id)∘ji (iv L 0)))=((fe L st.vc).map (·.id)).map (iv L 0):=by
   rw[List.map_map];exact List.map_congr_left fun b _=>(mf _ b).1
  rw[this];refine JY (g:=fun j=>L.getD j 0) (fun i hi=> ?_) h.uniq;obtain⟨b,hb,rfl⟩:=List.mem_map.1 hi;rw[List.getD_eq_getElem?_getD,(xH (tH hb).2).1];rfl
end
theorem J3 {vc:List Vc}:∀{b:Vc},(vc.map (·.id)).Nodup->b∈vc->lR vc b.id=some b:=by
 induction vc with
 |nil=>intro b _ h;cases h
 |cons y r ih=>
  intro b hu h;obtain⟨i',v',e',z',n',x'⟩:=y;simp only[bh,List.nodup_cons] at hu;simp only[lR];rcases List.mem_cons.1 h with rfl |h
  ·rw[ah rfl]
  ·have:¬i' =b.id:=fun e=>hu.1 (by rw[e];exact List.mem_map.2 ⟨b,h,rfl⟩)
   rw[ae this];exact ih hu.2 h
theorem Ja {vc:List Vc} {k u:Nat} {b:Vc} (h:lR vc k=some b) (hv:bD vc k u):u<=b.ver:=by
 induction vc with
 |nil=>cases h
 |cons y r ih=>
  obtain⟨i',v',e',z',n',x'⟩:=y;simp only[lR] at h;simp only[bD] at hv;split at h
  ·rename_i e;cases h;rw[ah e] at hv;exact hv
  ·rename_i e;rw[ae e] at hv;exact ih h hv
theorem JZ:∀{L:List Nat},A6 L->L.Nodup
 |[],_=>List.nodup_nil
 |k::r,h=>List.nodup_cons.2 ⟨by have:=h.1;simpa using this,JZ h.2⟩
theorem zI {n:Nat}:∀{L:List Nat},th n L->∀k∈L,k<n
 |_::_,h,k,hk=>(List.mem_cons.1 hk).elim (fun e=>e▸h.1) (zI h.2 k)
theorem J8:∀{L:List Nat} {i j:Nat},L.Nodup->L[j]? =some i->idxOf L i=some j
 |x::r,i,0,_,h=>by simp at h;subst h;simp [idxOf]
 |x::r,i,j+1,hn,h=>by
  simp only[List.getElem?_cons_succ] at h;obtain⟨h1,h2⟩:=List.nodup_cons.1 hn;simp only[idxOf];rw[ae (fun e=>h1 (by rw[e];exact List.mem_of_getElem? h)),J8 h2 h];rfl
theorem J9:∀{bx:List Bx} {j:Nat},(my bx).contains j=true->∃b∈bx,b.id=j
 |⟨k,t,cs⟩::r,j,h=>by
  simp only[my,List.contains_cons,Bool.or_eq_true,beq_iff_eq] at h;rcases h with h |h
  ·exact⟨_,df ..,h.symm⟩
  ·obtain⟨b,hb,e⟩:=J9 h;exact⟨b,cu _ hb,e⟩
theorem Fj:∀{vc:List Vc} {j:Nat},(kY vc).contains j=true->∃b∈vc,b.id=j
 |⟨k,u,e,z,n,xs⟩::r,j,h=>by
  simp only[kY,List.contains_cons,Bool.or_eq_true,beq_iff_eq] at h;rcases h with h |h
  ·exact⟨_,df ..,h.symm⟩
  ·obtain⟨b,hb,e⟩:=Fj h;exact⟨b,cu _ hb,e⟩
theorem CE {nB nV:List Nat} {len:Nat}:∀{bx:List Bx},yv nB nV len bx->∀b∈bx,(b.id<len->nB.contains b.id=true)/\wX nB nV len b.cs
 |⟨k,t,cs⟩::r,h,b,hb=>by
  rcases List.mem_cons.1 hb with rfl |hb
  ·exact⟨fun hl=>by have:=h.1;dsimp only at hl this;rwa [ah hl] at this,h.2.1⟩
  ·exact CE h.2.2 b hb
theorem CD {nV:List Nat} {len:Nat}:∀{vc:List Vc},yu nV len vc->∀b∈vc,b.id<len->nV.contains b.id=true
 |⟨k,u,e,z,n,xs⟩::r,h,b,hb=>by
  rcases List.mem_cons.1 hb with rfl |hb
  ·exact fun hl=>by have:=h.1;dsimp only at hl this;rwa [ah hl] at this
  ·exact CD h.2 b hb
theorem Fa {nid:Nat} {vc:List Vc}:∀{bx:List Bx},xV nid vc bx->∀b∈bx,eL nid vc b.cs
 |⟨_,_,cs⟩::r,h,b,hb=>by
  rcases List.mem_cons.1 hb with rfl |hb
  ·exact h.1
  ·exact Fa h.2 b hb
theorem JE {L:List Nat} {dV:List Vc}:∀{vc:List Vc},Ad L dV vc->∀b∈vc,L.contains b.id=true->bD dV b.id b.ver
 |⟨k,u,e,z,n,xs⟩::r,h,b,hb=>by
  rcases List.mem_cons.1 hb with rfl |hb
  ·exact fun hl=>by have:=h.1;dsimp only at hl;rwa [ah hl] at this
  ·exact JE h.2 b hb
theorem Kw:∀{bx:List Bx} {b:Bx},b∈bx->b.id<mF bx
 |⟨k,t,cs⟩::r,b,hb=>by
  simp only[mF];rcases List.mem_cons.1 hb with rfl |hb
  ·dsimp only;omega
  ·have:=Kw hb;omega
theorem Kv:∀{vc:List Vc} {b:Vc},b∈vc->b.id<mE vc
 |⟨k,u,e,z,n,xs⟩::r,b,hb=>by
  simp only[mE];rcases List.mem_cons.1 hb with rfl |hb
  ·dsimp only;omega
  ·have:=Kv hb;omega
theorem RJ {a b:List Vc} {k u:Nat} (ha:bD a k u) (hb:bD b k u):bD (a++b) k u:=by
 induction a with
 |nil=>exact hb
 |cons y r ih=>
  obtain⟨i',v',e',z',n',x'⟩:=y;simp only[jt,bD] at ha ⊢;split
  ·rename_i e;rw[ah e] at ha;exact ha
  ·rename_i e;rw[ae e] at ha;exact ih ha
theorem EH {a:List Vc} {k u:Nat} (h:∀b∈a,b.id≠k):bD a k u:=by
 induction a with
 |nil=>trivial
 |cons y r ih=>
  obtain⟨i',v',e',z',n',x'⟩:=y;simp only[bD];rw[ae (h _ (df ..))];exact ih fun b hb=>h b (cu _ hb)
theorem PZ {p:Vc->Bool} {a:List Vc} {k u:Nat} (hu:(a.map (·.id)).Nodup) (h:bD a k u):bD (a.filter p) k u:=by
 induction a with
 |nil=>trivial
 |cons y r ih=>
  simp only[bh,List.nodup_cons] at hu;obtain⟨i',v',e',z',n',x'⟩:=y;simp only[bD] at h;simp only[List.filter_cons];split
  ·simp only[bD];split
   ·rename_i e;rw[ah e] at h;exact h
   ·rename_i e;rw[ae e] at h;exact ih hu.2 h
  ·by_cases e:i' =k
   ·refine EH fun b hb=> ?_
    rw[<- e];exact fun e' =>hu.1 (by dsimp only;rw[<- e'];exact List.mem_map.2 ⟨b,(List.mem_filter.1 hb).1,rfl⟩)
   ·rw[ae e] at h;exact ih hu.2 h
section
variable {C:Ctx} {st:LS} {V V2:Vl} {D D2:Nat->Nat} {w w2:World} {L:List Nat} {r:SV} {H' :Hp} {m' :Mem}
def jW (st:LS) (L:List Nat) (V V2:Vl):Vl:=
  ⟨fun k=>if k<st.nid then V.β k else V2.β (k - st.nid),
   fun k u=>if k<st.nid then(match lR st.vc k with |some b=>if L.contains k=true/\b.ver<u then V2.γ (iv L 0 k) u else V.γ k u |none=>V.γ k u) else V2.γ (k - st.nid) u⟩
theorem Rg:Agree st.nid st.vc V (jW st L V V2):=by
 intro k hk;refine⟨ah hk,fun u hu=> ?_⟩;show(if k<st.nid then _ else _)=_;rw[ah hk];split
 ·rename_i b hb;rw[ae (fun h=>by have:=Ja hb hu;omega)]
 ·rfl
theorem vE {j:Nat} (hj:j<L.length):∃k,L[j]? =some k/\k∈L/\ew L st.nid j=k:=by
 refine⟨L[j],List.getElem?_eq_getElem hj,List.getElem_mem hj,?_⟩;unfold ew;rw[List.getElem?_eq_getElem hj];rfl
theorem vF {j:Nat} (hj:¬j<L.length):ew L st.nid j=st.nid+j:=by
 unfold ew;rw[List.getElem?_eq_none (by omega)];rfl
theorem Ym (gv:L.Nodup) (ao:th st.nid L) (hβ:∀b∈(fE st L).bx,V2.β b.id=(kj L V).β b.id) {j:Nat} (hj:j<L.length->(my (fE st L).bx).contains j=true):
  (jW st L V V2).β (ew L st.nid j)=V2.β j:=by
 by_cases h:j<L.length
 ·obtain⟨k,hk,hm,he⟩:=vE (st:=st) h;rw[he];obtain⟨b,hb,hbj⟩:=J9 (hj h);have OT:=hβ b hb;obtain⟨x,hx,rfl⟩:=List.mem_map.1 hb;rw[(xz _ x).1] at hbj OT;have hc:=(E7 hx).2;have Bb:x.id=k:=by
   have:=(xH hc).1;rw[hbj,hk] at this;exact(Option.some.inj this).symm
  show(if k<st.nid then _ else _)=_;rw[ah (zI ao k hm),<- Bb,<- xZ (V:=V) hc,<- OT,hbj]
 ·rw[vF h];show(if st.nid+j<st.nid then _ else _)=_;rw[ae (by omega),Nat.add_sub_cancel_left]
theorem Yk (gv:L.Nodup) (ao:th st.nid L) (wE:(st.vc.map (·.id)).Nodup) (hγ:∀b∈(fE st L).vc,∀u,u<=b.ver->V2.γ b.id u=(kj L V).γ b.id u) {j:Nat} (hj:j<L.length->(kY (fE st L).vc).contains j=true) (u:Nat):
  (jW st L V V2).γ (ew L st.nid j) u=V2.γ j u:=by
 by_cases h:j<L.length
 ·obtain⟨k,hk,hm,he⟩:=vE (st:=st) h;rw[he];obtain⟨b,hb,hbj⟩:=Fj (hj h);have HB:=hγ b hb;obtain⟨x,hx,rfl⟩:=List.mem_map.1 hb;rw[(mf _ x).1] at hbj HB;rw[(mf _ x).2.1] at HB;obtain⟨HC,hc⟩:=tH hx;have Bb:x.id=k:=by
   have:=(xH hc).1;rw[hbj,hk] at this;exact(Option.some.inj this).symm
  show(if k<st.nid then _ else _)=_;rw[ah (zI ao k hm),<- Bb,J3 wE HC];dsimp only;by_cases hu:x.ver<u
  ·rw[ah ⟨hc,hu⟩,hbj]
  ·rw[ae (fun h=>hu h.2),<- An (V:=V) hc,<- HB u (by omega),hbj]
 ·rw[vF h];show(if st.nid+j<st.nid then _ else _)=_;rw[ae (by omega),Nat.add_sub_cancel_left]
structure Bk (st:LS) (L:List Nat) (V V2:Vl):Prop where
 β:∀j,(j<L.length->(my (fE st L).bx).contains j=true)->(jW st L V V2).β (ew L st.nid j)=V2.β j
 γ:∀j u,(j<L.length->(kY (fE st L).vc).contains j=true)->(jW st L V V2).γ (ew L st.nid j) u=V2.γ j u
theorem A9 {p:Prop} [Decidable p] {q:Prop} (h:if p then q else True):p->q:=fun hp=>by rwa [ah hp] at h
theorem yt (hb:Bk st L V V2) {s:SV} (h:qU (my (fE st L).bx) (kY (fE st L).vc) L.length s):a7 (jW st L V V2) (lO (ew L st.nid) s)=a7 V2 s:=by
 cases s with
 |v x=>rfl
 |box k o=>show Value.pointer _=Value.pointer _;rw[hb.β k (A9 h)]
 |vec k u=>show Hd.val _=Hd.val _;rw[hb.γ k u (A9 h)]
 |vp k u o=>show Value.pointer _=Value.pointer _;rw[hb.γ k u (A9 h)]
 |mp k=>show Value.map _=Value.map _;rw[hb.β k (A9 h)]
 |mv f k o=>show Value.func _ _ _=Value.func _ _ _;rw[hb.β k (A9 h)]
 |agg cs=>rfl
 |tup l=>rfl
theorem Hq (hb:Bk st L V V2):∀{l:List SV},wX (my (fE st L).bx) (kY (fE st L).vc) L.length l->(l.map (lO (ew L st.nid))).map (a7 (jW st L V V2))=l.map (a7 V2)
 |[],_=>rfl
 |s::r,h=>by simp only[bh];rw[yt hb h.1,Hq hb h.2]
theorem wo (hb:Bk st L V V2) {s:SV} (h:BF (my (fE st L).bx) (kY (fE st L).vc) L.length s):lT (jW st L V V2) (yf (ew L st.nid) s)=lT V2 s:=by
 cases s with
 |agg cs=>show Value.agg _=Value.agg _;rw[Hq hb h]
 |v x=>rfl
 |box k o=>exact yt (s:= .box k o) hb h
 |vec k u=>exact yt (s:= .vec k u) hb h
 |vp k u o=>exact yt (s:= .vp k u o) hb h
 |mp k=>exact yt (s:= .mp k) hb h
 |mv f k o=>exact yt (s:= .mv f k o) hb h
 |tup l=>rfl
theorem Ow (hb:Bk st L V V2):∀{l:List SV},BE (my (fE st L).bx) (kY (fE st L).vc) L.length l->(l.map (yf (ew L st.nid))).map (lT (jW st L V V2))=l.map (lT V2)
 |[],_=>rfl
 |s::r,h=>by simp only[bh];rw[wo hb h.1,Ow hb h.2]
theorem ab1 (hb:Bk st L V V2) {s:SV} (h:Ef (my (fE st L).bx) (kY (fE st L).vc) L.length s):den (jW st L V V2) (sJ (ew L st.nid) s)=den V2 s:=by
 cases s with
 |tup l=>show Value.tuple _=Value.tuple _;rw[Ow hb h]
 |v x=>rfl
 |box k o=>exact wo (s:= .box k o) hb h
 |vec k u=>exact wo (s:= .vec k u) hb h
 |vp k u o=>exact wo (s:= .vp k u o) hb h
 |mp k=>exact wo (s:= .mp k) hb h
 |mv f k o=>exact wo (s:= .mv f k o) hb h
 |agg cs=>exact wo (s:= .agg cs) hb h
theorem UO (gv:L.Nodup) (ao:th st.nid L) (j:Nat):(fun k=>if k<st.nid then iv L 0 k else k - st.nid) (ew L st.nid j)=j:=by
 by_cases h:j<L.length
 ·obtain⟨k,hk,hm,he⟩:=vE (st:=st) h;dsimp only;rw[he,ah (zI ao k hm)];unfold iv;rw[J8 gv hk];rfl
 ·dsimp only;rw[vF h,ae (by omega),Nat.add_sub_cancel_left]
theorem HSat.back (hb:Bk st L V V2) (gv:L.Nodup) (ao:th st.nid L) (h:HSat V2 D2 w2 H') (Bq:yv (my (fE st L).bx) (kY (fE st L).vc) L.length H'.bx) (OX:yu (kY (fE st L).vc) L.length H'.vc):
  HSat (jW st L V V2) D2 w2 ⟨H'.bx.map (oB (ew L st.nid)),H'.vc.map (ji (ew L st.nid))⟩/\
   aW (jW st L V V2) ⟨H'.bx.map (oB (ew L st.nid)),H'.vc.map (ji (ew L st.nid))⟩=aW V2 H' :=by
 have jr:aW (jW st L V V2) ⟨H'.bx.map (oB (ew L st.nid)),H'.vc.map (ji (ew L st.nid))⟩=aW V2 H' :=by
  unfold aW;congr 1
  ·rw[List.map_map];refine List.map_congr_left fun b hm=> ?_
   show(jW st L V V2).β (oB _ b).id=_;rw[(xz _ b).1,hb.β _ (CE Bq b hm).1]
  ·rw[List.filterMap_map];refine BH fun b hm=> ?_
   show((jW st L V V2).γ (ji _ b).id (ji _ b).ver).blk=_;rw[(mf _ b).1,(mf _ b).2.1,hb.γ _ _ (CD OX b hm)]
 refine⟨⟨fun b hm=> ?_,fun b hm=> ?_,by rw[jr];exact h.apart,?_⟩,jr⟩
 ·obtain⟨x,hx,rfl⟩:=List.mem_map.1 hm;obtain⟨e1,e2,e3⟩:=xz (ew L st.nid) x;obtain⟨h1,h2⟩:=h.bx x hx;unfold BG;rw[e1,e2,e3,hb.β _ (CE Bq x hx).1,Hq hb (CE Bq x hx).2];exact⟨h1,h2⟩
 ·obtain⟨x,hx,rfl⟩:=List.mem_map.1 hm;obtain⟨e1,e2,e3,e4,e5,e6⟩:=mf (ew L st.nid) x;have h1:=h.vc x hx;unfold wZ;rw[e1,e2,e3,e4,e5,e6,hb.γ _ _ (CD OX x hx)];exact h1
 ·dsimp only;rw[List.map_map];have:(H'.vc.map ((·.id)∘ji (ew L st.nid)))=(H'.vc.map (·.id)).map (ew L st.nid):=by
   rw[List.map_map];exact List.map_congr_left fun b _=>(mf _ b).1
  rw[this];exact JY (g:=fun k=>if k<st.nid then iv L 0 k else k - st.nid) (fun j _=>UO gv ao j) h.uniq
theorem SatW.call (h:SatW C st.bx st.vc st.nid st.m V D w) (fG:G5 st L []) (Ia:Gs st L r H' m')
  (uJ:Wf w2 D2) (tq:HSat V2 D2 w2 H') (hβ:∀b∈(fE st L).bx,V2.β b.id=(kj L V).β b.id) (hγ:∀b∈(fE st L).vc,∀u,u<=b.ver->V2.γ b.id u=(kj L V).γ b.id u)
  (oV:Frm (· ∈aW (kj L V) (fE st L)) w D w2 D2) (rB:∀b∈aW V2 H',b∈aW (kj L V) (fE st L)\/w.heap.size<=b) (hle:Mem.le ⟨w,D⟩ ⟨w2,D2⟩) (aJ:st.m.le m') (aG:m'.le ⟨w2,D2⟩):
  ∃V3,Agree st.nid st.vc V V3/\den V3 (sJ (ew L st.nid) r)=den V2 r/\SatW C (tV st L H' m').bx (tV st L H' m').vc (tV st L H' m').nid m' V3 D2 w2/\
   ∀k u,k<st.nid->bD st.vc k u->bD (tV st L H' m').vc k u:=by
 obtain⟨gv,ao,_,_⟩:=fG;have gv:=JZ gv;obtain⟨c1,c2,c3,c4,c5,c6⟩:=Ia;have wE:=h.heap.uniq;have hb:Bk st L V V2:=⟨fun j hj=>Ym gv ao hβ hj,fun j u hj=>Yk gv ao wE hγ hj u⟩;obtain⟨hsn,jr⟩:=tq.back hb gv ao c2 c3;have oS:=BS L h.heap;obtain⟨hp,hd,hdis⟩:=oS.app;have iA:Agree st.nid st.vc V (jW st L V V2):=Rg;have DE:aW (kj L V) (fE st L)=aW V ⟨fz L st.bx,fe L st.vc⟩:=MA;have yM:∀b∈mo L st.bx,b∈st.bx:=fun b hb=>(SF hb).1
 have Bf:∀b∈lE L st.vc,b∈st.vc:=fun b hb=>(Lv hb).1
 have Ol:aW (jW st L V V2) ⟨mo L st.bx,lE L st.vc⟩=aW V ⟨mo L st.bx,lE L st.vc⟩:=
  zM (fun b hm=>(iA b.id (h.ids.1 b (yM b hm)).1).1) (fun b hm=>(iA b.id (h.ids.2 b (Bf b hm))).2 b.ver (tF wE (Bf b hm)))
 have O8:=tQ hd;have qP:HSat (jW st L V V2) D2 w2 ⟨mo L st.bx,lE L st.vc⟩:=
  hd.frame (fun b hm=>⟨(iA b.id (h.ids.1 b (yM b hm)).1).1,xm iA (h.ids.1 b (yM b hm)).2⟩) (fun b hm=>(iA b.id (h.ids.2 b (Bf b hm))).2 b.ver (tF wE (Bf b hm)))
   (fun g hg=>oV.same g (O8 g hg) (fun hx=>hdis g (DE▸hx) hg))
 have lq:HSat (jW st L V V2) D2 w2 ⟨H'.bx.map (oB (ew L st.nid))++mo L st.bx,H'.vc.map (ji (ew L st.nid))++lE L st.vc⟩:=by
  refine hsn.join qP (fun g hg gw=> ?_) (fun x hx y hy=> ?_)
  ·rw[jr] at hg;rw[Ol] at gw;rcases rB g hg with e |e
   ·exact hdis g (DE▸e) gw
   ·have:=O8 g gw;omega
  ·obtain⟨z,hz,rfl⟩:=List.mem_map.1 hx;rw[(mf _ z).1];obtain⟨jo,lX⟩:=Lv hy;by_cases hl:z.id<L.length
   ·obtain⟨k,_,hkm,he⟩:=vE (st:=st) hl;rw[he];rintro rfl;have:L.contains y.id=true:=by simpa using hkm
    rw[this] at lX;cases lX
   ·rw[vF hl];have:=h.ids.2 y jo;omega
 have sF:∀k u,k<st.nid->bD st.vc k u->bD (tV st L H' m').vc k u:=by
  intro k u hk hv;show bD (H'.vc.map (ji (ew L st.nid))++lE L st.vc) k u;refine RJ ?_ (by rw[zl];exact PZ wE hv);by_cases hkL:L.contains k=true
  ·cases ko:lR st.vc k with
   |none=>
    refine EH fun b dS e=> ?_
    obtain⟨z,hz,rfl⟩:=List.mem_map.1 dS;rw[(mf _ z).1] at e;by_cases hl:z.id<L.length
    ·obtain⟨k',tr,_,he⟩:=vE (st:=st) hl;rw[he] at e;subst e;obtain⟨y,hy,hyz⟩:=Fj (CD c3 z hz hl);obtain⟨x,hx,rfl⟩:=List.mem_map.1 hy;rw[(mf _ x).1] at hyz;obtain⟨HC,hc⟩:=tH hx;have:=(xH hc).1;rw[hyz,tr] at this;have Bb:x.id=k' :=(Option.some.inj this).symm;have:=J3 wE HC;rw[Bb,ko] at this;cases this
    ·rw[vF hl] at e;omega
   |some b=>
    have dS:b∈st.vc/\b.id=k:=by
     clear hv;revert ko;generalize st.vc=l
     intro ko;induction l with
     |nil=>cases ko
     |cons y r ih=>
      obtain⟨i',v',e',z',n',x'⟩:=y;simp only[lR] at ko;split at ko
      ·rename_i e;cases ko;exact⟨df ..,e⟩
      ·exact⟨cu _ (ih ko).1,(ih ko).2⟩
    have h6:=JE c6 b dS.1 (by rw[dS.2];exact hkL);rw[dS.2] at h6;exact Cn h6 (Ja ko hv)
  ·refine EH fun b dS e=> ?_
   obtain⟨z,hz,rfl⟩:=List.mem_map.1 dS;rw[(mf _ z).1] at e;by_cases hl:z.id<L.length
   ·obtain⟨k',_,hm,he⟩:=vE (st:=st) hl;rw[he] at e;subst e;exact hkL (by simpa using hm)
   ·rw[vF hl] at e;omega
 have Oj:∀j,j<max (mF H'.bx) (mE H'.vc)->ew L st.nid j<st.nid+max (mF H'.bx) (mE H'.vc):=by
  intro j hj;by_cases hl:j<L.length
  ·obtain⟨k,_,hm,he⟩:=vE (st:=st) hl;rw[he];have:=zI ao k hm;omega
  ·rw[vF hl];omega
 refine⟨jW st L V V2,iA,ab1 hb c1,⟨lq,uJ,h.frm.trans oV (fun x hx=>h.own x ((ET L st.bx st.vc).mem_iff.2 (List.mem_append_left _ (DE▸hx)))),fun x hx=> ?_,fun b dS=> ?_,fun b dS=> ?_,⟨fun b dS=> ?_,fun b dS=> ?_⟩,Mem.le_trans h.le0 hle,Mem.le_trans h.m0 aJ,aG⟩,sF⟩
 ·have bR:=(CB _ _ _ _).mem_iff.1 hx;rcases List.mem_append.1 bR with bR |bR
  ·rw[jr] at bR;rcases rB x bR with e |e
   ·exact h.own x ((ET L st.bx st.vc).mem_iff.2 (List.mem_append_left _ (DE▸e)))
   ·exact .inr (cg h.frm.size e)
  ·rw[Ol] at bR;exact h.own x ((ET L st.bx st.vc).mem_iff.2 (List.mem_append_right _ bR))
 ·obtain⟨e1,e2⟩:=h.baseB b dS;exact⟨((iA b.id e2).1).trans e1,dM e2 (Nat.le_add_right _ _)⟩
 ·obtain⟨e1,e2,e3⟩:=h.baseV b dS;exact⟨fun u hu=>((iA b.id e2).2 u (Cn e3 hu)).trans (e1 u hu),dM e2 (Nat.le_add_right _ _),sF _ _ e2 e3⟩
 ·rcases List.mem_append.1 dS with dS |dS
  ·refine⟨?_,Fa c5 b dS⟩;obtain⟨x,hx,rfl⟩:=List.mem_map.1 dS;rw[(xz _ x).1];exact Oj _ (dM (Kw hx) (Nat.le_max_left _ _))
  ·exact⟨dM (h.ids.1 b (yM b dS)).1 (Nat.le_add_right _ _),vr (Nat.le_add_right _ _) sF (h.ids.1 b (yM b dS)).2⟩
 ·rcases List.mem_append.1 dS with dS |dS
  ·obtain⟨x,hx,rfl⟩:=List.mem_map.1 dS;rw[(mf _ x).1];exact Oj _ (dM (Kv hx) (Nat.le_max_right _ _))
  ·exact dM (h.ids.2 b (Bf b dS)) (Nat.le_add_right _ _)
end
theorem se {V:Vl}:∀{cs:List SV},jn cs=true->∀v∈cs.map (a7 V),v.oneCell' =true
 | .v x::r,h,v,hv=>by
  simp only[jn,cO] at h;simp only[bh] at hv;rcases List.mem_cons.1 hv with rfl |hv
  ·exact h.1
  ·exact se h.2 v hv
 | .box k o::r,h,v,hv=>by
  simp only[bh] at hv;rcases List.mem_cons.1 hv with rfl |hv
  ·rfl
  ·exact se (cs:=r) h v hv
 | .vec k o::r,h,v,hv=>by
  simp only[bh] at hv;rcases List.mem_cons.1 hv with rfl |hv
  ·rfl
  ·exact se (cs:=r) h v hv
 | .vp k u o::r,h,v,hv=>by
  simp only[bh] at hv;rcases List.mem_cons.1 hv with rfl |hv
  ·rfl
  ·exact se (cs:=r) h v hv
 | .mp k::r,h,v,hv=>by
  simp only[bh] at hv;rcases List.mem_cons.1 hv with rfl |hv
  ·rfl
  ·exact se (cs:=r) h v hv
 | .mv f k o::r,h,v,hv=>by
  simp only[bh] at hv;rcases List.mem_cons.1 hv with rfl |hv
  ·rfl
  ·exact se (cs:=r) h v hv
 | .agg cs::r,h,v,hv=>by simp [jn] at h
 | .tup cs::r,h,v,hv=>by simp [jn] at h
theorem Sl {V:Vl} {s:SV} {x:Value} (h:plain s=some x):a7 V s=x:=by
 cases s<;>simp only[plain,de] at h<;>first |exact h |cases h
theorem BV {V:Vl}:∀{cs:List SV} {l:List Value},lC cs=some l->cs.map (a7 V)=l
 |[],l,h=>by simp only[lC,de] at h;subst h;rfl
 |s::r,l,h=>by
  simp only[lC,Option.bind_eq_some_iff,Option.map_eq_some_iff] at h;obtain⟨x,hx,l',hl,rfl⟩:=h;simp only[bh];rw[Sl hx,BV hl]
theorem F4:∀(l cs:List SV) (off:Nat),off+l.length<=cs.length->ke cs off l=cs.take off++l++cs.drop (off+l.length)
 |[],cs,off,_=>by simp [ke]
 |c::r,cs,off,h=>by
  simp only[cC] at h;simp only[ke];rw[F4 r (cs.set off c) (off+1) (by simp;omega)];have h1:(cs.set off c).take (off+1)=cs.take off++[c]:=by
   rw[List.take_set,List.take_succ_eq_append_getElem (by omega)];rw[List.set_append_right _ _ (by simp [Nat.min_le_left])];simp [List.length_take,Nat.min_eq_left (by omega:off<=cs.length)]
  have h2:(cs.set off c).drop (off+1+r.length)=cs.drop (off+1+r.length):=List.drop_set_of_lt (by omega);rw[h1,h2];simp [Nat.add_assoc,Nat.add_comm 1]
theorem CC {V:Vl} {g:Nat}:∀{l:List Vc} {x b:Vc},x∈l->b∈l->(V.γ x.id x.ver).blk=some g->(V.γ b.id b.ver).blk=some g->(l.filterMap fun b=>(V.γ b.id b.ver).blk).Nodup->x=b
 |y::r,x,b,hx,hb,hxg,hbg,hf=>by
  simp only[List.filterMap_cons] at hf;rcases List.mem_cons.1 hx with e1 |bR<;>rcases List.mem_cons.1 hb with e2 |nY
  ·exact e1.trans e2.symm
  ·subst e1;rw[hxg] at hf;exact absurd (List.mem_filterMap.2 ⟨b,nY,hbg⟩) (List.nodup_cons.1 hf).1
  ·subst e2;rw[hbg] at hf;exact absurd (List.mem_filterMap.2 ⟨x,bR,hxg⟩) (List.nodup_cons.1 hf).1
  ·refine CC bR nY hxg hbg ?_;split at hf
   ·exact hf
   ·exact(List.nodup_cons.1 hf).2
section
variable {C:Ctx} {n:Nat} {st:LS} {a:Act} {V:Vl} {D:Nat->Nat} {w:World} {P:Program} {p:be}
theorem Sat.to (hS:Sat C n st a V D w) {pO:List Bx} {dV:List Vc} {gK:Nat} {m' :Mem} {V' :Vl} {D' :Nat->Nat} {w' :World} (ha:Agree st.nid st.vc V V') (hn:st.nid<=gK)
  (hv:∀k u,k<st.nid->bD st.vc k u->bD dV k u) (hW:SatW C pO dV gK m' V' D' w'):Sat C n ⟨st.env,st.rho,pO,dV,gK,m'⟩ a V' D' w' :=
 ⟨hS.f.agree hS.ids ha,fun e he=>KX hn hv (hS.ids e he),hW⟩
theorem SatW.pub (h:SatW C st.bx st.vc st.nid st.m V D w) {k u:Nat} {b:Vc} (hb:cS st.vc k u=some b):
  ∃(a:Option Addr) (c:Nat) (m1:Mem) (D' :Nat->Nat),st.m.le m1/\b.n<=c/\aM m1 a b.n b.sz b.xs/\(V.γ k u).val= .slice a b.n c/\SatW C st.bx st.vc st.nid m1 V D' w:=by
 obtain⟨rfl,rfl,hm⟩:=zJ hb;obtain⟨dA,hD,jO,pA⟩:=h.heap.vc b hm;obtain⟨hn,hl,_⟩:=vI dA;let D' :Nat->Nat:=fun x=>if(V.γ b.id b.ver).blk=some x then b.n * b.sz else D x
 have hDD:∀x,D x<=D' x:=fun x=>by
  show D x<=if _ then _ else _
  split
  ·rename_i e;exact hD x e
  ·exact aq _
 have jN:Wf w D' :=fun x hx=>by
  show(if _ then _ else _)=0;split
  ·rename_i e;have:=(F6 dA e).2;omega
  ·exact h.wf x hx
 have hle:Mem.le ⟨w,D⟩ ⟨w,D'⟩:=Mem.le_same h.wf (fun x _=>⟨hDD x,fun _=>rfl⟩);have YE:Mem.le ⟨w,D'⟩ ⟨w,D'⟩:=Mem.le_refl ⟨w,D'⟩ jN;have abj:∀g,g∈aW V ⟨st.bx,st.vc⟩->(V.γ b.id b.ver).blk≠some g->D' g=D g:=fun g _ cY=>ae cY
 refine⟨(V.γ b.id b.ver).a,(V.γ b.id b.ver).c,⟨w,D'⟩,D',Mem.le_trans h.mle hle,?_,⟨hl,fun h0=> ?_⟩,by unfold Hd.val;rw[hn],?_⟩
 ·rcases dA.2 with ⟨_,hz⟩ |⟨g,cap,cur,hv,_,_,hc,_⟩
  ·omega
  ·simp only[Hd.val,Value.slice.injEq] at hv;omega
 ·rcases dA.2 with ⟨_,hz⟩ |⟨g,cap,cur,hv,_,hh,hc,_,gd,wF⟩
  ·omega
  ·simp only[Hd.val,Value.slice.injEq] at hv;refine⟨⟨g,0,none⟩,hv.1,rfl,fun j hj=> ?_⟩;have Ia:(V.γ b.id b.ver).blk=some g:=by unfold Hd.blk;rw[hv.1];rfl
   refine⟨?_,?_⟩
   ·rw[BM];simp only[World.cell?,hh,Option.isSome_none,Bool.false_eq_true,if_false];rw[<- wF,List.getElem?_take,ah hj,Array.getElem?_toList]
   ·show 0+j<D' g;have:D' g=b.n * b.sz:=ah Ia;omega
 ·refine⟨⟨fun x hx=> ?_,fun x hx=> ?_,h.heap.apart,h.heap.uniq⟩,jN,h.frm.trans (S:=fun x=>(V.γ b.id b.ver).blk=some x) ⟨rfl,rfl,rfl,aq _,fun x _ hx=>⟨rfl,ae hx⟩⟩ (fun x hx=>h.own x (by
   simp only[aW,List.mem_append,List.mem_filterMap]
   exact .inr ⟨b,hm,hx⟩)),h.own,h.baseB,h.baseV,h.ids,Mem.le_trans h.le0 hle,Mem.le_trans h.m0 (Mem.le_trans h.mle hle),YE⟩
  ·obtain⟨h1,h2⟩:=h.heap.bx x hx;refine⟨h1,?_⟩;rw[abj _ (by simp only[aW,List.mem_append,List.mem_map];exact .inl ⟨x,hx,rfl⟩)]
   ·exact h2
   ·intro e;have pM:=h.heap.apart;unfold aW at pM;exact(List.nodup_append.1 pM).2.2 _ (List.mem_map.2 ⟨x,hx,rfl⟩) _ (List.mem_filterMap.2 ⟨b,hm,e⟩) rfl
  ·obtain⟨h1,h2,h3,h4⟩:=h.heap.vc x hx;refine⟨h1,fun g hg=> ?_,h3,h4⟩;show(if _ then _ else _)<=_;split
   ·rename_i e;have hxb:x=b:=by
     have pM:=h.heap.apart;unfold aW at pM;have hf:=(List.nodup_append.1 pM).2.1;exact CC hx hm hg e hf
    rw[hxb];exact aq _
   ·exact h2 g hg
theorem pP:∀(l:List SV) (K:List SV->LS->Prop) (m:Mem) (D:Nat->Nat),nD l K ⟨st.env,st.rho,st.bx,st.vc,st.nid,m⟩->SatW C st.bx st.vc st.nid m V D w->
  ∃l' m1 D1,K l' ⟨st.env,st.rho,st.bx,st.vc,st.nid,m1⟩/\SatW C st.bx st.vc st.nid m1 V D1 w/\l'.map (a7 V)=l.map (a7 V)/\(∀x∈l',∀cs,x= .agg cs-> .agg cs∈l)
 |[],K,m,D,h,hW=>⟨[],m,D,h,hW,rfl,fun _ h=>by cases h⟩
 |s::r,K,m,D,h,hW=>by
  cases s with
  |vec k u=>
   simp only[nD] at h;obtain⟨b,hb,h⟩:=aB h;obtain⟨ad,c,m1,D',h1,h2,h3,h4,h5⟩:=SatW.pub (st:=⟨st.env,st.rho,st.bx,st.vc,st.nid,m⟩) hW hb;obtain⟨l',m2,D2,e1,e2,e3,e4⟩:=pP r _ m1 D' (h ad c m1 h1 h2 h3) h5;refine⟨_,m2,D2,e1,e2,?_,fun x hx cs e=> ?_⟩
   ·simp only[bh];rw[e3];congr 1
    exact h4.symm
   ·rcases List.mem_cons.1 hx with rfl |hx
    ·cases e
    ·exact cu _ (e4 x hx cs e)
  |v x=>
   obtain⟨l',m2,D2,e1,e2,e3,e4⟩:=pP r _ m D h hW
   exact⟨_,m2,D2,e1,e2,by simp only[bh,e3],fun y hy cs e=>by
    rcases List.mem_cons.1 hy with rfl |hy
    ·cases e
    ·exact cu _ (e4 y hy cs e)⟩
  |box k o=>
   obtain⟨l',m2,D2,e1,e2,e3,e4⟩:=pP r _ m D h hW
   exact⟨_,m2,D2,e1,e2,by simp only[bh,e3],fun y hy cs e=>by
    rcases List.mem_cons.1 hy with rfl |hy
    ·cases e
    ·exact cu _ (e4 y hy cs e)⟩
  |vp k u o=>
   obtain⟨l',m2,D2,e1,e2,e3,e4⟩:=pP r _ m D h hW
   exact⟨_,m2,D2,e1,e2,by simp only[bh,e3],fun y hy cs e=>by
    rcases List.mem_cons.1 hy with rfl |hy
    ·cases e
    ·exact cu _ (e4 y hy cs e)⟩
  |mp k=>
   obtain⟨l',m2,D2,e1,e2,e3,e4⟩:=pP r _ m D h hW
   exact⟨_,m2,D2,e1,e2,by simp only[bh,e3],fun y hy cs e=>by
    rcases List.mem_cons.1 hy with rfl |hy
    ·cases e
    ·exact cu _ (e4 y hy cs e)⟩
  |mv f k o=>
   obtain⟨l',m2,D2,e1,e2,e3,e4⟩:=pP r _ m D h hW
   exact⟨_,m2,D2,e1,e2,by simp only[bh,e3],fun y hy cs e=>by
    rcases List.mem_cons.1 hy with rfl |hy
    ·cases e
    ·exact cu _ (e4 y hy cs e)⟩
  |agg cs=>
   obtain⟨l',m2,D2,e1,e2,e3,e4⟩:=pP r _ m D h hW
   exact⟨_,m2,D2,e1,e2,by simp only[bh,e3],fun y hy cU e=>by
    rcases List.mem_cons.1 hy with rfl |hy
    ·rw[e];exact df ..
    ·exact cu _ (e4 y hy cU e)⟩
  |tup l0=>
   obtain⟨l',m2,D2,e1,e2,e3,e4⟩:=pP r _ m D h hW
   exact⟨_,m2,D2,e1,e2,by simp only[bh,e3],fun y hy cs e=>by
    rcases List.mem_cons.1 hy with rfl |hy
    ·cases e
    ·exact cu _ (e4 y hy cs e)⟩
end
end Go.Proofs.YtimddhkipjedcaaGreatDoor.E

/- Several texts in one: EngA, EngB, EngC, EngD, EngE, EngF, EngG, EngH, EngMp, EngI, EngJ, EngK, EngL, EngM, EngN, EngO, EngP. -/
import Derived.WalkKit
import Derived.Below
import Derived.Deep.Draws
import Derived.Maps.AppendAt
import Derived.Laws.Strings
import Derived.Laws.StructEq
import Derived.Laws.Shifts
import Derived.Laws.Cover1
import Derived.Laws.Cells
import Derived.Laws.Slices
import Derived.Laws.DeepStrings4
import Derived.Laws.IdiomStrings
import Derived.Lib.Strings
import Derived.MapKept
import Derived.Deep.AppendSrc
set_option linter.unusedSimpArgs false
set_option linter.unusedVariables false
set_option maxHeartbeats 4000000
set_option maxRecDepth 20000
namespace Go.Proofs.YtimddhkipjedcaaGreatDoor.E
open Go
theorem dv {a b:Nat} (h:Nat.ble a b=true):a<=b:=Nat.le_of_ble_eq_true h
theorem au (n:Nat):n<=n:=Nat.le_refl n
theorem aI {α:Type _} {as bs:List α}:(as++bs).length=as.length+bs.length:=List.length_append
theorem aL {α:Type _} {a:α} {as:List α}:(a::as).length=as.length+1:=rfl
theorem bh {α:Type _}:([]:List α).length=0:=rfl
theorem af {c:Prop} {h:Decidable c} (Ly:¬c) {α:Sort _} {t e:α}:(ite c t e)=e:=if_neg Ly
theorem ah {c:Prop} {h:Decidable c} (hc:c) {α:Sort _} {t e:α}:(ite c t e)=t:=if_pos hc
theorem bt {p:Prop} [Decidable p]:(decide p=true)=p:=decide_eq_true_eq
theorem bR {α:Type _} (y:α) {a:α} {l:List α}:a∈l->a∈y::l:=List.mem_cons_of_mem y
theorem bY {α:Type _} {a:α} {l:List α}:a∈a::l:=List.mem_cons_self ..
theorem aG (n:Nat):0<=n:=Nat.zero_le n
theorem ao (h:Decidable True): @decide True h=true:=decide_true h
theorem aq (h:Decidable False): @decide False h=false:=decide_false h
theorem cZ {n m k:Nat} (h:n<=m) (h2:m<=k):n<=k:=Nat.le_trans h h2
theorem fi {α:Type _} {i:Nat} {l:List α} (h:l.length<=i):l.take i=l:=List.take_of_length_le h
theorem eM {n m k:Nat} (h:n<m) (h2:m<=k):n<k:=Nat.lt_of_lt_of_le h h2
theorem bN {α β:Type _} {f:α->β} {a:α} {l:List α}:(a::l).map f=f a::l.map f:=List.map_cons
theorem dT {α:Type _} {a b:α}:(some a=some b)=(a=b):=Option.some.injEq a b
theorem dW {α:Type _} {a:α} {as bs:List α}:(a::as)++bs=a::(as++bs):=List.cons_append
theorem dI {α:Type _} {i:Nat} {l:List α}:(l.drop i).length=l.length - i:=List.length_drop
theorem di {p:Prop} [Decidable p] (h:¬p):decide p=false:=decide_eq_false h
theorem eF {p:Prop} [Decidable p] (h:p):decide p=true:=decide_eq_true h
theorem iB {α:Type _} {a:α}:[a].length=1:=List.length_singleton
theorem aD (a b:Bool):((a&&b)=true)=(a=true/\b=true):=Bool.and_eq_true a b
inductive A {γ:Type} (k:γ) (α:Type) where
 |mk (a:α)
inductive SV where
 |v (x:Value)
 |box (k off:Nat)
 |vec (k ver:Nat)
 |vp (k ver off:Nat)
 |mp (k:Nat)
 |mv (f:FuncId) (k off:Nat)
 |agg (cs:List SV)
 |tup (vs:List SV)
abbrev bV:=List (Nat×Bool)
structure Bx where
 id:Nat
 ty:TypeId
 cs:List SV
def oD:Nat:=1000000
structure Vc where
 id:Nat
 ver:Nat
 el:TypeId
 sz:Nat
 n:Nat
 xs:List Value
structure Mem where
 w:World
 D:Nat->Nat
structure Hp where
 bx:List Bx
 vc:List Vc
inductive GB where
 |lit (b:Bool)
 |sym (b:Bool)
structure Gd where
 i:Nat
 slot:Nat
 p:bV
 b:GB
structure Ev where
 t:Nat
 p:bV
 s:SV
structure LS where
 env:List Ev
 rho:List Gd
 bx:List Bx
 vc:List Vc
 nid:Nat
 m:Mem
def bs (l:List UInt8):ByteArray:=⟨l.toArray⟩
def tl (s:ByteArray):List UInt8:=s.data.toList
theorem zV (l:List UInt8):tl (bs l)=l:=by simp [tl,bs]
theorem oG (s:ByteArray):bs (tl s)=s:=by simp [tl,bs]
theorem PQ (l:List UInt8):ByteArray.mk l.toArray=bs l:=rfl
theorem zQ {a b:List UInt8} (h:bs a=bs b):a=b:=by have:=congrArg tl h;simpa [zV] using this
def GB.val:GB->Bool | .lit b=>b | .sym b=>b
def qj:bV->bV->Bool
 |[],[]=>true
 |(j,w)::p,(k,u)::q=>if j=k then(if w=u then qj p q else false) else false
 |_,_=>false
def nZ:bV->bV->Bool
 |p,[]=>qj p []
 |p,x::q=>if qj p (x::q)=true then true else nZ p q
def gb:List Ev->Nat->bV->Option SV
 |[],_,_=>none
 |⟨t',p',s⟩::r,t,p=>if t' =t then(if nZ p' p=true then some s else none) else gb r t p
def gG:List Gd->Nat->Option Gd
 |[],_=>none
 |⟨i',t',p',b'⟩::r,i=>if i' =i then some ⟨i',t',p',b'⟩ else gG r i
def Am:List Gd->Nat->Option Gd
 |[],_=>none
 |⟨i',t',p',b'⟩::r,i=>if t' =i then some ⟨i',t',p',b'⟩ else Am r i
def iv:List Bx->Nat->Option Bx
 |[],_=>none
 |⟨k',t',dH⟩::r,i=>if k' =i then some ⟨k',t',dH⟩ else iv r i
def eU:List Vc->Nat->Nat->Option Vc
 |[],_,_=>none
 |⟨k',u',e',z',n',x'⟩::r,i,u=>if k' =i then(if u' =u then some ⟨k',u',e',z',n',x'⟩ else none) else eU r i u
def oM (rho:List Gd) (j:Nat) (w:Bool):Bool:=match gG rho j with |some g=>(if w=true then g.b.val else !g.b.val) |none=>false
def cF (rho:List Gd):bV->Bool
 |[]=>true
 |(j,w)::p=>oM rho j w&&cF rho p
def xO:Option Gd->Bool->Bool
 |some ⟨_,_,_,.lit true⟩,false=>true
 |some ⟨_,_,_,.lit false⟩,true=>true
 |_,_=>false
def v7 (rho:List Gd):bV->Bool
 |[]=>false
 |(j,w)::p=>if xO (gG rho j) w=true then true else v7 rho p
def pO (st:LS) (p:bV) (B:Prop):Prop:=cF st.rho p=true->B
def cU (st:LS) (p:bV):Operand->Option SV
 | .tmp t=>gb st.env t p
 | .const x=>some (.v x)
 | .func f=>some (.v (.func (.func f) #[] #[]))
 | .global g=>some (.v (.pointer (some ⟨g,0,none⟩)))
def aP {α:Type} {K:α->Prop} (x:A K (Option α)):Prop:=match x with | .mk (some s)=>K s | .mk none=>False
/-! Types, as the program's tables have them. -/
def eR (P:Program) (t:TypeId):Option (Option Nat):=
 match P.underlying t with
 |some (.struct _) |some (.array _ _)=>(P.info? t).map fun i=>some i.size
 |some _=>some none
 |none=>none
def bX (P:Program) (t:TypeId):Nat:=((P.info? t).map (·.size)).getD 0
def od (P:Program) (t:TypeId):Nat:=((P.info? t).map (·.bytes)).getD 0
def fB (P:Program) (t:TypeId):Option (List SV):=((P.info? t).bind (·.zero)).map fun z=>z.cells.toList.map .v
def da (P:Program) (s:TypeId) (f:Nat):Option (Nat×Option Nat×Nat):=
 match P.underlying s with
 |some (.struct fs)=>(fs[f]?).bind fun x=>if 0<bX P x.type then(eR P x.type).map fun g=>(x.offset,g,bX P x.type) else none
 |_=>none
def iP (P:Program) (t:TypeId):Option TypeId:=
 match P.underlying t with
 |some (.slice e)=>some e
 |_=>none
inductive CvK where |int (k:IntKind) |same |b2s |no
def qR (P:Program) (src dst:TypeId):CvK:=
 match P.underlying src,P.underlying dst with
 |some (.int _),some (.int k)=> .int k
 |some .string,some .string=> .same
 |some (.slice e),some .string=>(match P.underlying e with |some (.int .u8)=> .b2s |_=> .no)
 |_,_=> .no
/-! Values. -/
def aF (n:Int):Prop:= -9223372036854775808<=n/\n<=9223372036854775807
def arith {k:IntKind} {u:Prop->Prop} {K:SV->Prop} (x:A (k,u,K) Int):Prop:=
 match k,x with
 | .i64,.mk n=>u (aF n)/\K (.v (.int .i64 n))
 |k,.mk n=>K (.v (.int k (k.wrap n)))
def jJ {op:BinOp} {k:IntKind} {u:Prop->Prop} {K:SV->Prop} (x:A (op,k,u,K) (Int×Int)):Prop:=
 match op,x with
 | .add,.mk (a,b)=>arith (.mk (k:=(k,u,K)) (a+b))
 | .sub,.mk (a,b)=>arith (.mk (k:=(k,u,K)) (a - b))
 | .mul,.mk (a,b)=>arith (.mk (k:=(k,u,K)) (a * b))
 | .quo,.mk (a,b)=>u (b≠0)/\arith (.mk (k:=(k,u,K)) (a.tdiv b))
 | .rem,.mk (a,b)=>u (b≠0)/\K (.v (.int k (a.tmod b)))
 | .and,.mk (a,b)=>K (.v (.int k (bits .and k a b)))
 | .or,.mk (a,b)=>K (.v (.int k (bits .or k a b)))
 | .xor,.mk (a,b)=>K (.v (.int k (bits .xor k a b)))
 | .andNot,.mk (a,b)=>K (.v (.int k (bits .andNot k a b)))
 | .eql,.mk (a,b)=>K (.v (.bool (decide (a=b))))
 | .neq,.mk (a,b)=>K (.v (.bool (!decide (a=b))))
 | .lss,.mk (a,b)=>K (.v (.bool (decide (a<b))))
 | .leq,.mk (a,b)=>K (.v (.bool (decide (a<=b))))
 | .gtr,.mk (a,b)=>K (.v (.bool (decide (b<a))))
 | .geq,.mk (a,b)=>K (.v (.bool (decide (b<=a))))
 | .shl,.mk (a,b)=>u (0<=b/\b<=k.bits)/\K (.v (.int k (k.wrap (a * 2 ^ b.toNat))))
 | .shr,.mk (a,b)=>u (0<=b/\b<=k.bits)/\K (.v (.int k (a / 2 ^ b.toNat)))
def rK {op:BinOp} {u:Prop->Prop} {K:SV->Prop} (x:A (op,u,K) (List UInt8×List UInt8)):Prop:=
 match op,x with
 | .add,.mk (a,b)=>u (a.length+b.length<=9223372036854775807)/\K (.v (.string (bs (a++b))))
 | .eql,.mk (a,b)=>K (.v (.bool (decide (a=b))))
 | .neq,.mk (a,b)=>K (.v (.bool (!decide (a=b))))
 | .lss,.mk (a,b)=>K (.v (.bool (Op.bytesLess a b)))
 | .geq,.mk (a,b)=>K (.v (.bool (!Op.bytesLess a b)))
 |_,_=>False
def nG:SV->SV->Option Bool
 | .v (.int k a),.v (.int k' b)=>if k=k' then some (decide (a=b)) else none
 | .v (.string a),.v (.string b)=>some (decide (tl a=tl b))
 | .v (.bool a),.v (.bool b)=>some (a==b)
 |_,_=>none
def ig:List SV->List SV->Option Bool
 |[],[]=>some true
 |a::x,b::y=>(nG a b).bind fun e=>(ig x y).map fun r=>e&&r
 |_,_=>none
def lI:SV->Option (List SV)
 | .agg cs=>some cs
 | .v (.agg ⟨l⟩)=>some (l.map .v)
 | .tup _=>none
 | .v (.tuple _)=>none
 |s=>some [s]
def o6:SV->Option (List SV)
 | .agg cs=>some cs
 | .v (.agg ⟨l⟩)=>some (l.map .v)
 |_=>none
def nU:SV->SV->Bool
 | .v (.int k _),.v (.int k' _)=>decide (k=k')
 | .v (.string _),.v (.string _)=>true
 | .v (.bool _),.v (.bool _)=>true
 |_,_=>false
def jr:List SV->List SV->Bool
 |[],[]=>true
 |z::zs,x::xs=>nU z x&&jr zs xs
 |_,_=>false
def wv (z:Option (List SV)) (xs:List SV):Bool:=
 match z with
 |some zs=>jr zs xs
 |none=>false
def vb (P:Program) (t:TypeId):Prop:=
 ∀(xs ys:List Value) (b:Bool) (w:World) (o o' :Operand) (op:BinOp),ig (xs.map .v) (ys.map .v)=some b->wv (fB P t) (xs.map .v)=true->
  (eqGuard op t o o' (.agg xs.toArray) (.agg ys.toArray)).run P w= .ok () w/\(Op.equal t (.agg xs.toArray) (.agg ys.toArray)).run P w= .ok b w
def qz {op:BinOp} {K:SV->Prop} (x:A (op,K) Bool):Prop:=
 match op,x with
 | .eql,.mk b=>K (.v (.bool b))
 | .neq,.mk b=>K (.v (.bool (!b)))
 |_,_=>False
def qy {P:Program} {op:BinOp} {t:TypeId} {u:Prop->Prop} {K:SV->Prop} (x:A (P,op,t,u,K) (SV×SV)):Prop:=
 match x with
 | .mk (.v (.int k a),.v (.int k' b))=>(op= .shl\/op= .shr\/k=k')/\jJ (.mk (k:=(op,k,u,K)) (a,b))
 | .mk (.v (.string a),.v (.string b))=>rK (.mk (k:=(op,u,K)) (tl a,tl b))
 | .mk (.v (.bool a),.v (.bool b))=>P.underlying t=some .bool/\qz (.mk (k:=(op,K)) (a==b))
 | .mk (.agg xs,y)=>vb P t/\wv (fB P t) xs=true/\aP (.mk (k:=fun b=>qz (.mk (k:=(op,K)) b)) ((o6 y).bind fun ys=>ig xs ys))
 | .mk (.v (.agg xs),y)=>vb P t/\wv (fB P t) (xs.toList.map .v)=true/\aP (.mk (k:=fun b=>qz (.mk (k:=(op,K)) b)) ((o6 y).bind fun ys=>ig (xs.toList.map .v) ys))
 |_=>False
def cM (a:Option Addr) (o:Nat):Value:= .pointer (a.map (·.add o))
def vJ (x:Value) (o:Nat):Value:=match x with | .pointer a=>cM a o |x=>x
def J2 (x:Value):Prop:=∃a,x= .pointer (some a)
def uW:Value->Bool
 | .pointer none | .nilIface | .nilFunc=>false
 | .func (.func _) _ _=>true
 | .func _ _ _=>false
 |_=>true
def Rd (m:Mem) (x:Value) (cs:List Value):Prop:=
 ∃a,x= .pointer (some a)/\a.spot=none/\∀j,j<cs.length->m.w.cell? (a.add j)=cs[j]? /\a.off+j<m.D a.block
def ahR (a:Option Addr) (n:Nat) (i:Int):Prop:=0<=i/\i<n/\a≠none
def aZ (m:Mem) (a:Option Addr) (n sz:Nat) (xs:List Value):Prop:=
 xs.length=n * sz/\(0<n->∃ad,a=some ad/\ad.spot=none/\∀j,j<n * sz->m.w.cell? (ad.add j)=xs[j]? /\ad.off+j<m.D ad.block)
def Le (a:Option Addr) (c l h sz:Nat):Value:= .slice (if c=l then a else a.map (·.add (l * sz))) (h - l) (c - l)
def jW (l:List UInt8):List Value:=l.map fun b=> .int .u8 b.toNat
def td:SV->Option SV
 | .v x=>some (.v x)
 | .box k o=>some (.box k o)
 | .vec k u=>some (.vec k u)
 | .vp k u o=>some (.vp k u o)
 | .mp k=>some (.mp k)
 | .mv f k o=>some (.mv f k o)
 | .agg _=>none
 | .tup _=>none
def vU (cs:List SV) (off:Nat):Option Nat->Option SV
 |none=>(cs[off]?).bind td
 |some n=>if off+n<=cs.length then some (.agg ((cs.drop off).take n)) else none
def lu (cs:List SV) (off:Nat):List SV->List SV
 |[]=>cs
 |c::r=>lu (cs.set off c) (off+1) r
inductive PM where |and |or |gen
def Cj:Operand->Operand->PM
 |_,.const (.bool false)=> .and
 | .const (.bool true),_=> .or
 |_,_=> .gen
def uL {md:PM} {K:SV->Prop} (x:A (md,K) (Bool×SV×SV)):Prop:=
 match md,x with
 | .and,.mk (c,.v (.bool a),.v (.bool false))=>K (.v (.bool (c&&a)))
 | .or,.mk (c,.v (.bool true),.v (.bool b))=>K (.v (.bool (c||b)))
 | .gen,.mk (c,.v (.bool a),.v (.bool b))=>K (.v (.bool (bif c then a else b)))
 |_,_=>False
def ri (o:Option SV) (d:Int):Option Int:=
 match o with
 |none=>some d
 |some (.v (.int _ n))=>some n
 |_=>none
def xU (st:LS) (p:bV) (o:Option Operand):Option (Option SV):=
 match o with
 |none=>some none
 |some x=>(cU st p x).map some
def vO (P:Program) (t:TypeId) (st:LS) (p:bV):List (Nat×Operand)->List SV->Option (List SV)
 |[],cs=>some cs
 |(i,x)::r,cs=>(da P t i).bind fun fo=>((cU st p x).bind lI).bind fun l=>
   if l.length=fo.2.2 then(if fo.1+l.length<=cs.length then vO P t st p r (lu cs fo.1 l) else none) else none
def nO (P:Program) (t:TypeId):Bool:=
 match P.underlying t with
 |some (.struct fs)=>fs.toList.all fun x=>(P.info? x.type).isSome
 |_=>false
def uR {u:Prop->Prop} {K:SV->Prop} (x:A (u,K) SV):Prop:=
 match x with
 | .mk (.v x)=>u (uW x=true)/\K (.v x)
 | .mk (.box k o)=>K (.box k o)
 |_=>False
def vd {op:UnOp} {u:Prop->Prop} {K:SV->Prop} (x:A (op,u,K) SV):Prop:=
 match op,x with
 | .not,.mk (.v (.bool b))=>K (.v (.bool (!b)))
 | .neg,.mk (.v (.int k n))=>arith (.mk (k:=(k,u,K)) (0 - n))
 |_,_=>False
def GC (v:Value):Prop:=v= .nilIface\/∃t x,v= .iface t x
def rs:Value->Bool
 | .nilIface=>true
 |_=>false
def FK (P:Program) (t:TypeId):Bool:=
 match P.underlying t with
 |some (.interface _)=>true
 |_=>false
def vV {P:Program} {op:BinOp} {t:TypeId} {u:Prop->Prop} {K:SV->Prop} (x:A (P,op,t,u,K) SV):Prop:=
 match x with
 | .mk (.v v)=>FK P t=true/\u (GC v)/\qz (.mk (k:=(op,K)) (rs v))
 |_=>False
def ry {u:Prop->Prop} {K:SV->Prop} (x:A (u,K) (LS×CvK×SV)):Prop:=
 match x with
 | .mk (_,.int k,.v (.int _ n))=>K (.v (.int k (k.wrap n)))
 | .mk (_,.same,.v (.string s))=>K (.v (.string s))
 | .mk (st,.b2s,.vec k v)=>aP (.mk (k:=fun b:Vc=>∃l,u (b.sz=1/\b.xs=jW l)/\K (.v (.string (bs l)))) (eU st.vc k v))
 | .mk (st,.b2s,.v (.slice a n _))=>∃l,u (aZ st.m a n 1 (jW l))/\K (.v (.string (bs l)))
 |_=>False
def tq {u:Prop->Prop} {K:SV->Prop} (x:A (u,K) (LS×SV×Nat)):Prop:=
 match x with
 | .mk (_,.box k o,f)=>K (.box k (o+f))
 | .mk (st,.vp k v o,f)=>aP (.mk (k:=fun b:Vc=>u (o<b.xs.length)/\K (.vp k v (o+f))) (eU st.vc k v))
 | .mk (_,.v x,f)=>u (J2 x)/\K (.v (vJ x f))
 |_=>False
def uU {P:Program} {u:Prop->Prop} {K:SV->Prop} (x:A (P,u,K) (LS×TypeId×SV×SV)):Prop:=
 match x with
 | .mk (_,e,.v (.slice a n _),.v (.int _ i))=>0<bX P e/\u (ahR a n i)/\K (.v (cM a (i.toNat * bX P e)))
 | .mk (st,e,.vec k v,.v (.int _ i))=>aP (.mk (k:=fun b:Vc=>0<bX P e/\u (0<=i/\i<b.n/\b.sz=bX P e)/\K (.vp k v (i.toNat * bX P e))) (eU st.vc k v))
 |_=>False
def wE {P:Program} {t:TypeId} {u:Prop->Prop} {K:SV->Prop} (x:A (P,t,u,K) (SV×SV)):Prop:=
 match x with
 | .mk (.v (.string s),.v (.int _ i))=>P.underlying t=some .string/\u (0<=i/\i<(tl s).length)/\K (.v (.int .u8 ((tl s).getD i.toNat 0).toNat))
 |_=>False
def Ky {s:List UInt8} {u:Prop->Prop} {K:SV->Prop} (x:A (s,u,K) (Int×Int)):Prop:=
 match x with
 | .mk (l,h)=>u (0<=l/\l<=h/\h<=s.length)/\K (.v (.string (bs ((s.take h.toNat).drop l.toNat))))
def vf {P:Program} {t:TypeId} {u:Prop->Prop} {K:SV->Prop} (x:A (P,t,u,K) (SV×Option SV×Option SV)):Prop:=
 match x with
 | .mk (.v (.string s),lo,hi)=>P.underlying t=some .string/\
   aP (.mk (k:=fun l:Int=>aP (.mk (k:=fun h:Int=>Ky (.mk (k:=(tl s,u,K)) (l,h))) (ri hi (tl s).length))) (ri lo 0))
 | .mk (.v (.slice a n c),lo,hi)=>aP (.mk (k:=fun l:Int=>aP (.mk (k:=fun h:Int=>aP (.mk (k:=fun e:TypeId=>
   0<bX P e/\u (0<=l/\l<=h/\h<=c)/\K (.v (Le a c l.toNat h.toNat (bX P e)))) (iP P t))) (ri hi n))) (ri lo 0))
 |_=>False
def yl {m:Mem} {x:Value} {u:Prop->Prop} {K:SV->Prop} (ag:A (m,x,u,K) (Option Nat)):Prop:=
 match ag with
 | .mk none=>∃c,u (Rd m x [c])/\K (.v c)
 | .mk (some n)=>∃cs,u (Rd m x cs/\cs.length=n)/\K (.v (.agg ⟨cs⟩))
def xT {b:Vc} {o:Nat} {u:Prop->Prop} {K:SV->Prop} (ag:A (b,o,u,K) (Option Nat)):Prop:=
 match ag with
 | .mk none=>u (o<b.xs.length)/\K (.v (b.xs.getD o undef))
 | .mk (some n)=>0<n/\u (o+n<=b.xs.length)/\K (.v (.agg ⟨(b.xs.drop o).take n⟩))
def pv {P:Program} {t:TypeId} {u:Prop->Prop} {K:SV->Prop} (x:A (P,t,u,K) (LS×SV)):Prop:=
 match x with
 | .mk (st,.box k o)=>aP (.mk (k:=fun b:Bx=>(b.ty<oD)/\aP (.mk (k:=fun ag:Option Nat=>aP (.mk (k:=K) (vU b.cs o ag))) (eR P t))) (iv st.bx k))
 | .mk (st,.vp k v o)=>aP (.mk (k:=fun b:Vc=>aP (.mk (k:=fun ag:Option Nat=>xT (.mk (k:=(b,o,u,K)) ag)) (eR P t))) (eU st.vc k v))
 | .mk (st,.v x)=>aP (.mk (k:=fun ag:Option Nat=>yl (.mk (k:=(st.m,x,u,K)) ag)) (eR P t))
 |_=>False
def nH:SV->Option SV
 | .v x=>some (.v x)
 | .box k o=>some (.box k o)
 | .vec k u=>some (.vec k u)
 | .vp k u o=>some (.vp k u o)
 | .mp k=>some (.mp k)
 | .mv f k o=>some (.mv f k o)
 | .agg cs=>some (.agg cs)
 | .tup _=>none
def uV {K:SV->Prop} (x:A K (SV×Nat)):Prop:=
 match x with
 | .mk (.tup l,i)=>aP (.mk (k:=K) (l[i]?.bind nH))
 | .mk (.v (.tuple ⟨l⟩),i)=>aP (.mk (k:=K) (l[i]?.map .v))
 |_=>False
def tm {P:Program} {t:TypeId} {K:SV->Prop} (x:A (P,t,K) (LS×SV)):Prop:=
 match x with
 | .mk (_,.v (.string s))=>P.underlying t=some .string/\K (.v (.int .i64 (tl s).length))
 | .mk (_,.v (.slice _ n _))=>aP (.mk (k:=fun _:TypeId=>K (.v (.int .i64 n))) (iP P t))
 | .mk (st,.vec k v)=>aP (.mk (k:=fun _:TypeId=>aP (.mk (k:=fun b:Vc=>K (.v (.int .i64 b.n))) (eU st.vc k v))) (iP P t))
 |_=>False
def we {K:SV->Prop} (x:A K (SV×SV)):Prop:=
 match x with
 | .mk (.v (.int k a),.v (.int _ b))=>K (.v (.int k (if b<a then b else a)))
 |_=>False
def wg {K:SV->Prop} (x:A K (SV×SV)):Prop:=
 match x with
 | .mk (.v (.int k a),.v (.int _ b))=>K (.v (.int k (if a<b then b else a)))
 |_=>False
def mx (a b:Int):Int:=if a<b then b else a
def vW {K:SV->Prop} (x:A K (SV×SV×SV×SV)):Prop:=
 match x with
 | .mk (.v (.int k a),.v (.int _ b),.v (.int _ c),.v (.int _ d))=>K (.v (.int k (mx (mx (mx a b) c) d)))
 |_=>False
def uK {p:bV} {a b:Operand} {st:LS} {g:Gd} {K:SV->Prop} (x:A (p,a,b,st,g,K) PM):Prop:=
 match g,x with
 |⟨i,_,q,.lit true⟩,_=>nZ q p=true/\aP (.mk (k:=K) (cU st ((i,true)::q) a))
 |⟨i,_,q,.lit false⟩,_=>nZ q p=true/\aP (.mk (k:=K) (cU st ((i,false)::q) b))
 |⟨i,_,q,.sym c⟩,.mk md=>nZ q p=true/\
   aP (.mk (k:=fun x:SV=>aP (.mk (k:=fun y:SV=>uL (.mk (k:=(md,K)) (c,x,y))) (cU st ((i,false)::q) b))) (cU st ((i,true)::q) a))
open Classical in
noncomputable def my:List Value->Value->Option Value
 |k::v::r,s=>if k=s then some v else my r s
 |_,_=>none
open Classical in
noncomputable def wh:List Value->Value->Value->List Value
 |k::v::r,s,x=>if k=s then k::x::r else k::v::wh r s x
 |_,s,x=>[s,x]
def Db:Option Value->Bool
 |some (.bool b)=>b
 |_=>false
def jn (P:Program) (t:TypeId):Nat×Option Value:=
 match P.underlying t with
 |some (.map k e)=>(match P.underlying k,P.underlying e with
  |some .string,some .bool=>(1000000,none)
  |some .string,_=>(1000002,some (((P.info? e).bind (·.zero)).getD undef))
  |_,some .bool=>(1000001,none)
  |_,_=>(0,none))
 |_=>(0,none)
def gM (g:Nat) (v:Value):Prop:=if g=1000001 then ∃s n,v= .agg ⟨[.string s,.int .i64 n]⟩ else ∃s,v= .string s
def lr (g:Nat) (v:Value):Prop:=if g=1000002 then True else ∃b,v= .bool b
open Classical in
noncomputable def wJ:List MapEntry->Value->Nat->Option (Nat×Value)
 |[],_,_=>none
 |e::es,s,i=>if e.key=s then some (i,e.val) else wJ es s (i+1)
def v8 (P:Program) (t:TypeId):Prop:=
 oD<=(jn P t).1/\∃k e,P.underlying t=some (.map k e)/\
  (∀w key em n,gM (jn P t).1 key->(Instr.checkKey em (n+2) k key).run P w= .ok () w)/\
  (∀w key es,gM (jn P t).1 key->(∀x∈es,gM (jn P t).1 x.key)->(Instr.findKey k key es).run P w= .ok (wJ es key 0) w)/\
  (∀w,(zeroValue e).run P w= .ok ((jn P t).2.getD (.bool false)) w)
def plain:SV->Option Value
 | .v x=>some x
 |_=>none
def mX:List SV->Option (List Value)
 |[]=>some []
 |s::r=>(plain s).bind fun x=>(mX r).map (x:: ·)
def po:SV->Option Value
 | .v x=>some x
 | .agg cs=>(mX cs).map fun l=> .agg ⟨l⟩
 |_=>none
def uT {l:List Value} {key:Value} {K:SV->Prop} (x:A (l,key,K) (Bool×Option Value)):Prop:=
 match x with
 | .mk (false,none)=>K (.v (.bool (Db (my l key))))
 | .mk (false,some z)=>(∀v,my l key=some v->K (.v v))/\(my l key=none->K (.v z))
 | .mk (true,some z)=>(∀v,my l key=some v->K (.tup [.v v,.v (.bool true)]))/\(my l key=none->K (.tup [.v z,.v (.bool false)]))
 |_=>False
def uS {P:Program} {t:TypeId} {c:Bool} {K:SV->Prop} (x:A (P,t,c,K) (LS×SV×Option Value)):Prop:=
 match x with
 | .mk (st,.mp k,some key)=>aP (.mk (k:=fun b:Bx=>(b.ty==(jn P t).1)=true/\v8 P t/\gM b.ty key/\aP (.mk (k:=fun l:List Value=>uT (.mk (k:=(l,key,K)) (c,(jn P t).2))) (mX b.cs))) (iv st.bx k))
 |_=>False
def qOp {P:Program} {op:Op} {K:SV->Prop} (x:A (P,op,K) (LS×bV)):Prop:=
 match op,x with
 | .move x,.mk (st,p) | .assign x,.mk (st,p)=>aP (.mk (k:=K) (cU st p x))
 | .pick (.tmp t) a b,.mk (st,p)=>aP (.mk (k:=fun g:Gd=>uK (.mk (k:=(p,a,b,st,g,K)) (Cj a b))) (Am st.rho t))
 | .nilCheck x,.mk (st,p)=>aP (.mk (k:=fun s:SV=>uR (.mk (k:=(pO st p,K)) s)) (cU st p x))
 | .binOp op t x (.const .nilIface) _,.mk (st,p)=>aP (.mk (k:=fun a:SV=>vV (.mk (k:=(P,op,t,pO st p,K)) a)) (cU st p x))
 | .binOp op t x y _,.mk (st,p)=>aP (.mk (k:=fun a:SV=>aP (.mk (k:=fun b:SV=>qy (.mk (k:=(P,op,t,pO st p,K)) (a,b))) (cU st p y))) (cU st p x))
 | .unOp op _ x,.mk (st,p)=>aP (.mk (k:=fun s:SV=>vd (.mk (k:=(op,pO st p,K)) s)) (cU st p x))
 | .convert src dst x,.mk (st,p)=>aP (.mk (k:=fun s:SV=>ry (.mk (k:=(pO st p,K)) (st,qR P src dst,s))) (cU st p x))
 | .fieldAddr s x f,.mk (st,p)=>aP (.mk (k:=fun a:SV=>aP (.mk (k:=fun fo:Nat×Option Nat×Nat=>tq (.mk (k:=(pO st p,K)) (st,a,fo.1))) (da P s f))) (cU st p x))
 | .field s x f,.mk (st,p)=>aP (.mk (k:=fun cs:List SV=>aP (.mk (k:=fun fo:Nat×Option Nat×Nat=>aP (.mk (k:=K) (vU cs fo.1 fo.2.1))) (da P s f))) ((cU st p x).bind o6))
 | .indexAddr t x i,.mk (st,p)=>aP (.mk (k:=fun a:SV=>aP (.mk (k:=fun i:SV=>aP (.mk (k:=fun e:TypeId=>uU (.mk (k:=(P,pO st p,K)) (st,e,a,i))) (iP P t))) (cU st p i))) (cU st p x))
 | .index t x i,.mk (st,p)=>aP (.mk (k:=fun a:SV=>aP (.mk (k:=fun i:SV=>wE (.mk (k:=(P,t,pO st p,K)) (a,i))) (cU st p i))) (cU st p x))
 | .slice t x lo hi none,.mk (st,p)=>aP (.mk (k:=fun a:SV=>aP (.mk (k:=fun lo:Option SV=>aP (.mk (k:=fun hi:Option SV=>vf (.mk (k:=(P,t,pO st p,K)) (a,lo,hi))) (xU st p hi))) (xU st p lo))) (cU st p x))
 | .load t a,.mk (st,p)=>aP (.mk (k:=fun a:SV=>pv (.mk (k:=(P,t,pO st p,K)) (st,a))) (cU st p a))
 | .extract x i,.mk (st,p)=>aP (.mk (k:=fun a:SV=>uV (.mk (k:=K) (a,i))) (cU st p x))
 | .build t parts,.mk (st,p)=>nO P t=true/\aP (.mk (k:=fun z:List SV=>aP (.mk (k:=fun cs:List SV=>K (.agg cs)) (vO P t st p parts.toList z))) (fB P t))
 | .call {callee:= .builtin .len,args:=⟨[x]⟩,argTypes:=⟨[t]⟩},.mk (st,p)=>aP (.mk (k:=fun a:SV=>tm (.mk (k:=(P,t,K)) (st,a))) (cU st p x))
 | .call {callee:= .builtin .min,args:=⟨[x,y]⟩,..},.mk (st,p)=>aP (.mk (k:=fun a:SV=>aP (.mk (k:=fun b:SV=>we (.mk (k:=K) (a,b))) (cU st p y))) (cU st p x))
 | .lookup t x i c,.mk (st,p)=>aP (.mk (k:=fun a:SV=>aP (.mk (k:=fun i:SV=>uS (.mk (k:=(P,t,c,K)) (st,a,po i))) (cU st p i))) (cU st p x))
 | .call {callee:= .builtin .max,args:=⟨[x,y]⟩,..},.mk (st,p)=>aP (.mk (k:=fun a:SV=>aP (.mk (k:=fun b:SV=>wg (.mk (k:=K) (a,b))) (cU st p y))) (cU st p x))
 | .call {callee:= .builtin .max,args:=⟨[x,y,z,u]⟩,..},.mk (st,p)=>aP (.mk (k:=fun a:SV=>aP (.mk (k:=fun b:SV=>aP (.mk (k:=fun c:SV=>aP (.mk (k:=fun d:SV=>vW (.mk (k:=K) (a,b,c,d))) (cU st p u))) (cU st p z))) (cU st p y))) (cU st p x))
 |_,_=>False
structure Hd where
 a:Option Addr
 n:Nat
 c:Nat
def Hd.val (h:Hd):Value:= .slice h.a h.n h.c
structure Vl where
 β:Nat->Nat
 γ:Nat->Nat->Hd
def bK (V:Vl):SV->Value
 | .v x=>x
 | .box k o=> .pointer (some ⟨V.β k,o,none⟩)
 | .vec k u=>(V.γ k u).val
 | .vp k u o=> .pointer ((V.γ k u).a.map (·.add o))
 | .mp k=> .map (some (V.β k))
 | .mv f k o=> .func (.func f) ⟨[.pointer (some ⟨V.β k,o,none⟩)]⟩ ⟨[]⟩
 |_=>undef
def nu (V:Vl):SV->Value
 | .agg cs=> .agg ⟨cs.map (bK V)⟩
 |s=>bK V s
def den (V:Vl):SV->Value
 | .tup l=> .tuple ⟨l.map (nu V)⟩
 |s=>nu V s
def sQ (d:Nat) (o o' :Option Obj):Prop:=
 match o with
 |some (.cells c _ _)=>∃c' t' f',o' =some (.cells c' t' f')/\∀j,j<d->c'[j]? =c[j]?
 |o=>o' =o
def Mem.le (m m' :Mem):Prop:=∀b,m.D b<=m'.D b/\(0<m.D b->b<m.w.heap.size/\sQ (m.D b) m.w.heap[b]? m'.w.heap[b]?)
def Hd.blk (h:Hd):Option Nat:=h.a.map (·.block)
def nW (l:List (Value×Value)):List Value:=l.flatMap fun x=>[x.1,x.2]
def ni (ty:TypeId) (vs:List Value) (o:Obj):Prop:=
 if ty<oD then o= .cells ⟨vs⟩ ty (0,0)
 else ∃es pW l,o= .map es pW/\vs=nW l/\es.toList.map (fun e=>(e.key,e.val))=l/\∀x∈l,gM ty x.1/\lr ty x.2
theorem aef (s:ByteArray):gM 1000000 (.string s)=True:=eq_true (by unfold gM;rw[af (by decide)];exact⟨s,rfl⟩)
theorem SD (s:ByteArray) (n:Int):gM 1000001 (.agg ⟨[.string s,.int .i64 n]⟩)=True:=eq_true (by unfold gM;rw[ah rfl];exact⟨s,n,rfl⟩)
theorem aee (s:ByteArray):gM 1000002 (.string s)=True:=eq_true (by unfold gM;rw[af (by decide)];exact⟨s,rfl⟩)
theorem adE (b:Bool):lr 1000000 (.bool b)=True:=eq_true (by unfold lr;rw[af (by decide)];exact⟨b,rfl⟩)
theorem adD (b:Bool):lr 1000001 (.bool b)=True:=eq_true (by unfold lr;rw[af (by decide)];exact⟨b,rfl⟩)
theorem adC (v:Value):lr 1000002 v=True:=eq_true (by unfold lr;rw[ah rfl];trivial)
def DN (V:Vl) (D:Nat->Nat) (w:World) (b:Bx):Prop:=
 (∃o,w.heap[V.β b.id]? =some o/\ni b.ty (b.cs.map (bK V)) o)/\D (V.β b.id)=0
def yM (V:Vl) (D:Nat->Nat) (w:World) (b:Vc):Prop:=
 w.ownsRow 0 b.el b.sz (V.γ b.id b.ver).val b.n b.xs/\(∀g,(V.γ b.id b.ver).blk=some g->D g<=b.n * b.sz)/\0<b.sz/\∀u∈b.xs,u.oneCell' =true
def bq (V:Vl) (H:Hp):List Nat:=H.bx.map (fun b=>V.β b.id)++H.vc.filterMap fun b=>(V.γ b.id b.ver).blk
structure HSat (V:Vl) (D:Nat->Nat) (w:World) (H:Hp):Prop where
 bx:∀b∈H.bx,DN V D w b
 vc:∀b∈H.vc,yM V D w b
 apart:(bq V H).Nodup
 uniq:(H.vc.map (·.id)).Nodup
structure Frm (F:Nat->Prop) (w:World) (D:Nat->Nat) (w' :World) (D' :Nat->Nat):Prop where
 os:w'.os=w.os
 tape:w'.tape=w.tape
 output:w'.output=w.output
 size:w.heap.size<=w'.heap.size
 same:∀b,b<w.heap.size->¬F b->w'.heap[b]? =w.heap[b]? /\D' b=D b
def Wf (w:World) (D:Nat->Nat):Prop:=∀b,w.heap.size<=b->D b=0
def FnH (P:Program) (f:FuncId) (args:List SV) (H:Hp) (m:Mem) (R:SV->Hp->Mem->Prop):Prop:=
 ∀(V:Vl) (w:World) (D:Nat->Nat),Wf w D->m.le ⟨w,D⟩->HSat V D w H->
  Calls P f ⟨args.map (den V)⟩ w fun e w' =>∃(r:SV) (V' :Vl) (D' :Nat->Nat) (H' :Hp) (m' :Mem),
   e= .returned (den V' r)/\Wf w' D' /\HSat V' D' w' H' /\(∀b∈H.bx,V'.β b.id=V.β b.id)/\(∀b∈H.vc,∀u,u<=b.ver->V'.γ b.id u=V.γ b.id u)/\
   Frm (· ∈bq V H) w D w' D' /\(∀b∈bq V' H',b∈bq V H\/w.heap.size<=b)/\
   Mem.le ⟨w,D⟩ ⟨w',D'⟩/\m.le m' /\m'.le ⟨w',D'⟩/\R r H' m'
structure Ctx where
 w0:World
 D0:Nat->Nat
 F:Nat->Prop
 H0:Hp
 V0:Vl
 m0:Mem
def gq (rho:List Gd) (p:bV):Prop:=∀x∈p,∃g,gG rho x.1=some g
def cD:List Vc->Nat->Nat->Prop
 |[],_,_=>True
 |⟨k',u',_,_,_,_⟩::r,k,u=>if k' =k then u<=u' else cD r k u
def lS (nid:Nat) (vc:List Vc):SV->Prop
 | .v _=>True
 | .box k _=>k<nid
 | .vec k u=>k<nid/\cD vc k u
 | .vp k u _=>k<nid/\cD vc k u
 | .mp k=>k<nid
 | .mv _ k _=>k<nid
 | .agg _=>True
 | .tup _=>True
def fO (nid:Nat) (vc:List Vc):List SV->Prop
 |[]=>True
 |s::r=>lS nid vc s/\fO nid vc r
def okB (nid:Nat) (vc:List Vc):SV->Prop
 | .agg cs=>fO nid vc cs
 |s=>lS nid vc s
def yn (nid:Nat) (vc:List Vc):List SV->Prop
 |[]=>True
 |s::r=>okB nid vc s/\yn nid vc r
def jv (nid:Nat) (vc:List Vc):SV->Prop
 | .tup l=>yn nid vc l
 |s=>okB nid vc s
structure SatF (n:Nat) (env:List Ev) (rho:List Gd) (a:Act) (V:Vl):Prop where
 defers:a.defers=[]
 size:a.tmps.size=n
 pth:∀e∈env,gq rho e.p
 env:∀t p s,gq rho p->gb env t p=some s->cF rho p=true->a.tmps[t]? =some (den V s)
 rho:∀g∈rho,gG rho g.i=some g/\gq rho g.p/\a.tmps[g.slot]? =some (if cF rho g.p=true then .bool g.b.val else undef)
structure SatW (C:Ctx) (bx:List Bx) (vc:List Vc) (nid:Nat) (m:Mem) (V:Vl) (D:Nat->Nat) (w:World):Prop where
 heap:HSat V D w ⟨bx,vc⟩
 wf:Wf w D
 frm:Frm C.F C.w0 C.D0 w D
 own:∀b∈bq V ⟨bx,vc⟩,C.F b\/C.w0.heap.size<=b
 baseB:∀b∈C.H0.bx,V.β b.id=C.V0.β b.id/\b.id<nid
 baseV:∀b∈C.H0.vc,(∀u,u<=b.ver->V.γ b.id u=C.V0.γ b.id u)/\b.id<nid/\cD vc b.id b.ver
 ids:(∀b∈bx,b.id<nid/\fO nid vc b.cs)/\∀b∈vc,b.id<nid
 le0:Mem.le ⟨C.w0,C.D0⟩ ⟨w,D⟩
 m0:C.m0.le m
 mle:m.le ⟨w,D⟩
structure Sat (C:Ctx) (n:Nat) (st:LS) (a:Act) (V:Vl) (D:Nat->Nat) (w:World):Prop where
 f:SatF n st.env st.rho a V
 ids:∀e∈st.env,jv st.nid st.vc e.s
 w:SatW C st.bx st.vc st.nid st.m V D w
theorem Sat.env {C:Ctx} {n:Nat} {st:LS} {a:Act} {V:Vl} {D:Nat->Nat} {w:World} (h:Sat C n st a V D w):∀t p s,gq st.rho p->gb st.env t p=some s->cF st.rho p=true->a.tmps[t]? =some (den V s):=h.f.env
theorem Sat.rho {C:Ctx} {n:Nat} {st:LS} {a:Act} {V:Vl} {D:Nat->Nat} {w:World} (h:Sat C n st a V D w):∀g∈st.rho,gG st.rho g.i=some g/\gq st.rho g.p/\a.tmps[g.slot]? =some (if cF st.rho g.p=true then .bool g.b.val else undef):=h.f.rho
theorem Sat.heap {C:Ctx} {n:Nat} {st:LS} {a:Act} {V:Vl} {D:Nat->Nat} {w:World} (h:Sat C n st a V D w):HSat V D w ⟨st.bx,st.vc⟩:=h.w.heap
theorem Sat.mle {C:Ctx} {n:Nat} {st:LS} {a:Act} {V:Vl} {D:Nat->Nat} {w:World} (h:Sat C n st a V D w):st.m.le ⟨w,D⟩:=h.w.mle
def kn (C:Ctx) (n:Nat) (st:LS) (a:Act) (w:World):Prop:=st.rho=[]/\∃V D,Sat C n st a V D w
def WP (P:Program) (n:Nat) (c:Code) (Q:Exit->LS->Prop) (st:LS):Prop:=
 ∀(C:Ctx) (a:Act) (w:World),kn C n st a w->c.wp P (fun e a' w' =>∃ak,kn C n ak a' w' /\Q e ak) a w
def kv {P:Program} {n:Nat} {c:Code} {Q:Exit->LS->Prop} (x:A (P,n,c,Q) LS):Prop:=match x with | .mk st=>WP P n c Q st
def G8 {P:Program} {f:FuncId} {R:SV->Hp->Mem->Prop} (x:A (P,f,R) (List SV×Hp×Mem)):Prop:=match x with | .mk (args,H,m)=>FnH P f args H m R
/-! Operations that act. -/
def xp:List SV->Option (List Value)
 |[]=>some []
 |s::r=>(po s).bind fun x=>(xp r).map (x:: ·)
def kp:List SV->Bool
 |[]=>true
 | .v x::r=>x.oneCell' &&kp r
 | .box _ _::r=>kp r
 | .vec _ _::r=>kp r
 | .vp _ _ _::r=>kp r
 | .mp _::r=>kp r
 | .mv _ _ _::r=>kp r
 | .agg _::_=>false
 | .tup _::_=>false
def kT:List Bx->Nat->List SV->List Bx
 |[],_,_=>[]
 |⟨k',t',dH⟩::r,k,cs=>if k' =k then⟨k',t',cs⟩::r else⟨k',t',dH⟩::kT r k cs
def pG:List Vc->Nat->Vc->List Vc
 |[],_,_=>[]
 |⟨k',u',e',z',n',x'⟩::r,k,x=>if k' =k then x::r else⟨k',u',e',z',n',x'⟩::pG r k x
def Kt (xs:List Value) (off:Nat):List Value->List Value
 |[]=>xs
 |c::r=>Kt (xs.set off c) (off+1) r
def FW {st:LS} {K:Value->LS->Prop} (x:A (st,K) Vc):Prop:=
 match x with
 | .mk b=>∀(a:Option Addr) (c:Nat) (m1:Mem),st.m.le m1->b.n<=c->aZ m1 a b.n b.sz b.xs->K (.slice a b.n c) ⟨st.env,st.rho,st.bx,st.vc,st.nid,m1⟩
def oB:List SV->(List SV->LS->Prop)->LS->Prop
 |[],K,st=>K [] st
 | .vec k u::r,K,st=>aP (.mk (k:=fun b:Vc=>FW (.mk (k:=(st,fun v ak=>oB r (fun r' lN=>K (.v v::r') lN) ak)) b)) (eU st.vc k u))
 | .v x::r,K,st=>oB r (fun r' ak=>K (.v x::r') ak) st
 | .box k o::r,K,st=>oB r (fun r' ak=>K (.box k o::r') ak) st
 | .vp k u o::r,K,st=>oB r (fun r' ak=>K (.vp k u o::r') ak) st
 | .mp k::r,K,st=>oB r (fun r' ak=>K (.mp k::r') ak) st
 | .mv f k o::r,K,st=>oB r (fun r' ak=>K (.mv f k o::r') ak) st
 | .agg cs::r,K,st=>oB r (fun r' ak=>K (.agg cs::r') ak) st
 | .tup cs::r,K,st=>oB r (fun r' ak=>K (.tup cs::r') ak) st
def mB {K:List SV->LS->Prop} (x:A K (LS×List SV)):Prop:=match x with | .mk (st,l)=>oB l K st
def Ci:List SV->(List SV->LS->Prop)->LS->Prop
 |[],K,st=>K [] st
 | .agg cs::r,K,st=>oB cs (fun dH ak=>Ci r (fun r' lN=>K (.agg dH::r') lN) ak) st
 |s::r,K,st=>oB [s] (fun s' ak=>Ci r (fun r' lN=>K (s' ++r') lN) ak) st
def oJ {K:List SV->LS->Prop} (x:A K (LS×List SV)):Prop:=match x with | .mk (st,l)=>Ci l K st
def Ag (acc:List Nat) (k:Nat):List Nat:=if acc.contains k=true then acc else acc++[k]
def kV (acc:List Nat):List SV->List Nat
 |[]=>acc
 | .box k _::r=>kV (Ag acc k) r
 | .vec k _::r=>kV (Ag acc k) r
 | .vp k _ _::r=>kV (Ag acc k) r
 | .mp k::r=>kV (Ag acc k) r
 | .mv _ k _::r=>kV (Ag acc k) r
 | .v _::r=>kV acc r
 | .agg _::r=>kV acc r
 | .tup _::r=>kV acc r
def cellsOf:Option Bx->List SV
 |some b=>b.cs
 |none=>[]
def oK (acc:List Nat):List SV->List Nat
 |[]=>acc
 | .agg cs::r=>oK (kV acc cs) r
 |s::r=>oK (kV acc [s]) r
def Aq (bx:List Bx):List Nat->List Nat->List Nat
 |acc,[]=>acc
 |acc,k::r=>Aq bx (kV acc (cellsOf (iv bx k))) r
def ur (bx:List Bx) (l:List Nat):List Nat:=Aq bx (Aq bx l l) (Aq bx l l)
def idxOf:List Nat->Nat->Option Nat
 |[],_=>none
 |j::r,i=>if j=i then some 0 else(idxOf r i).map (· +1)
def ju (L:List Nat) (base:Nat) (i:Nat):Nat:=((idxOf L i).map fun j=>j).getD (base+i)
def fC (L:List Nat) (base:Nat) (j:Nat):Nat:=(L[j]?).getD (base+j)
def nk (ρ:Nat->Nat):SV->SV
 | .box k o=> .box (ρ k) o
 | .vec k u=> .vec (ρ k) u
 | .vp k u o=> .vp (ρ k) u o
 | .mp k=> .mp (ρ k)
 | .mv f k o=> .mv f (ρ k) o
 | .v x=> .v x
 | .agg cs=> .agg cs
 | .tup cs=> .tup cs
def Ah (ρ:Nat->Nat):SV->SV
 | .agg cs=> .agg (cs.map (nk ρ))
 |s=>nk ρ s
def uP (ρ:Nat->Nat):SV->SV
 | .tup l=> .tup (l.map (Ah ρ))
 |s=>Ah ρ s
def pt (ρ:Nat->Nat):Bx->Bx |⟨k,t,cs⟩=>⟨ρ k,t,cs.map (nk ρ)⟩
def ke (ρ:Nat->Nat):Vc->Vc |⟨k,u,e,z,n,xs⟩=>⟨ρ k,u,e,z,n,xs⟩
def np:List Vc->Nat->Option Vc
 |[],_=>none
 |⟨k',u',e',z',n',x'⟩::r,i=>if k' =i then some ⟨k',u',e',z',n',x'⟩ else np r i
def gA (L:List Nat):List Bx->List Bx
 |[]=>[]
 |⟨k',t',dH⟩::r=>if L.contains k' =true then⟨k',t',dH⟩::gA L r else gA L r
def fX (L:List Nat):List Vc->List Vc
 |[]=>[]
 |⟨k',u',e',z',n',x'⟩::r=>if L.contains k' =true then⟨k',u',e',z',n',x'⟩::fX L r else fX L r
def nE (L:List Nat):List Bx->List Bx
 |[]=>[]
 |⟨k',t',dH⟩::r=>if L.contains k' =true then nE L r else⟨k',t',dH⟩::nE L r
def mZ (L:List Nat):List Vc->List Vc
 |[]=>[]
 |⟨k',u',e',z',n',x'⟩::r=>if L.contains k' =true then mZ L r else⟨k',u',e',z',n',x'⟩::mZ L r
def nQ:List Bx->Nat |[]=>0 |⟨k,_,_⟩::r=>max (k+1) (nQ r)
def nP:List Vc->Nat |[]=>0 |⟨k,_,_,_,_,_⟩::r=>max (k+1) (nP r)
structure Cfg where
 own:FuncId->Bool
 pure:FuncId->Option (Mem->List Value->Option (Prop×Value))
def vQ (st:LS) (L:List Nat) (H' :Hp) (m' :Mem):LS:=
 ⟨st.env,st.rho,H'.bx.map (pt (fC L st.nid))++nE L st.bx,H'.vc.map (ke (fC L st.nid))++mZ L st.vc,st.nid+max (nQ H'.bx) (nP H'.vc),m'⟩
def C9:List Nat->Prop
 |[]=>True
 |k::r=>r.contains k=false/\C9 r
def vh (n:Nat):List Nat->Prop
 |[]=>True
 |k::r=>k<n/\vh n r
def sb (L:List Nat):SV->Prop
 | .v _=>True
 | .box k _=>L.contains k=true
 | .vec k _=>L.contains k=true
 | .vp k _ _=>L.contains k=true
 | .mp k=>L.contains k=true
 | .mv _ k _=>L.contains k=true
 | .agg _=>True
 | .tup _=>False
def yp (L:List Nat):List SV->Prop
 |[]=>True
 |s::r=>sb L s/\yp L r
def Gz (L:List Nat):SV->Prop
 | .agg cs=>yp L cs
 |s=>sb L s
def CM (L:List Nat):List SV->Prop
 |[]=>True
 |s::r=>Gz L s/\CM L r
def Ap (L:List Nat):List Bx->Prop
 |[]=>True
 |⟨_,_,cs⟩::r=>yp L cs/\Ap L r
def KB (st:LS) (L:List Nat) (args:List SV):Prop:=C9 L/\vh st.nid L/\CM L args/\Ap L (gA L st.bx)
def sG (nB nV:List Nat) (len:Nat):SV->Prop
 | .v _=>True
 | .box j _=>if j<len then nB.contains j=true else True
 | .vec j _=>if j<len then nV.contains j=true else True
 | .vp j _ _=>if j<len then nV.contains j=true else True
 | .mp j=>if j<len then nB.contains j=true else True
 | .mv _ j _=>if j<len then nB.contains j=true else True
 | .agg _=>True
 | .tup _=>True
def yK (nB nV:List Nat) (len:Nat):List SV->Prop
 |[]=>True
 |s::r=>sG nB nV len s/\yK nB nV len r
def DL (nB nV:List Nat) (len:Nat):SV->Prop
 | .agg cs=>yK nB nV len cs
 |s=>sG nB nV len s
def DK (nB nV:List Nat) (len:Nat):List SV->Prop
 |[]=>True
 |s::r=>DL nB nV len s/\DK nB nV len r
def G6 (nB nV:List Nat) (len:Nat):SV->Prop
 | .tup l=>DK nB nV len l
 |s=>DL nB nV len s
def Az (nB nV:List Nat) (len:Nat):List Bx->Prop
 |[]=>True
 |⟨k,_,cs⟩::r=>(if k<len then nB.contains k=true else True)/\yK nB nV len cs/\Az nB nV len r
def Ay (nV:List Nat) (len:Nat):List Vc->Prop
 |[]=>True
 |⟨k,_,_,_,_,_⟩::r=>(if k<len then nV.contains k=true else True)/\Ay nV len r
def zZ (nid:Nat) (vc:List Vc):List Bx->Prop
 |[]=>True
 |⟨_,_,cs⟩::r=>fO nid vc cs/\zZ nid vc r
def Ce (L:List Nat) (fg:List Vc):List Vc->Prop
 |[]=>True
 |⟨k,u,_,_,_,_⟩::r=>(if L.contains k=true then cD fg k u else True)/\Ce L fg r
def nK:List Bx->List Nat
 |[]=>[]
 |⟨k,_,_⟩::r=>k::nK r
def mw:List Vc->List Nat
 |[]=>[]
 |⟨k,_,_,_,_,_⟩::r=>k::mw r
def gF (st:LS) (L:List Nat):Hp:=⟨(gA L st.bx).map (pt (ju L 0)),(fX L st.vc).map (ke (ju L 0))⟩
def Rb {L:List Nat} {r:SV} {H' :Hp} (x:A (L,r,H') (LS×LS×Hp)):Prop:=
 match x with
 | .mk (st,ak,Hi)=>G6 (nK Hi.bx) (mw Hi.vc) L.length r/\Az (nK Hi.bx) (mw Hi.vc) L.length H'.bx/\Ay (mw Hi.vc) L.length H'.vc/\
   jv ak.nid ak.vc (uP (fC L st.nid) r)/\zZ ak.nid ak.vc (H'.bx.map (pt (fC L st.nid)))/\Ce L (H'.vc.map (ke (fC L st.nid))) st.vc
def Jy (st:LS) (L:List Nat) (r:SV) (H' :Hp) (m' :Mem):Prop:=Rb (.mk (k:=(L,r,H')) (st,vQ st L H' m',gF st L))
def Kn {P:Program} {f:FuncId} {st:LS} {args:List SV} {K:SV->LS->Prop} (x:A (P,f,st,args,K) (List Nat)):Prop:=
 match x with
 | .mk L=>KB st L args/\G8 (.mk (k:=(P,f,fun r H' m' =>Jy st L r H' m' /\K (uP (fC L st.nid) r) (vQ st L H' m')))
   (args.map (uP (ju L 0)),gF st L,st.m))
def CD {P:Program} {f:FuncId} {K:SV->LS->Prop} (x:A (P,f,K) (LS×List SV)):Prop:=
 match x with
 | .mk (st,args)=>Kn (.mk (k:=(P,f,st,args,K)) (ur st.bx (oK [] args)))
def CC {P:Program} {f:FuncId} {st:LS} {args:List SV} {K:SV->LS->Prop} (x:A (P,f,st,args,K) Bool):Prop:=
 match x with
 | .mk true=>CD (.mk (k:=(P,f,K)) (st,args))
 | .mk false=>oJ (.mk (k:=fun jT ak=>CD (.mk (k:=(P,f,K)) (ak,jT))) (st,args))
def uQ (st:LS) (p:bV):List Operand->Option (List SV)
 |[]=>some []
 |x::r=>(cU st p x).bind fun s=>(uQ st p r).map (s:: ·)
def pq (sz:Nat) (st:LS) (p:bV):List (Nat×Operand)->List SV->Option (List SV)
 |[],cs=>some cs
 |(i,x)::r,cs=>((cU st p x).bind lI).bind fun l=>if l.length=sz then(if i * sz+sz<=cs.length then pq sz st p r (lu cs (i * sz) l) else none) else none
def uD (sz:Nat) (st:LS) (p:bV):Nat->List (Nat×Operand)->Option (List SV)
 |_,[]=>some []
 |i,(j,x)::r=>if j=i then((cU st p x).bind lI).bind fun l=>if l.length=sz then(uD sz st p (i+1) r).map (l++ ·) else none else none
def BZ (sz:Nat) (st:LS) (p:bV) (parts:List (Nat×Operand)) (len:Nat) (z:List SV):Option (List SV)->Option (List SV)
 |some cs=>if cs.length=len * sz then some cs else pq sz st p parts (List.replicate len z).flatten
 |none=>pq sz st p parts (List.replicate len z).flatten
def nN:Vc->Nat->List Value->Vc |⟨k,u,e,z,_,_⟩,n,xs=>⟨k,u+1,e,z,n,xs⟩
def room (n wY:Nat):Prop:=n * wY<=140737488355328/\n<=maxLen
def vS {P:Program} {tx:TypeId} {sz:Nat} {K:Nat->List Value->Prop} (x:A (P,tx,sz,K) (LS×SV)):Prop:=
 match x with
 | .mk (st,.vec k u)=>aP (.mk (k:=fun _:TypeId=>aP (.mk (k:=fun b:Vc=>b.sz=sz/\K b.n b.xs) (eU st.vc k u))) (iP P tx))
 | .mk (st,.v (.slice a n _))=>aP (.mk (k:=fun _:TypeId=>∃xs,aZ st.m a n sz xs/\(∀u∈xs,u.oneCell' =true)/\K n xs) (iP P tx))
 | .mk (_,.v (.string s))=>P.underlying tx=some .string/\sz=1/\K (tl s).length (jW (tl s))
 |_=>False
def An {P:Program} {e tx:TypeId} {y:SV} {K:SV->LS->Prop} (x:A (P,e,tx,y,K) (LS×SV)):Prop:=
 match x with
 | .mk (st,.vec k u)=>aP (.mk (k:=fun b:Vc=>b.sz=bX P e/\b.el=e/\0<bX P e/\aP (.mk (k:=fun z:List SV=>z.length=bX P e/\vS (.mk (k:=(P,tx,bX P e,fun n xs=>room (b.n+n) (od P e)/\
   K (.vec k (u+1)) ⟨st.env,st.rho,st.bx,pG st.vc k (nN b (b.n+n) (b.xs++xs)),st.nid,st.m⟩)) (st,y))) (fB P e))) (eU st.vc k u))
 | .mk (st,.v (.slice none 0 0))=>0<bX P e/\aP (.mk (k:=fun z:List SV=>z.length=bX P e/\vS (.mk (k:=(P,tx,bX P e,fun n xs=>room n (od P e)/\
   K (.vec st.nid 0) ⟨st.env,st.rho,st.bx,⟨st.nid,0,e,bX P e,n,xs⟩::st.vc,st.nid+1,st.m⟩)) (st,y))) (fB P e))
 |_=>False
def F2 {sz:Nat} {cs:List SV} {K:SV->LS->Prop} (x:A (sz,cs,K) (LS×SV)):Prop:=
 match x with
 | .mk (st,.box k o)=>aP (.mk (k:=fun b:Bx=>b.ty<oD/\0<sz/\cs.length=sz/\kp cs=true/\fO st.nid st.vc cs/\o+cs.length<=b.cs.length/\K (.v undef) ⟨st.env,st.rho,kT st.bx k (lu b.cs o cs),st.vc,st.nid,st.m⟩) (iv st.bx k))
 |_=>False
def Gv {P:Program} {e:TypeId} {z:List Value} {K:SV->LS->Prop} (x:A (P,e,z,K) (LS×SV×SV)):Prop:=
 match x with
 | .mk (st,.v (.int _ l),.v (.int _ cp))=>0<=l/\l<=cp/\room cp.toNat (od P e)/\z.length=bX P e/\0<bX P e/\kp (z.map .v)=true/\
   K (.vec st.nid 0) ⟨st.env,st.rho,st.bx,⟨st.nid,0,e,bX P e,l.toNat,(List.replicate l.toNat z).flatten⟩::st.vc,st.nid+1,st.m⟩
 |_=>False
def iY (P:Program) (f:FuncId):Bool:=
 match P.funcs[f]? with
 |some fn=> !(fn.name== "runtime.NumGoroutine")&&fn.body.isSome
 |none=>false
def Cr {c:Cfg} {P:Program} {l:List SV} {K:SV->LS->Prop} (x:A (c,P,l,K) (LS×SV)):Prop:=
 match x with
 | .mk (st,.v (.func (.func f) ⟨[]⟩ ⟨[]⟩))=>iY P f=true/\CC (.mk (k:=(P,f,st,l,K)) (c.own f))
 | .mk (st,.mv f k o)=>iY P f=true/\CC (.mk (k:=(P,f,st,.box k o::l,K)) (c.own f))
 |_=>False
def Gu {f:FuncId} {K:SV->LS->Prop} (x:A (f,K) (LS×SV)):Prop:=
 match x with
 | .mk (st,.box k o)=>K (.mv f k o) st
 |_=>False
def F3 {P:Program} {t:TypeId} {K:SV->LS->Prop} (x:A (P,t,K) (LS×SV×Option Value×Option Value)):Prop:=
 match x with
 | .mk (st,.mp k,some key,some v)=>aP (.mk (k:=fun b:Bx=>(b.ty==(jn P t).1)=true/\v8 P t/\gM b.ty key/\lr b.ty v/\aP (.mk (k:=fun l:List Value=>K (.v undef) ⟨st.env,st.rho,kT st.bx k ((wh l key v).map .v),st.vc,st.nid,st.m⟩) (mX b.cs))) (iv st.bx k))
 |_=>False
def oS {c:Cfg} {P:Program} {op:Op} {K:SV->LS->Prop} (x:A (c,P,op,K) (LS×bV)):Prop:=
 match op,x with
 | .alloc t,.mk (st,_)=>aP (.mk (k:=fun cs:List SV=>t<oD/\fO st.nid st.vc cs/\K (.box st.nid 0) ⟨st.env,st.rho,⟨st.nid,t,cs⟩::st.bx,st.vc,st.nid+1,st.m⟩) (fB P t))
 | .box t x,.mk (st,p)=>aP (.mk (k:=fun cs:List SV=>t<oD/\fO st.nid st.vc cs/\K (.box st.nid 0) ⟨st.env,st.rho,⟨st.nid,t,cs⟩::st.bx,st.vc,st.nid+1,st.m⟩) ((cU st p x).bind lI))
 | .store t a x,.mk (st,p)=>aP (.mk (k:=fun a:SV=>aP (.mk (k:=fun cs:List SV=>F2 (.mk (k:=(bX P t,cs,K)) (st,a))) ((cU st p x).bind lI))) (cU st p a))
 | .buildSlice t len parts,.mk (st,p)=>aP (.mk (k:=fun e:TypeId=>aP (.mk (k:=fun z:List SV=>z.length=bX P e/\0<bX P e/\len * bX P e<=16777216/\
   aP (.mk (k:=fun cs:List SV=>mB (.mk (k:=fun dH ak=>aP (.mk (k:=fun l:List Value=>kp dH=true/\
    K (.vec ak.nid 0) ⟨ak.env,ak.rho,ak.bx,⟨ak.nid,0,e,bX P e,len,l⟩::ak.vc,ak.nid+1,ak.m⟩) (mX dH))) (st,cs)))
    (BZ (bX P e) st p parts.toList len z (uD (bX P e) st p 0 parts.toList)))) (fB P e))) (iP P t))
 | .call {callee:= .builtin .append,args:=⟨[s,x]⟩,argTypes:=⟨[t,tx]⟩},.mk (st,p)=>
   aP (.mk (k:=fun s:SV=>aP (.mk (k:=fun y:SV=>aP (.mk (k:=fun e:TypeId=>An (.mk (k:=(P,e,tx,y,K)) (st,s))) (iP P t))) (cU st p x))) (cU st p s))
 | .makeSlice t l cp,.mk (st,p)=>aP (.mk (k:=fun l:SV=>aP (.mk (k:=fun cp:SV=>aP (.mk (k:=fun e:TypeId=>aP (.mk (k:=fun z:List Value=>Gv (.mk (k:=(P,e,z,K)) (st,l,cp))) ((fB P e).bind mX))) (iP P t))) (cU st p cp))) (cU st p l))
 | .makeMap t none,.mk (st,_)=>v8 P t/\K (.mp st.nid) ⟨st.env,st.rho,⟨st.nid,(jn P t).1,[]⟩::st.bx,st.vc,st.nid+1,st.m⟩
 | .makeFunc (.func f) ⟨[r]⟩ ⟨[]⟩,.mk (st,p)=>aP (.mk (k:=fun s:SV=>Gu (.mk (k:=(f,K)) (st,s))) (cU st p r))
 | .mapUpdate t m k x,.mk (st,p)=>aP (.mk (k:=fun a:SV=>aP (.mk (k:=fun i:SV=>aP (.mk (k:=fun y:SV=>F3 (.mk (k:=(P,t,K)) (st,a,po i,po y))) (cU st p x))) (cU st p k))) (cU st p m))
 | .call {callee:= .value f,args,..},.mk (st,p)=>aP (.mk (k:=fun l:List SV=>aP (.mk (k:=fun f:SV=>Cr (.mk (k:=(c,P,l,K)) (st,f))) (cU st p f))) (uQ st p args.toList))
 |_,_=>False
inductive OpK where
 |qt
 |pu (F:Mem->List Value->Option (Prop×Value))
 |ac
def pk:Option (Mem->List Value->Option (Prop×Value))->OpK
 |some F=> .pu F
 |none=> .ac
def gW (c:Cfg):Op->OpK
 | .move _ | .assign _ | .pick .. | .nilCheck _ | .binOp .. | .unOp .. | .convert .. | .fieldAddr .. | .field .. | .indexAddr .. | .index .. | .slice .. | .load .. | .extract .. | .build .. | .lookup .. => .qt
 | .call {callee:= .builtin .len,..}=> .qt
 | .call {callee:= .builtin .min,..}=> .qt
 | .call {callee:= .builtin .max,..}=> .qt
 | .call {callee:= .value (.func f),..}=>pk (c.pure f)
 |_=> .ac
def zq:Op->List Operand
 | .call {args,..}=>args.toList
 |_=>[]
def JV {F:List Value->Option (Prop×Value)} {u:Prop->Prop} {K:SV->Prop} (x:A (F,u,K) (Option (List SV))):Prop:=
 match x with
 | .mk l=>aP (.mk (k:=fun y:Prop×Value=>u y.1/\K (.v y.2)) ((l.bind xp).bind F))
/-! A region, in the order of the text. -/
def lQ:List Gd->Nat->Bool->List Gd
 |[],_,_=>[]
 |⟨i',t',p',b'⟩::r,j,x=>if i' =j then⟨i',t',p',.lit x⟩::lQ r j x else⟨i',t',p',b'⟩::lQ r j x
def rB {j:Nat} {w:Bool} {dead live:LS->Prop} (x:A (j,w,dead,live) (LS×Gd)):Prop:=
 match w,x with
 |true,.mk (st,⟨_,t,q,.sym b⟩)=>
   (b=true->live ⟨⟨t,q,.v (.bool true)⟩::st.env,lQ st.rho j true,st.bx,st.vc,st.nid,st.m⟩)/\
   (b=false->dead ⟨⟨t,q,.v (.bool false)⟩::st.env,lQ st.rho j false,st.bx,st.vc,st.nid,st.m⟩)
 |false,.mk (st,⟨_,t,q,.sym b⟩)=>
   (b=false->live ⟨⟨t,q,.v (.bool false)⟩::st.env,lQ st.rho j false,st.bx,st.vc,st.nid,st.m⟩)/\
   (b=true->dead ⟨⟨t,q,.v (.bool true)⟩::st.env,lQ st.rho j true,st.bx,st.vc,st.nid,st.m⟩)
 |true,.mk (st,⟨_,_,_,.lit true⟩)=>live st
 |false,.mk (st,⟨_,_,_,.lit false⟩)=>live st
 |true,.mk (st,⟨_,_,_,.lit false⟩)=>dead st
 |false,.mk (st,⟨_,_,_,.lit true⟩)=>dead st
def Fs:bV->(LS->Prop)->(LS->Prop)->LS->Prop
 |[],_,live,st=>live st
 |(j,w)::p,dead,live,st=>Fs p dead (fun ak=>aP (.mk (k:=fun g:Gd=>rB (.mk (k:=(j,w,dead,live)) (ak,g))) (gG ak.rho j))) st
def FR {dead live:LS->Prop} (x:A (dead,live) (LS×bV)):Prop:=match x with | .mk (st,p)=>Fs p dead live st
def put (st:LS) (d:Option Nat) (p:bV) (s:SV):LS:=
 match d with
 |some d=>⟨⟨d,p,s⟩::st.env,st.rho,st.bx,st.vc,st.nid,st.m⟩
 |none=>st
def mq (st:LS) (i:Nat) (d:Option Nat) (p:bV) (mv:Bool) (s:SV):LS:=
 match mv,d,s with
 |true,some d,.v (.bool b)=>⟨st.env,⟨i,d,p,.sym b⟩::st.rho,st.bx,st.vc,st.nid,st.m⟩
 |_,_,_=>st
def oy:Op->Bool
 | .move _=>true
 |_=>false
def pathOf (st:LS):Option (Nat×Bool)->Option bV
 |none=>some []
 |some (j,w)=>(gG st.rho j).map fun g=>(j,w)::g.p
def mr (st:LS) (i:Nat) (d:Option Nat) (p:bV) (mv:Bool):LS:=
 match mv,d with
 |true,some d=>⟨st.env,⟨i,d,p,.sym false⟩::st.rho,st.bx,st.vc,st.nid,st.m⟩
 |_,_=>st
def xV {c:Cfg} {P:Program} {i:Nat} {o:Oper} {K:LS->Prop} {q:OpK} {dead:Bool} (x:A (c,P,i,o,K,q,dead) (LS×bV)):Prop:=
 match dead,q,x with
 |true,_,.mk (st,p)=>K (mr (put st o.dst p (.v undef)) i o.dst p (oy o.op))
 |false,.qt,.mk (st,p)=>qOp (.mk (k:=(P,o.op,fun s=>jv st.nid st.vc s/\K (mq (put st o.dst p s) i o.dst p (oy o.op) s))) (st,p))
 |false,.pu F,.mk (st,p)=>JV (.mk (k:=(F st.m,pO st p,fun s=>K (put st o.dst p s))) (uQ st p (zq o.op)))
 |false,.ac,.mk (st,p)=>FR (.mk (k:=(fun ak=>K (put ak o.dst p (.v undef)),fun ak=>oS (.mk (k:=(c,P,o.op,fun s lN=>jv lN.nid lN.vc s/\K (put lN o.dst p s))) (ak,p)))) (st,p))
def kD:List Gd->Option Nat->Bool
 |[],_=>false
 |_::_,none=>false
 |⟨_,t',_,_⟩::r,some d=>if t' =d then true else kD r (some d)
def CJ {c:Cfg} {P:Program} {i:Nat} {o:Oper} {K:LS->Prop} {st:LS} {p:bV} (x:A (c,P,i,o,K,st,p) (OpK×Bool×Bool)):Prop:=
 match x with
 | .mk (q,dead,false)=>xV (.mk (k:=(c,P,i,o,K,q,dead)) (st,p))
 | .mk (_,_,true)=>False
def one {c:Cfg} {P:Program} {i:Nat} {o:Oper} {K:LS->Prop} (x:A (c,P,i,o,K) (LS×bV)):Prop:=
 match x with
 | .mk (st,p)=>CJ (.mk (k:=(c,P,i,o,K,st,p)) (gW c o.op,v7 st.rho p,kD st.rho o.dst))
def jm:List Nat->Nat->Bool
 |[],_=>false
 |y::r,x=>if y=x then true else jm r x
def nF:List Nat->List Ev->List Ev
 |_,[]=>[]
 |dead,⟨t,[],s⟩::r=>if jm dead t=true then nF dead r else⟨t,[],s⟩::nF dead r
 |dead,⟨t,_::_,_⟩::r=>nF (t::dead) r
def clean (st:LS):LS:=⟨nF [] st.env,[],st.bx,st.vc,st.nid,st.m⟩
def CH (c:Cfg) (P:Program):List Oper->Nat->(LS->Prop)->LS->Prop
 |[],_,K,st=>K (clean st)
 |o::r,i,K,st=>aP (.mk (k:=fun p:bV=>one (.mk (k:=(c,P,i,o,fun ak=>CH c P r (i+1) K ak)) (st,p))) (pathOf st o.guard))
def AD {c:Cfg} {P:Program} {i:Nat} {l:List Oper} {K:LS->Prop} (x:A (c,P,i,l,K) LS):Prop:=match x with | .mk st=>CH c P l i K st
/-! Code. -/
def sS:SV->Option Bool
 | .v (.bool b)=>some b
 |_=>none
def mC:Code->Bool
 | .ret | .exit _ | .goto _ | .loop _=>false
 | .seq a b=>mC a&&mC b
 | .cond _ a b=>mC a||mC b
 |_=>true
def j9 (K:LS->Prop) (Q:Exit->LS->Prop):Exit->LS->Prop
 | .normal,st=>K st
 |e,st=>Q e st
def Cs (l:Nat) (J:LS->Prop) (Q:Exit->LS->Prop):Exit->LS->Prop
 | .goto l',st=>l' =l/\J st
 |e,st=>Q e st
def qe (id:Nat) (Q:Exit->LS->Prop):Exit->LS->Prop
 | .exit id',st=>if id' =id then Q .normal st else Q (.exit id') st
 |e,st=>Q e st
def nj (c:Cfg) (P:Program) (n:Nat):Code->(Exit->LS->Prop)->LS->Prop
 | .skip,Q,st=>Q .normal st
 | .region _ ⟨ops⟩ false,Q,st=>AD (.mk (k:=(c,P,0,ops,Q .normal)) st)
 | .seq (.cond x a b) rest,Q,st=>
  match mC a&&mC b with
  |true=>kv (.mk (k:=(P,n,.seq (.cond x a b) rest,Q)) st)
  |false=>aP (.mk (k:=fun t:Bool=>(t=true->nj c P n a (j9 (nj c P n rest Q) Q) st)/\(t=false->nj c P n b (j9 (nj c P n rest Q) Q) st)) ((cU st [] x).bind sS))
 | .seq a b,Q,st=>nj c P n a (j9 (nj c P n b Q) Q) st
 | .cond x a b,Q,st=>aP (.mk (k:=fun t:Bool=>(t=true->nj c P n a Q st)/\(t=false->nj c P n b Q st)) ((cU st [] x).bind sS))
 | .block id a,Q,st=>nj c P n a (qe id Q) st
 | .exit id,Q,st=>Q (.exit id) st
 | .ret,Q,st=>Q .ret st
 | .label _,Q,st=>Q .normal st
 | .goto l,Q,st=>Q (.goto l) st
 |x,Q,st=>kv (.mk (k:=(P,n,x,Q)) st)
def eb {c:Cfg} {P:Program} {n:Nat} {x:Code} {Q:Exit->LS->Prop} (y:A (c,P,n,x,Q) LS):Prop:=match y with | .mk st=>nj c P n x Q st
def La {c:Cfg} {P:Program} {n:Nat} {t e:Code} {Q:Exit->LS->Prop} {st:LS} (y:A (c,P,n,t,e,Q,st) Bool):Prop:=
 match y with
 | .mk b=>(b=true->eb (.mk (k:=(c,P,n,t,Q)) st))/\(b=false->eb (.mk (k:=(c,P,n,e,Q)) st))
/-! Results, loops, joins. -/
def xS:List SV->SV
 |[x]=>x
 |l=> .tup l
def FV (P:Program) (st:LS) (t:TypeId):Option SV->Option SV
 |some (.box k o)=>(iv st.bx k).bind fun b=>if b.ty<oD then(eR P t).bind fun ag=>vU b.cs o ag else none
 |_=>none
def pJ (P:Program) (st:LS):List ResultVar->Option (List SV)
 |[]=>some []
 | .tmp t::r=>((gb st.env t []).bind nH).bind fun s=>(pJ P st r).map (s:: ·)
 | .cell a t::r=>((FV P st t (gb st.env a [])).bind nH).bind fun s=>(pJ P st r).map (s:: ·)
def KR {st:LS} {l:List SV} {R:SV->Hp->Mem->Prop} (x:A (st,l,R) (List Nat)):Prop:=
 match x with
 | .mk L=>R (xS l) ⟨gA L st.bx,fX L st.vc⟩ st.m
def Av (P:Program) (res:List ResultVar) (uX:List Nat) (R:SV->Hp->Mem->Prop):Exit->LS->Prop
 | .ret,st=>aP (.mk (k:=fun l:List SV=>KR (.mk (k:=(st,l,R)) (ur st.bx (oK uX l)))) (pJ P st res))
 | .normal,st=>aP (.mk (k:=fun l:List SV=>KR (.mk (k:=(st,l,R)) (ur st.bx (oK uX l)))) (pJ P st res))
 |_,_=>False
def u7 (i:Nat):List SV->List Ev
 |[]=>[]
 |s::r=>⟨i,[],s⟩::u7 (i+1) r
def Ar (H:Hp):List Nat:=H.bx.map (·.id)++H.vc.map (·.id)
def C1 (args:List SV) (H:Hp) (m:Mem):LS:=⟨u7 0 args,[],H.bx,H.vc,max (nQ H.bx) (nP H.vc),m⟩
/-! What a function starts from; the head of a loop. -/
def CK (nid:Nat) (vc:List Vc):List SV->Prop
 |[]=>True
 |s::r=>jv nid vc s/\CK nid vc r
def Fl (args:List SV) (H:Hp):Prop:=CK (max (nQ H.bx) (nP H.vc)) H.vc args/\zZ (max (nQ H.bx) (nP H.vc)) H.vc H.bx
def CL (nid:Nat) (vc:List Vc):List Ev->Prop
 |[]=>True
 |⟨_,_,s⟩::r=>jv nid vc s/\CL nid vc r
def Ak (nid:Nat) (vc:List Vc):List Bx->Prop
 |[]=>True
 |⟨k,_,cs⟩::r=>k<nid/\fO nid vc cs/\Ak nid vc r
def Aj (nid:Nat):List Vc->Prop
 |[]=>True
 |⟨k,_,_,_,_,_⟩::r=>k<nid/\Aj nid r
def pL (st:LS):Prop:=CL st.nid st.vc st.env/\Ak st.nid st.vc st.bx/\Aj st.nid st.vc
def Al (st:LS):List Ev->Prop
 |[]=>True
 |⟨t,p,s⟩::r=>gb st.env t []=some s/\p=[]/\Al st r
def rZ (st:LS):List Bx->Prop
 |[]=>True
 |⟨k,t,cs⟩::r=>iv st.bx k=some ⟨k,t,cs⟩/\iv r k=none/\rZ st r
def rY (st:LS):List Vc->Prop
 |[]=>True
 |⟨k,u,e,z,n,xs⟩::r=>np st.vc k=some ⟨k,u,e,z,n,xs⟩/\np r k=none/\rY st r
def ae (m m' :Mem):Prop:=m=m' \/m.le m'
theorem aah (m:Mem):ae m m=True:=eq_true (.inl rfl)
def Match (st ak:LS):Prop:=Al st ak.env/\ak.rho=[]/\rZ st ak.bx/\rY st ak.vc/\ae ak.m st.m
section
variable {c:Cfg} {P:Program} {n i:Nat}
theorem abt {K:LS->Prop} {st:LS}:AD (.mk (k:=(c,P,i,[],K)) st)=K (clean st):=rfl
theorem Zc {K:LS->Prop} {st:LS} {o:Oper} {r:List Oper}:AD (.mk (k:=(c,P,i,o::r,K)) st)=
  aP (.mk (k:=fun p:bV=>one (.mk (k:=(c,P,i,o,fun ak=>AD (.mk (k:=(c,P,i+1,r,K)) ak))) (st,p))) (pathOf st o.guard)):=rfl
theorem ZZ {K:List SV->LS->Prop} {st:LS}:mB (.mk (k:=K) (st,[]))=K [] st:=rfl
theorem ZY {K:List SV->LS->Prop} {st:LS} {k u:Nat} {r:List SV}:mB (.mk (k:=K) (st,.vec k u::r))=
  aP (.mk (k:=fun b:Vc=>FW (.mk (k:=(st,fun v ak=>mB (.mk (k:=fun r' lN=>K (.v v::r') lN) (ak,r)))) b)) (eU st.vc k u)):=rfl
theorem adZ {K:List SV->LS->Prop} {st:LS} {x:Value} {r:List SV}:mB (.mk (k:=K) (st,.v x::r))=mB (.mk (k:=fun r' ak=>K (.v x::r') ak) (st,r)):=rfl
theorem Z0 {K:List SV->LS->Prop} {st:LS} {k u:Nat} {r:List SV}:mB (.mk (k:=K) (st,.box k u::r))=mB (.mk (k:=fun r' ak=>K (.box k u::r') ak) (st,r)):=rfl
theorem abT {K:List SV->LS->Prop} {st:LS} {k u o:Nat} {r:List SV}:mB (.mk (k:=K) (st,.vp k u o::r))=mB (.mk (k:=fun r' ak=>K (.vp k u o::r') ak) (st,r)):=rfl
theorem abV {K:List SV->LS->Prop} {st:LS} {k:Nat} {r:List SV}:mB (.mk (k:=K) (st,.mp k::r))=mB (.mk (k:=fun r' ak=>K (.mp k::r') ak) (st,r)):=rfl
theorem abU {K:List SV->LS->Prop} {st:LS} {f:FuncId} {k o:Nat} {r:List SV}:mB (.mk (k:=K) (st,.mv f k o::r))=mB (.mk (k:=fun r' ak=>K (.mv f k o::r') ak) (st,r)):=rfl
theorem abS {K:List SV->LS->Prop} {st:LS} {k:Nat} {r:List SV}:oJ (.mk (k:=K) (st,.mp k::r))=oJ (.mk (k:=fun r' ak=>K (.mp k::r') ak) (st,r)):=rfl
theorem abR {K:List SV->LS->Prop} {st:LS} {f:FuncId} {k o:Nat} {r:List SV}:oJ (.mk (k:=K) (st,.mv f k o::r))=oJ (.mk (k:=fun r' ak=>K (.mv f k o::r') ak) (st,r)):=rfl
theorem ZV {K:List SV->LS->Prop} {st:LS}:oJ (.mk (k:=K) (st,[]))=K [] st:=rfl
theorem ZX {K:List SV->LS->Prop} {st:LS} {cs r:List SV}:oJ (.mk (k:=K) (st,.agg cs::r))=
  mB (.mk (k:=fun dH ak=>oJ (.mk (k:=fun r' lN=>K (.agg dH::r') lN) (ak,r))) (st,cs)):=rfl
theorem adY {K:List SV->LS->Prop} {st:LS} {x:Value} {r:List SV}:oJ (.mk (k:=K) (st,.v x::r))=oJ (.mk (k:=fun r' ak=>K (.v x::r') ak) (st,r)):=rfl
theorem ZW {K:List SV->LS->Prop} {st:LS} {k u:Nat} {r:List SV}:oJ (.mk (k:=K) (st,.box k u::r))=oJ (.mk (k:=fun r' ak=>K (.box k u::r') ak) (st,r)):=rfl
theorem ZU {K:List SV->LS->Prop} {st:LS} {k u:Nat} {r:List SV}:oJ (.mk (k:=K) (st,.vec k u::r))=
  aP (.mk (k:=fun b:Vc=>FW (.mk (k:=(st,fun v ak=>oJ (.mk (k:=fun r' lN=>K (.v v::r') lN) (ak,r)))) b)) (eU st.vc k u)):=rfl
theorem YG {dead live:LS->Prop} {st:LS}:FR (.mk (k:=(dead,live)) (st,[]))=live st:=rfl
theorem XC {dead live:LS->Prop} {st:LS} {j:Nat} {w:Bool} {p:bV}:FR (.mk (k:=(dead,live)) (st,(j,w)::p))=
  FR (.mk (k:=(dead,fun ak=>aP (.mk (k:=fun g:Gd=>rB (.mk (k:=(j,w,dead,live)) (ak,g))) (gG ak.rho j)))) (st,p)):=rfl
variable {Q:Exit->LS->Prop} {st:LS}
theorem Zd:eb (.mk (k:=(c,P,n,.skip,Q)) st)=Q .normal st:=rfl
theorem WM {id:Nat} {l:List Oper}:eb (.mk (k:=(c,P,n,.region id ⟨l⟩ false,Q)) st)=AD (.mk (k:=(c,P,0,l,Q .normal)) st):=rfl
theorem Zp {id:Nat} {l:Array Oper}:eb (.mk (k:=(c,P,n,.region id l true,Q)) st)=kv (.mk (k:=(P,n,.region id l true,Q)) st):=by cases l;rfl
theorem Zm {x:Operand} {t e rest:Code} (h:(mC t&&mC e)=true):eb (.mk (k:=(c,P,n,.seq (.cond x t e) rest,Q)) st)=kv (.mk (k:=(P,n,.seq (.cond x t e) rest,Q)) st):=by
 simp only[eb,nj,h]
theorem adB {x:Operand} {t e rest:Code} (h:(mC t&&mC e)=false):eb (.mk (k:=(c,P,n,.seq (.cond x t e) rest,Q)) st)=
  aP (.mk (k:=fun b:Bool=>La (.mk (k:=(c,P,n,t,e,j9 (fun ak=>eb (.mk (k:=(c,P,n,rest,Q)) ak)) Q,st)) b)) ((cU st [] x).bind sS)):=by
 simp only[eb,nj,h];rfl
theorem Zf {id:Nat} {l:Array Oper} {d:Bool} {b:Code}:eb (.mk (k:=(c,P,n,.seq (.region id l d) b,Q)) st)=eb (.mk (k:=(c,P,n,.region id l d,j9 (fun ak=>eb (.mk (k:=(c,P,n,b,Q)) ak)) Q)) st):=rfl
theorem Zj {id:Nat} {a b:Code}:eb (.mk (k:=(c,P,n,.seq (.block id a) b,Q)) st)=eb (.mk (k:=(c,P,n,.block id a,j9 (fun ak=>eb (.mk (k:=(c,P,n,b,Q)) ak)) Q)) st):=rfl
theorem Ze {x y b:Code}:eb (.mk (k:=(c,P,n,.seq (.seq x y) b,Q)) st)=eb (.mk (k:=(c,P,n,.seq x y,j9 (fun ak=>eb (.mk (k:=(c,P,n,b,Q)) ak)) Q)) st):=rfl
theorem Zi {x b:Code}:eb (.mk (k:=(c,P,n,.seq (.loop x) b,Q)) st)=kv (.mk (k:=(P,n,.loop x,j9 (fun ak=>eb (.mk (k:=(c,P,n,b,Q)) ak)) Q)) st):=rfl
theorem Zg {x b:Code}:eb (.mk (k:=(c,P,n,.seq (.scope x) b,Q)) st)=kv (.mk (k:=(P,n,.scope x,j9 (fun ak=>eb (.mk (k:=(c,P,n,b,Q)) ak)) Q)) st):=rfl
theorem Zh {b:Code}:eb (.mk (k:=(c,P,n,.seq .skip b,Q)) st)=eb (.mk (k:=(c,P,n,b,Q)) st):=rfl
theorem Zq {x:Operand} {t e:Code}:eb (.mk (k:=(c,P,n,.cond x t e,Q)) st)=
  aP (.mk (k:=fun b:Bool=>La (.mk (k:=(c,P,n,t,e,Q,st)) b)) ((cU st [] x).bind sS)):=rfl
theorem XW {id:Nat} {a:Code}:eb (.mk (k:=(c,P,n,.block id a,Q)) st)=eb (.mk (k:=(c,P,n,a,qe id Q)) st):=rfl
theorem Zl {a:Code}:eb (.mk (k:=(c,P,n,.loop a,Q)) st)=kv (.mk (k:=(P,n,.loop a,Q)) st):=rfl
theorem XU {a:Code}:eb (.mk (k:=(c,P,n,.scope a,Q)) st)=kv (.mk (k:=(P,n,.scope a,Q)) st):=rfl
theorem Zo {id:Nat}:eb (.mk (k:=(c,P,n,.exit id,Q)) st)=Q (.exit id) st:=rfl
theorem XV {l:Nat}:eb (.mk (k:=(c,P,n,.label l,Q)) st)=Q .normal st:=rfl
theorem Zn {l:Nat}:eb (.mk (k:=(c,P,n,.goto l,Q)) st)=Q (.goto l) st:=rfl
theorem Zk {l:Nat} {b:Code}:eb (.mk (k:=(c,P,n,.seq (.label l) b,Q)) st)=eb (.mk (k:=(c,P,n,b,Q)) st):=rfl
theorem abu:eb (.mk (k:=(c,P,n,.ret,Q)) st)=Q .ret st:=rfl
end
attribute [go_sem] GB.val.eq_1 GB.val.eq_2 oD.eq_1 qj.eq_1 qj.eq_2 qj.eq_3 nZ.eq_1 nZ.eq_2 gb.eq_1 gb.eq_2 gG.eq_1 gG.eq_2 Am.eq_1 Am.eq_2 iv.eq_1 iv.eq_2 eU.eq_1 eU.eq_2 oM.eq_1 cF.eq_1 cF.eq_2 xO.eq_1 xO.eq_2 xO.eq_3 v7.eq_1 v7.eq_2 pO.eq_1 cU.eq_1 cU.eq_2 cU.eq_3 cU.eq_4 aP.eq_1 aP.eq_2 arith.eq_1 arith.eq_2 jJ.eq_1 jJ.eq_2 jJ.eq_3 jJ.eq_4 jJ.eq_5 jJ.eq_6 jJ.eq_7 jJ.eq_8 jJ.eq_9 jJ.eq_10 jJ.eq_11 jJ.eq_12 jJ.eq_13 jJ.eq_14 jJ.eq_15 jJ.eq_16 jJ.eq_17 rK.eq_1 rK.eq_2 rK.eq_3 rK.eq_4 rK.eq_5 rK.eq_6 nG.eq_1 nG.eq_2 nG.eq_3 nG.eq_4 ig.eq_1 ig.eq_2 ig.eq_3 nU.eq_1 nU.eq_2 nU.eq_3 nU.eq_4 jr.eq_1 jr.eq_2 jr.eq_3 wv.eq_1 wv.eq_2 lI.eq_1 lI.eq_2 lI.eq_3 lI.eq_4 lI.eq_5 o6.eq_1 o6.eq_2 o6.eq_3 qz.eq_1 qz.eq_2 qz.eq_3 qy.eq_1 qy.eq_2 qy.eq_3 qy.eq_4 qy.eq_5 qy.eq_6 vJ.eq_1 vJ.eq_2 uW.eq_1 uW.eq_2 uW.eq_3 uW.eq_4 uW.eq_5 uW.eq_6 td.eq_1 td.eq_2 td.eq_3 td.eq_4 td.eq_5 td.eq_6 td.eq_7 td.eq_8 vU.eq_1 vU.eq_2 lu.eq_1 lu.eq_2 Cj.eq_1 Cj.eq_2 Cj.eq_3 uL.eq_1 uL.eq_2 uL.eq_3 uL.eq_4 ri.eq_1 ri.eq_2 ri.eq_3 xU.eq_1 xU.eq_2 vO.eq_1 vO.eq_2 uR.eq_1 uR.eq_2 uR.eq_3 vd.eq_1 vd.eq_2 vd.eq_3 vV.eq_1 vV.eq_2 rs.eq_1 rs.eq_2 Cs.eq_1 Cs.eq_2 ry.eq_1 ry.eq_2 ry.eq_3 ry.eq_4 ry.eq_5 tq.eq_1 tq.eq_2 tq.eq_3 tq.eq_4 uU.eq_1 uU.eq_2 uU.eq_3 wE.eq_1 wE.eq_2 Ky.eq_1 vf.eq_1 vf.eq_2 vf.eq_3 yl.eq_1 yl.eq_2 xT.eq_1 xT.eq_2 uT.eq_1 uT.eq_2 uT.eq_3 uT.eq_4 uS.eq_1 uS.eq_2 pv.eq_1 pv.eq_2 pv.eq_3 pv.eq_4 nH.eq_1 nH.eq_2 nH.eq_3 nH.eq_4 nH.eq_5 nH.eq_6 nH.eq_7 nH.eq_8 uV.eq_1 uV.eq_2 uV.eq_3 tm.eq_1 tm.eq_2 tm.eq_3 tm.eq_4 we.eq_1 we.eq_2 wg.eq_1 wg.eq_2 vW.eq_1 vW.eq_2 uK.eq_1 uK.eq_2 uK.eq_3 qOp.eq_1 qOp.eq_2 qOp.eq_3 qOp.eq_4 qOp.eq_5 qOp.eq_6 qOp.eq_7 qOp.eq_8 qOp.eq_9 qOp.eq_10 qOp.eq_11 qOp.eq_12 qOp.eq_13 qOp.eq_14 qOp.eq_15 qOp.eq_16 qOp.eq_17 qOp.eq_18 qOp.eq_19 qOp.eq_20 qOp.eq_21 qOp.eq_22 plain.eq_1 plain.eq_2 mX.eq_1 mX.eq_2 po.eq_1 po.eq_2 po.eq_3 xp.eq_1 xp.eq_2 kp.eq_1 kp.eq_2 kp.eq_3 kp.eq_4 kp.eq_5 kp.eq_6 kp.eq_7 kp.eq_8 kp.eq_9 kT.eq_1 kT.eq_2 pG.eq_1 pG.eq_2 Kt.eq_1 Kt.eq_2 FW.eq_1 Ag.eq_1 kV.eq_1 kV.eq_2 kV.eq_3 kV.eq_4 kV.eq_5 kV.eq_6 kV.eq_7 kV.eq_8 kV.eq_9 cellsOf.eq_1 cellsOf.eq_2 oK.eq_1 oK.eq_2 oK.eq_3 Aq.eq_1 Aq.eq_2 ur.eq_1 idxOf.eq_1 idxOf.eq_2 ju.eq_1 fC.eq_1 nk.eq_1 nk.eq_2 nk.eq_3 nk.eq_4 nk.eq_5 nk.eq_6 nk.eq_7 nk.eq_8 Ah.eq_1 Ah.eq_2 uP.eq_1 uP.eq_2 pt.eq_1 ke.eq_1 np.eq_1 np.eq_2 gA.eq_1 gA.eq_2 fX.eq_1 fX.eq_2 nE.eq_1 nE.eq_2 mZ.eq_1 mZ.eq_2 nQ.eq_1 nQ.eq_2 nP.eq_1 nP.eq_2 vQ.eq_1 C9.eq_1 C9.eq_2 vh.eq_1 vh.eq_2 sb.eq_1 sb.eq_2 sb.eq_3 sb.eq_4 sb.eq_5 sb.eq_6 sb.eq_7 sb.eq_8 yp.eq_1 yp.eq_2 Gz.eq_1 Gz.eq_2 CM.eq_1 CM.eq_2 Ap.eq_1 Ap.eq_2 KB.eq_1 sG.eq_1 sG.eq_2 sG.eq_3 sG.eq_4 sG.eq_5 sG.eq_6 sG.eq_7 sG.eq_8 yK.eq_1 yK.eq_2 DL.eq_1 DL.eq_2 DK.eq_1 DK.eq_2 G6.eq_1 G6.eq_2 Az.eq_1 Az.eq_2 Ay.eq_1 Ay.eq_2 zZ.eq_1 zZ.eq_2 Ce.eq_1 Ce.eq_2 nK.eq_1 nK.eq_2 mw.eq_1 mw.eq_2 gF.eq_1 Rb.eq_1 Jy.eq_1 cD.eq_1 cD.eq_2 lS.eq_1 lS.eq_2 lS.eq_3 lS.eq_4 lS.eq_5 lS.eq_6 lS.eq_7 lS.eq_8 fO.eq_1 fO.eq_2 okB.eq_1 okB.eq_2 yn.eq_1 yn.eq_2 jv.eq_1 jv.eq_2 Kn.eq_1 CD.eq_1 CC.eq_1 CC.eq_2 uQ.eq_1 uQ.eq_2 pq.eq_1 pq.eq_2 uD.eq_1 uD.eq_2 BZ.eq_1 BZ.eq_2 nN.eq_1 vS.eq_1 vS.eq_2 vS.eq_3 vS.eq_4 An.eq_1 An.eq_2 An.eq_3 F2.eq_1 F2.eq_2 Gv.eq_1 Gv.eq_2 F3.eq_1 F3.eq_2 Gu.eq_1 Gu.eq_2 Cr.eq_1 Cr.eq_2 Cr.eq_3 oS.eq_1 oS.eq_2 oS.eq_3 oS.eq_4 oS.eq_5 oS.eq_6 oS.eq_7 oS.eq_8 oS.eq_9 oS.eq_10 oS.eq_11 pk.eq_1 pk.eq_2 gW.eq_1 gW.eq_2 gW.eq_3 gW.eq_4 gW.eq_5 gW.eq_6 gW.eq_7 gW.eq_8 gW.eq_9 gW.eq_10 gW.eq_11 gW.eq_12 gW.eq_13 gW.eq_14 gW.eq_15 gW.eq_16 gW.eq_17 gW.eq_18 gW.eq_19 gW.eq_20 gW.eq_21 zq.eq_1 zq.eq_2 JV.eq_1 lQ.eq_1 lQ.eq_2 rB.eq_1 rB.eq_2 rB.eq_3 rB.eq_4 rB.eq_5 rB.eq_6 put.eq_1 put.eq_2 mq.eq_1 mq.eq_2 mr.eq_1 mr.eq_2 oy.eq_1 oy.eq_2 kD.eq_1 kD.eq_2 kD.eq_3 pathOf.eq_1 pathOf.eq_2 xV.eq_1 xV.eq_2 xV.eq_3 xV.eq_4 CJ.eq_1 CJ.eq_2 one.eq_1 jm.eq_1 jm.eq_2 nF.eq_1 nF.eq_2 nF.eq_3 clean.eq_1 sS.eq_1 sS.eq_2 mC.eq_1 mC.eq_2 mC.eq_3 mC.eq_4 mC.eq_5 mC.eq_6 mC.eq_7 j9.eq_1 j9.eq_2 qe.eq_1 qe.eq_2 La.eq_1 xS.eq_1 xS.eq_2 FV.eq_1 FV.eq_2 pJ.eq_1 pJ.eq_2 pJ.eq_3 KR.eq_1 Av.eq_1 Av.eq_2 Av.eq_3 u7.eq_1 u7.eq_2 Ar.eq_1 C1.eq_1 CK.eq_1 CK.eq_2 Fl.eq_1 CL.eq_1 CL.eq_2 Ak.eq_1 Ak.eq_2 Aj.eq_1 Aj.eq_2 pL.eq_1 Al.eq_1 Al.eq_2 rZ.eq_1 rZ.eq_2 rY.eq_1 rY.eq_2 Match.eq_1 abt Zc ZZ ZY adZ Z0 abT abV abU abS abR ZV ZX adY ZW ZU YG XC Zd WM Zp Zm adB Zf Zj Ze Zi Zg Zh Zq XW Zl XU Zo abu aah XV Zn Zk aef SD aee adE adD adC
theorem fp (V:Vl) (x:Value):den V (.v x)=x:=rfl
theorem zC (V:Vl) (k o:Nat):den V (.box k o)= .pointer (some ⟨V.β k,o,none⟩):=rfl
theorem Jq (V:Vl) (cs:List SV):den V (.agg cs)= .agg ⟨cs.map (bK V)⟩:=rfl
theorem ada (V:Vl) (cs:List SV):den V (.tup cs)= .tuple ⟨cs.map (nu V)⟩:=rfl
theorem z7 (V:Vl) (l:List Value):(l.map SV.v).map (bK V)=l:=by
 induction l with
 |nil=>rfl
 |cons x l ih=>simp only[bN,ih];rfl
theorem DU {V:Vl} {s:SV} {cs:List SV} (h:lI s=some cs):(den V s).cells=⟨cs.map (bK V)⟩:=by
 cases s with
 |agg l=>simp only[lI,dT] at h;subst h;rfl
 |tup l=>simp [lI] at h
 |v x=>
  cases x with
  |agg a=>obtain⟨l⟩:=a;simp only[lI,dT] at h;subst h;simp only[z7];rfl
  |tuple a=>simp [lI] at h
  |_=>simp only[lI,dT] at h;subst h;rfl
 |_=>simp only[lI,dT] at h;subst h;rfl
/-! Paths. -/
theorem E7 {rho:List Gd} {j:Nat} {w:Bool} {g:Gd} (h:gG rho j=some g):oM rho j w=(if w=true then g.b.val else !g.b.val):=by
 unfold oM;rw[h]
theorem FJ {rho:List Gd} {i:Nat} {g:Gd} (h:gG rho i=some g):g.i=i/\g∈rho:=by
 induction rho with
 |nil=>cases h
 |cons x r ih=>
  obtain⟨i',t',p',b'⟩:=x;simp only[gG] at h;split at h
  ·rename_i e;cases h;exact⟨e,bY ..⟩
  ·exact⟨(ih h).1,bR _ (ih h).2⟩
theorem IG:∀{p q:bV},qj p q=true->p=q
 |[],[],_=>rfl
 |(j,w)::p,(k,u)::q,h=>by
  simp only[qj] at h;split at h
  ·split at h
   ·rename_i e e';subst e;subst e';rw[IG h]
   ·cases h
  ·cases h
 |[],_::_,h=>by simp [qj] at h
 |_::_,[],h=>by simp [qj] at h
theorem O7 {p:bV}:∀{q:bV},nZ p q=true->∃r,q=r++p
 |[],h=>⟨[],by simp only[nZ] at h;rw[IG h];rfl⟩
 |x::q,h=>by
  simp only[nZ] at h;split at h
  ·rename_i e;exact⟨[],by rw[IG e];rfl⟩
  ·obtain⟨r,hr⟩:=O7 h;exact⟨x::r,by rw[hr];rfl⟩
theorem OJ {rho:List Gd}:∀{p q:bV},cF rho (p++q)=(cF rho p&&cF rho q)
 |[],q=>by simp [cF]
 |(j,w)::p,q=>by simp [cF,OJ (p:=p),Bool.and_assoc]
theorem Et {rho:List Gd} {p q:bV} (h:nZ p q=true) (hq:cF rho q=true):cF rho p=true:=by
 obtain⟨r,rfl⟩:=O7 h;rw[OJ,aD] at hq;exact hq.2
theorem rh {rho:List Gd}:gq rho []:=fun _ h=>by cases h
theorem Er {rho:List Gd}:∀{p:bV},v7 rho p=true->cF rho p=false
 |[],h=>by simp [v7] at h
 |(j,w)::p,h=>by
  simp only[v7] at h;split at h
  ·rename_i e;simp only[cF,Bool.and_eq_false_iff];refine .inl ?_;cases hg:gG rho j with
   |none=>rw[hg] at e;cases w<;>simp [xO] at e
   |some g=>
    rw[hg] at e;rw[E7 hg];obtain⟨i',t',p',b'⟩:=g;cases b' with
    |lit b=>cases b<;>cases w<;>simp_all [xO,GB.val]
    |sym b=>cases w<;>simp [xO] at e
  ·simp only[cF,Bool.and_eq_false_iff];exact .inr (Er h)
section
variable {C:Ctx} {n:Nat} {st:LS} {a:Act} {V:Vl} {D:Nat->Nat} {w:World} {P:Program}
theorem dJ (hS:Sat C n st a V D w) {p:bV} (hp:gq st.rho p) (hc:cF st.rho p=true) {x:Operand} {s:SV} (h:cU st p x=some s):a.eval x=den V s:=by
 cases x with
 |tmp t=>
  have:=hS.env t p s hp h hc;simp [Act.eval,this]
 |const v=>simp only[cU,dT] at h;subst h;rfl
 |func f=>simp only[cU,dT] at h;subst h;rfl
 |global g=>simp only[cU,dT] at h;subst h;rfl
theorem uz {l:List Bx} {k:Nat} {b:Bx} (h:iv l k=some b):b.id=k/\b∈l:=by
 induction l with
 |nil=>cases h
 |cons x r ih=>
  obtain⟨i',t',p'⟩:=x;simp only[iv] at h;split at h
  ·rename_i e;cases h;exact⟨e,bY ..⟩
  ·exact⟨(ih h).1,bR _ (ih h).2⟩
theorem BE {l:List Vc} {k u:Nat} {b:Vc} (h:eU l k u=some b):b.id=k/\b.ver=u/\b∈l:=by
 induction l with
 |nil=>cases h
 |cons x r ih=>
  obtain⟨i',u',e',z',n',x'⟩:=x;simp only[eU] at h;split at h
  ·rename_i e;split at h
   ·rename_i e';cases h;exact⟨e,e',bY ..⟩
   ·cases h
  ·exact⟨(ih h).1,(ih h).2.1,bR _ (ih h).2.2⟩
end
def Yl (c:Bool) (P:Program) (x:Sem Value) (w:World) (v:Value):Prop:=c=true->x.run P w= .ok v w
section
variable {P:Program} {c:Bool} {w:World}
abbrev U (c:Bool):Prop->Prop:=fun B=>c=true->B
theorem A1 {k:IntKind} {V:Vl} {K:SV->Prop} {n:Int} (h:arith (.mk (k:=(k,U c,K)) n)):
  ∃s,K s/\(c=true->den V s= .int k (k.wrap n)):=by
 cases k;case i64=>
  simp only[arith] at h;refine⟨_,h.2,fun hc=> ?_⟩;have hb:=h.1 hc;rw[fp];have:IntKind.i64.wrap n=n:=by
   rw[IntKind.wrap_i64];unfold aF at hb;omega
  rw[this]
 all_goals exact⟨_,h,fun _=>rfl⟩
theorem XP {op:BinOp} {k k' :IntKind} {x y:Int} {t:TypeId} {o o' :Operand} {V:Vl} {K:SV->Prop} (hk:op= .shl\/op= .shr\/k=k') (h:jJ (.mk (k:=(op,k,U c,K)) (x,y))):
  ∃s,K s/\Yl c P (do eqGuard op t o o' (.int k x) (.int k' y);binOp op t (.int k x) (.int k' y)) w (den V s):=by
 by_cases hs:op= .shl\/op= .shr
 ·rcases hs with rfl |rfl
  ·simp only[jJ] at h;refine⟨_,h.2,fun hc=> ?_⟩;simp [go_sem,shift_shl _ _ _ _ (h.1 hc).1 (h.1 hc).2,fp]
  ·simp only[jJ] at h;refine⟨_,h.2,fun hc=> ?_⟩;simp [go_sem,shift_shr _ _ _ _ (h.1 hc).1 (h.1 hc).2,fp]
 ·have iM:k=k' :=by
   rcases hk with h1 |h1 |h1
   ·exact absurd (.inl h1) hs
   ·exact absurd (.inr h1) hs
   ·exact h1
  subst iM;cases op<;>simp only[jJ] at h;case shl=>exact absurd (.inl rfl) hs
  case shr=>exact absurd (.inr rfl) hs
  case add=>obtain⟨s,h1,h2⟩:=A1 (V:=V) h;exact⟨s,h1,fun hc=>by rw[h2 hc];simp [go_sem,Op.intArith]⟩
  case sub=>obtain⟨s,h1,h2⟩:=A1 (V:=V) h;exact⟨s,h1,fun hc=>by rw[h2 hc];simp [go_sem,Op.intArith]⟩
  case mul=>obtain⟨s,h1,h2⟩:=A1 (V:=V) h;exact⟨s,h1,fun hc=>by rw[h2 hc];simp [go_sem,Op.intArith]⟩
  case quo=>obtain⟨s,h1,h2⟩:=A1 (V:=V) h.2;exact⟨s,h1,fun hc=>by rw[h2 hc];simp [go_sem,Op.intDiv,h.1 hc]⟩
  case rem=>exact⟨_,h.2,fun hc=>by simp [go_sem,Op.intDiv,h.1 hc,fp]⟩
  case eql=>exact⟨_,h,fun _=>by simp [go_sem,fp];rfl⟩
  case neq=>exact⟨_,h,fun _=>by simp [go_sem,fp,bne];rfl⟩
  all_goals exact⟨_,h,fun _=>by simp [go_sem,fp]⟩
end
theorem YR (x y:ByteArray):x++y=bs (tl x++tl y):=by
 obtain⟨a⟩:=x;obtain⟨b⟩:=y;obtain⟨a⟩:=a;obtain⟨b⟩:=b;exact ByteArray.mk_append_mk a b
theorem zd (x:ByteArray):x.toList=tl x:=ByteArray.toList_eq x
theorem zK (x:ByteArray):(tl x).length=x.size:=by unfold tl ByteArray.size;exact Array.length_toList
theorem RW (x y:List UInt8):(x==y)=decide (x=y):=by
 rw[Bool.eq_iff_iff];simp only[beq_iff_eq,bt]
theorem aO {α:Type} {K:α->Prop} {x:Option α} (h:aP (.mk (k:=K) x)):∃s,x=some s/\K s:=by
 cases x with
 |none=>exact h.elim
 |some s=>exact⟨s,rfl,h⟩
section
variable {P:Program} {c:Bool} {w:World}
theorem XN {op:BinOp} {x y:ByteArray} {t:TypeId} {o o' :Operand} {V:Vl} {K:SV->Prop} (h:rK (.mk (k:=(op,U c,K)) (tl x,tl y))):
  ∃s,K s/\Yl c P (do eqGuard op t o o' (.string x) (.string y);binOp op t (.string x) (.string y)) w (den V s):=by
 cases op<;>simp only[rK] at h;case add=>
  refine⟨_,h.2,fun hc=> ?_⟩;have hl:=h.1 hc;rw[zK,zK] at hl;have:¬((x.size+y.size:Nat):Int)>IntKind.i64.max:=by rw[IntKind.max_i64];omega
  simp only[go_sem,binOp,Op.stringOp,Sem.run_bind,Sem.run_pure,Result.andThen_ok];rw[af this];rw[YR,fp];rfl
 case eql=>exact⟨_,h,fun _=>by simp [go_sem,fp,zd,RW]⟩
 case neq=>exact⟨_,h,fun _=>by simp [go_sem,fp,zd,RW]⟩
 case lss=>exact⟨_,h,fun _=>by simp [go_sem,fp,zd]⟩
 case geq=>exact⟨_,h,fun _=>by simp [binOp,Op.stringOp,go_sem,fp,zd]⟩
theorem XL {V:Vl} {x y:SV} {b:Bool} (h:nG x y=some b):nG (.v (bK V x)) (.v (bK V y))=some b:=by
 unfold nG at h;split at h<;>first |exact h |cases h
theorem aaB {V:Vl} {z x:SV} (h:nU z x=true):nU z (.v (bK V x))=true:=by
 unfold nU at h;split at h<;>first |exact h |cases h
theorem Qe {V:Vl}:∀{z x:List SV},jr z x=true->jr z ((x.map (bK V)).map .v)=true
 |[],[],h=>h
 |z::zs,x::xs,h=>by
  simp only[jr,aD] at h;simp only[bN,jr,aaB h.1,Qe h.2,Bool.and_self]
 |[],_::_,h=>by simp [jr] at h
 |_::_,[],h=>by simp [jr] at h
theorem aaA {V:Vl} {z:Option (List SV)} {x:List SV} (h:wv z x=true):wv z ((x.map (bK V)).map .v)=true:=by
 cases z with
 |none=>cases h
 |some z=>exact Qe h
theorem M3 {V:Vl}:∀{x y:List SV} {b:Bool},ig x y=some b->ig ((x.map (bK V)).map .v) ((y.map (bK V)).map .v)=some b
 |[],[],_,h=>h
 |x::xs,y::ys,b,h=>by
  simp only[ig,Option.bind_eq_some_iff,Option.map_eq_some_iff] at h;obtain⟨e,he,r,hr,rfl⟩:=h;simp only[bN,ig,XL he,M3 hr,Option.bind_some,Option.map_some]
 |[],_::_,_,h=>by simp [ig] at h
 |_::_,[],_,h=>by simp [ig] at h
theorem HU {op:BinOp} {b:Bool} {K:SV->Prop} {V:Vl} (h:qz (.mk (k:=(op,K)) b)):
  ∃s,K s/\((op= .eql/\den V s= .bool b)\/(op= .neq/\den V s= .bool (!b))):=by
 cases op<;>simp only[qz] at h;case eql=>exact⟨_,h,.inl ⟨rfl,rfl⟩⟩
 case neq=>exact⟨_,h,.inr ⟨rfl,rfl⟩⟩
theorem MP {V:Vl} {y:SV} {ys:List SV} (h:o6 y=some ys):den V y= .agg ⟨ys.map (bK V)⟩:=by
 cases y with
 |agg l=>simp only[o6,dT] at h;subst h;rfl
 |v x=>
  cases x with
  |agg a=>obtain⟨l⟩:=a;simp only[o6,dT] at h;subst h;rw[z7];rfl
  |_=>simp [o6] at h
 |_=>simp [o6] at h
theorem M1 {op:BinOp} {t:TypeId} {o o' :Operand} {V:Vl} {K:SV->Prop} {xs:List SV} {y:SV} {xv:Value} (hxv:xv= .agg ⟨xs.map (bK V)⟩) 
  (he:vb P t) (hl:wv (fB P t) xs=true) (h:aP (.mk (k:=fun b=>qz (.mk (k:=(op,K)) b)) ((o6 y).bind fun ys=>ig xs ys))):
  ∃s,K s/\Yl c P (do eqGuard op t o o' xv (den V y);binOp op t xv (den V y)) w (den V s):=by
 obtain⟨b,hb,hK⟩:=aO h;simp only[Option.bind_eq_some_iff] at hb;obtain⟨ys,hys,hb⟩:=hb;have hyv:den V y= .agg ⟨ys.map (bK V)⟩:=MP hys;have hE:=fun op=>he (xs.map (bK V)) (ys.map (bK V)) b w o o' op (M3 hb) (aaA hl)
 obtain⟨s,hs,hh⟩:=HU (V:=V) hK;refine⟨s,hs,fun hc=> ?_⟩;rw[hxv,hyv];rcases hh with ⟨rfl,hr⟩ |⟨rfl,hr⟩
 ·rw[hr];simp only[Sem.run_bind,(hE .eql).1,Result.andThen_ok,binOp,(hE .eql).2,Sem.run_pure]
 ·rw[hr];simp only[Sem.run_bind,(hE .neq).1,Result.andThen_ok,binOp,(hE .neq).2,Sem.run_pure]
theorem run_equal_bool {t:TypeId} (x y:Bool) (h:P.underlying t=some .bool):(Op.equal t (.bool x) (.bool y)).run P w= .ok (x==y) w:=by
 have hd:∀d:Nat,(Op.equalIn (d+1) t (.bool x) (.bool y)).run P w= .ok (x==y) w:=fun d=>by
  simp only[Op.equalIn,Sem.run_bind,run_underlying h,Result.andThen_ok,Sem.run_pure]
 exact hd 9999
theorem MA {t:TypeId} {v:Value} (h:FK P t=true) (hv:GC v):(Op.equal t v .nilIface).run P w= .ok (rs v) w:=by
 unfold FK at h;split at h
 ·rename_i ms hu;have hd:∀d:Nat,(Op.equalIn (d+1) t v .nilIface).run P w= .ok (rs v) w:=fun d=>by
   rcases hv with rfl |⟨ty,x,rfl⟩<;>simp only[Op.equalIn,Sem.run_bind,run_underlying hu,Result.andThen_ok,Sem.run_pure,rs]
  exact hd 9999
 ·cases h
theorem Wr {op:BinOp} {x:SV} {t:TypeId} {o:Operand} {V:Vl} {K:SV->Prop} (h:vV (.mk (k:=(P,op,t,U c,K)) x)):
  ∃s,K s/\Yl c P (do eqGuard op t o (.const .nilIface) (den V x) .nilIface;binOp op t (den V x) .nilIface) w (den V s):=by
 unfold vV at h;split at h
 ·rename_i v e;cases e;obtain⟨h1,h2,h3⟩:=h;obtain⟨s,hs,hh⟩:=HU (V:=V) h3;refine⟨s,hs,fun hc=> ?_⟩;have hv:=h2 hc;have hg:∀op,(eqGuard op t o (.const .nilIface) v .nilIface).run P w= .ok () w:=fun op=>by
   unfold eqGuard;rcases hv with rfl |⟨ty,x,rfl⟩<;>cases op<;>simp
  have oa:binOp .eql t v .nilIface=(do let b <- Op.equal t v .nilIface;pure (.bool b)):=by
   rcases hv with rfl |⟨ty,x,rfl⟩<;>rfl
  have Dt:binOp .neq t v .nilIface=(do let b <- Op.equal t v .nilIface;pure (.bool (!b))):=by
   rcases hv with rfl |⟨ty,x,rfl⟩<;>rfl
  rcases hh with ⟨rfl,hr⟩ |⟨rfl,hr⟩
  ·rw[hr];simp only[Sem.run_bind,fp,hg,Result.andThen_ok,oa,MA h1 hv,Sem.run_pure]
  ·rw[hr];simp only[Sem.run_bind,fp,hg,Result.andThen_ok,Dt,MA h1 hv,Sem.run_pure]
 ·cases h
theorem XO {op:BinOp} {x y:SV} {t:TypeId} {o o' :Operand} {V:Vl} {K:SV->Prop} (h:qy (.mk (k:=(P,op,t,U c,K)) (x,y))):
  ∃s,K s/\Yl c P (do eqGuard op t o o' (den V x) (den V y);binOp op t (den V x) (den V y)) w (den V s):=by
 unfold qy at h;split at h
 ·rename_i k a k' b e;cases e;exact XP h.1 h.2
 ·rename_i a b e;cases e;exact XN h
 ·rename_i a b e;cases e;obtain⟨s,hs,hh⟩:=HU (V:=V) h.2;refine⟨s,hs,fun hc=> ?_⟩;rcases hh with ⟨rfl,hr⟩ |⟨rfl,hr⟩
  ·rw[hr];simp only[Sem.run_bind,eqGuard_at_bool,fp,Sem.run_pure,Result.andThen_ok,binOp,run_equal_bool a b h.1]
  ·rw[hr];simp only[Sem.run_bind,eqGuard_at_bool,fp,Sem.run_pure,Result.andThen_ok,binOp,run_equal_bool a b h.1]
 ·rename_i xs y e;cases e;exact M1 rfl h.1 h.2.1 h.2.2
 ·rename_i xs y e;cases e;obtain⟨l⟩:=xs;refine M1 (xs:=l.map .v) (by rw[z7];rfl) h.1 h.2.1 h.2.2
 ·cases h
end
section
variable {P:Program} {w:World}
theorem BB {t:TypeId} (h:0<bX P t):(sizeOf t).run P w= .ok (bX P t) w:=by
 unfold bX at h ⊢;cases hi:P.info? t with
 |none=>rw[hi] at h;simp at h
 |some i=>simp [sizeOf,typeInfo,hi]
theorem MG {t:TypeId} (h:eR P t=some none):(isAgg t).run P w= .ok false w:=by
 unfold eR at h;split at h
 ·simp at h
 ·simp at h
 ·rename_i d h1 h2 hd;simp only[isAgg,Sem.run_bind,run_underlying hd,Result.andThen_ok];rfl
 ·cases h
theorem DQ {t:TypeId} {n:Nat} (h:eR P t=some (some n)):(isAgg t).run P w= .ok true w/\(sizeOf t).run P w= .ok n w:=by
 unfold eR at h;split at h
 ·rename_i fs hd;simp only[Option.map_eq_some_iff,dT] at h;obtain⟨i,hi,rfl⟩:=h;exact⟨by simp [isAgg,run_underlying hd],by simp [sizeOf,typeInfo,hi]⟩
 ·rename_i fs k hd;simp only[Option.map_eq_some_iff,dT] at h;obtain⟨i,hi,rfl⟩:=h;exact⟨by simp [isAgg,run_underlying hd],by simp [sizeOf,typeInfo,hi]⟩
 ·cases h
 ·cases h
theorem yN {t:TypeId} {ad:Addr} {ag:Option Nat} {cs:List Value} {v:Value} (h:eR P t=some ag) (hc:∀j u,cs[j]? =some u->w.cell? (ad.add j)=some u)
  (hv:match ag with |none=>cs=[v] |some n=>cs.length=n/\v= .agg ⟨cs⟩):(loadVar t ad).run P w= .ok v w:=by
 cases ag with
 |none=>
  subst hv;have h0:=hc 0 v rfl;rw[Addr.add_zero'] at h0;simp only[loadVar,Sem.run_bind,MG h,Result.andThen_ok,Bool.false_eq_true,if_false];rw[run_load];simp [h0]
 |some n=>
  obtain⟨hl,rfl⟩:=hv;simp only[loadVar,Sem.run_bind,(DQ h).1,(DQ h).2,Result.andThen_ok,if_true];subst hl;rw[run_loadCells_list w ad cs hc];rfl
theorem Oo {D:Nat} {o o' :Option Obj} {c:Array Value} {t:TypeId} {f:Nat×Nat} (h:sQ D o o') (ho:o=some (.cells c t f)):∃c' t' f',o' =some (.cells c' t' f')/\∀j,j<D->c'[j]? =c[j]? :=by
 subst ho;exact h
theorem Ec {m:Mem} {D:Nat->Nat} (hle:m.le ⟨w,D⟩) {ad:Addr} {v:Value} (hs:ad.spot=none) (hd:ad.off<m.D ad.block) (h:m.w.cell? ad=some v):w.cell? ad=some v:=by
 obtain⟨_,hk⟩:=hle ad.block;obtain⟨_,hk⟩:=hk (by omega);unfold World.cell? at h ⊢;split at h
 ·rename_i c t f hc;obtain⟨c',t',f',ho,hj⟩:=Oo hk hc;dsimp only at ho;rw[ho];simp only[hs,Option.isSome_none,Bool.false_eq_true,if_false] at h ⊢;rw[hj _ hd];exact h
 ·cases h
theorem mQ (ad:Addr) (j:Nat) (h:ad.spot=none):(ad.add j).block=ad.block/\(ad.add j).off=ad.off+j/\(ad.add j).spot=none:=by
 unfold Addr.add;split
 ·rename_i e;subst e;exact⟨rfl,rfl,h⟩
 ·exact⟨rfl,rfl,rfl⟩
theorem TO {m:Mem} {D:Nat->Nat} (hle:m.le ⟨w,D⟩) {x:Value} {cs:List Value} (h:Rd m x cs):∃ad,x= .pointer (some ad)/\∀j u,cs[j]? =some u->w.cell? (ad.add j)=some u:=by
 obtain⟨ad,hx,hs,hc⟩:=h;refine⟨ad,hx,fun j u hu=> ?_⟩;have hj:j<cs.length:=(List.getElem?_eq_some_iff.1 hu).1;obtain⟨h1,h2⟩:=hc j hj;obtain⟨e1,e2,e3⟩:=mQ ad j hs;exact Ec hle e3 (by rw[e1,e2];exact h2) (h1.trans hu)
theorem S6 {m:Mem} {D:Nat->Nat} (hle:m.le ⟨w,D⟩) {x:Option Addr} {n sz:Nat} {cs:List Value} (h:aZ m x n sz cs) (hn:0<n):∃ad,x=some ad/\∀j u,cs[j]? =some u->w.cell? (ad.add j)=some u:=by
 obtain⟨hl,h⟩:=h;obtain⟨ad,hx,hs,hc⟩:=h hn;refine⟨ad,hx,fun j u hu=> ?_⟩;have hj:j<cs.length:=(List.getElem?_eq_some_iff.1 hu).1;obtain⟨h1,h2⟩:=hc j (by omega);obtain⟨e1,e2,e3⟩:=mQ ad j hs;exact Ec hle e3 (by rw[e1,e2];exact h2) (h1.trans hu)
theorem kM {x:Sem Value} {v:Value} {w' :World} (h:x.run P w= .ok v w'):(do pure (Next.value (<- x)):Sem Next).run P w= .ok (.value v) w' :=by
 simp [h]
theorem NU {V:Vl} {cs:List SV} {off:Nat} {ag:Option Nat} {s:SV} (h:vU cs off ag=some s):
  match ag with |none=>(cs.map (bK V))[off]? =some (den V s) |some n=>den V s= .agg ⟨((cs.map (bK V)).drop off).take n⟩/\off+n<=cs.length:=by
 cases ag with
 |none=>
  obtain⟨x,hx,hs⟩:=Option.bind_eq_some_iff.1 h;dsimp only;rw[List.getElem?_map,hx];cases x<;>simp only[td,dT] at hs<;>first |(subst hs;rfl) |cases hs
 |some n=>
  simp only[vU] at h;split at h
  ·rename_i hl;simp only[dT] at h;subst h;exact⟨by rw[Jq,List.map_take,List.map_drop],hl⟩
  ·cases h
end
theorem aad {rho:List Gd} {t:Nat} {g:Gd} (h:Am rho t=some g):g.slot=t/\g∈rho:=by
 induction rho with
 |nil=>cases h
 |cons x r ih=>
  obtain⟨i',t',p',b'⟩:=x;simp only[Am] at h;split at h
  ·rename_i e;cases h;exact⟨e,bY ..⟩
  ·exact⟨(ih h).1,bR _ (ih h).2⟩
theorem vv {α β:Type} {o:Option α} {f:α->Option β} {y:β} (h:o.bind f=some y):∃x,o=some x/\f x=some y:=Option.bind_eq_some_iff.1 h
def Run (P:Program) (c:Bool) (x:Sem Next) (w:World) (v:Value):Prop:=c=true->x.run P w= .ok (.value v) w
theorem Yl.run {P:Program} {c:Bool} {x:Sem Value} {w:World} {v:Value} (h:Yl c P x w v):Run P c (do pure (.value (<- x))) w v:=fun hc=>kM (h hc)
section
variable {C:Ctx} {n:Nat} {st:LS} {a:Act} {V:Vl} {D:Nat->Nat} {w:World} {P:Program} {p:bV} {K:SV->Prop} {c:Bool}
theorem W7 {s:SV} (h:uR (.mk (k:=(U c,K)) s)):∃r,K r/\den V r=den V s/\(c=true->uW (den V s)=true):=by
 unfold uR at h;split at h
 ·rename_i x e;cases e;exact⟨_,h.2,rfl,fun hc=>h.1 hc⟩
 ·rename_i k o e;cases e;exact⟨_,h,rfl,fun _=>rfl⟩
 ·cases h
theorem aaJ {o:Oper} {x:Operand} (ho:o.op= .nilCheck x) (h:uW (a.eval x)=true):(execOp a.eval o).run P w= .ok (.value (a.eval x)) w:=by
 unfold execOp;simp only[ho];revert h;generalize a.eval x=v
 intro h;cases v with
 |pointer q=>cases q with
  |none=>cases h
  |some q=>rfl
 |nilIface=>cases h
 |nilFunc=>cases h
 |func f b d=>cases f<;>first |rfl |cases h
 |_=>rfl
theorem Yb {op:UnOp} {s:SV} (h:vd (.mk (k:=(op,U c,K)) s)):∃r,K r/\Yl c P (Op.unary op (den V s)) w (den V r):=by
 unfold vd at h;split at h
 ·rename_i b e;cases e;exact⟨_,h,fun _=>rfl⟩
 ·rename_i k m e;cases e;obtain⟨r,h1,h2⟩:=A1 (V:=V) h;exact⟨r,h1,fun hc=>by rw[h2 hc];rfl⟩
 ·cases h
theorem anR {l:List UInt8} {j:Nat} {u:Value} (h:(jW l)[j]? =some u):∃b:UInt8,l[j]? =some b/\u= .int .u8 b.toNat:=by
 simp only[jW,List.getElem?_map,Option.map_eq_some_iff] at h;obtain⟨b,hb,rfl⟩:=h;exact⟨b,hb,rfl⟩
theorem adh {P:Program} {src dst:TypeId} {k:IntKind} {m:Int} {k' :IntKind} (h:qR P src dst= .int k):(convert src dst (.int k' m)).run P w= .ok (.int k (k.wrap m)) w:=by
 unfold qR at h;split at h
 ·rename_i k1 k2 h1 h2;cases h;simp [convert,run_underlying h1,run_underlying h2,Conv.intToInt]
 ·cases h
 ·split at h<;>cases h
 ·cases h
theorem aaU {P:Program} {src dst:TypeId} {s:ByteArray} (h:qR P src dst= .same):(convert src dst (.string s)).run P w= .ok (.string s) w:=by
 unfold qR at h;split at h
 ·cases h
 ·rename_i h1 h2;simp [convert,run_underlying h1,run_underlying h2]
 ·split at h<;>cases h
 ·cases h
theorem adi {P:Program} {src dst:TypeId} (h:qR P src dst= .b2s):∃e,P.underlying src=some (.slice e)/\P.underlying e=some (.int .u8)/\P.underlying dst=some .string:=by
 unfold qR at h;split at h
 ·cases h
 ·cases h
 ·rename_i e h1 h2;split at h
  ·rename_i h3;exact⟨e,h1,h3,h2⟩
  ·cases h
 ·cases h
theorem QO {P:Program} {src dst:TypeId} {l:List UInt8} {x:Option Addr} {n cp:Nat} (h:qR P src dst= .b2s) (hn:l.length=n) (hx:0<n->∃ad,x=some ad/\∀j u,(jW l)[j]? =some u->w.cell? (ad.add j)=some u):
  (convert src dst (.slice x n cp)).run P w= .ok (.string (bs l)) w:=by
 obtain⟨e,h1,h2,h3⟩:=adi h;rcases Nat.eq_zero_or_pos n with h0 |h0
 ·subst h0;have:l=[]:=List.eq_nil_of_length_eq_zero hn;subst this;cases x with
  |none=>rw[run_convert_bytes_string w src dst e none _ cp h1 h2 h3];simp [Conv.bytesToString];rfl
  |some ad=>exact run_convert_bytes_back w src dst e ad cp [] h1 h2 h3 (fun j hj=>absurd hj (by simp))
 ·obtain⟨ad,rfl,hc⟩:=hx h0;subst hn;exact run_convert_bytes_back w src dst e ad cp l h1 h2 h3 (fun j hj=>hc j _ (by simp [jW,List.getElem?_eq_getElem hj]))
theorem xC {e:TypeId} {sz:Nat} {h:Hd} {m:Nat} {xs:List Value} (ho:w.ownsRow 0 e sz h.val m xs):h.n=m/\xs.length=m * sz/\(0<m->∃g,h.a=some ⟨g,0,none⟩/\∀j u,xs[j]? =some u->w.cell? ⟨g,j,none⟩=some u):=by
 obtain⟨hl,hv⟩:=ho;rcases hv with ⟨hv,rfl⟩ |⟨g,cap,cur,hv,_,hh,Ly,_,eD,htk⟩
 ·simp only[Hd.val,Value.slice.injEq] at hv;exact⟨hv.2.1,hl,fun h0=>absurd h0 (by omega)⟩
 ·simp only[Hd.val,Value.slice.injEq] at hv;refine⟨hv.2.1,hl,fun _=>⟨g,hv.1,fun j u hu=> ?_⟩⟩;have hj:j<m * sz:=by have:=(List.getElem?_eq_some_iff.1 hu).1;omega
  rw[<- htk,List.getElem?_take,ah hj] at hu;simp only[World.cell?,hh,Option.isSome_none,Bool.false_eq_true,if_false];rw[<- hu,Array.getElem?_toList]
theorem DT (g j:Nat):(Addr.add ⟨g,0,none⟩ j)=⟨g,j,none⟩:=by
 unfold Addr.add;split
 ·rename_i h;subst h;rfl
 ·simp
theorem xJ (hS:Sat C n st a V D w) {k u:Nat} {b:Vc} (h:eU st.vc k u=some b):yM V D w b/\b.id=k/\b.ver=u:=
 ⟨hS.heap.vc b (BE h).2.2,(BE h).1,(BE h).2.1⟩
theorem Wt (hS:Sat C n st a V D w) {src dst:TypeId} {s:SV} (h:ry (.mk (k:=(U c,K)) (st,qR P src dst,s))):
  ∃r,K r/\Yl c P (convert src dst (den V s)) w (den V r):=by
 unfold ry at h;split at h
 ·rename_i k k' m e;simp only[A.mk.injEq,Prod.mk.injEq] at e;obtain⟨rfl,e2,rfl⟩:=e;exact⟨_,h,fun _=>adh e2⟩
 ·rename_i s' e;simp only[A.mk.injEq,Prod.mk.injEq] at e;obtain⟨rfl,e2,rfl⟩:=e;exact⟨_,h,fun _=>aaU e2⟩
 ·rename_i ak k v e;simp only[A.mk.injEq,Prod.mk.injEq] at e;obtain⟨rfl,e2,rfl⟩:=e;obtain⟨b,hb,l,h1,h2⟩:=aO h;refine⟨_,h2,fun hc=> ?_⟩;obtain⟨e1,e3⟩:=h1 hc;obtain⟨hv,rfl,rfl⟩:=xJ hS hb;obtain⟨hn,hl,hx⟩:=xC hv.1;have LO:l.length=b.n:=by rw[e1,Nat.mul_one,e3] at hl;simpa [jW] using hl
  refine QO e2 (by rw[LO,hn]) (fun h0=> ?_);obtain⟨g,hg,jE⟩:=hx (by omega);refine⟨_,hg,fun j y hy=> ?_⟩;rw[DT];exact jE j y (by rw[e3];exact hy)
 ·rename_i ak x m cp e;simp only[A.mk.injEq,Prod.mk.injEq] at e;obtain⟨rfl,e2,rfl⟩:=e;obtain⟨l,h1,h2⟩:=h;refine⟨_,h2,fun hc=> ?_⟩;have hr:=h1 hc;refine QO e2 (by have:=hr.1;simpa [jW] using this) (fun h0=>S6 hS.mle hr h0)
 ·cases h
theorem IS {P:Program} {s:TypeId} {f off sz:Nat} {ag:Option Nat} (h:da P s f=some (off,ag,sz)):∃fs x,P.underlying s=some (.struct fs)/\fs[f]? =some x/\x.offset=off/\eR P x.type=some ag/\0<bX P x.type/\bX P x.type=sz:=by
 unfold da at h;split at h
 ·rename_i fs hs;obtain⟨x,hx,h⟩:=vv h;split at h
  ·rename_i h0;simp only[Option.map_eq_some_iff,Prod.mk.injEq] at h;obtain⟨g,hg,rfl,rfl,rfl⟩:=h;exact⟨fs,x,hs,hx,rfl,hg,h0,rfl⟩
  ·cases h
 ·cases h
theorem Hm {P:Program} {s:TypeId} {f off sz:Nat} {ag:Option Nat} {ad:Addr} (h:da P s f=some (off,ag,sz)):(Instr.fieldAt s (.pointer (some ad)) f).run P w= .ok (.pointer (some (ad.add off))) w:=by
 obtain⟨fs,x,hs,hx,rfl,_,h0,_⟩:=IS h;have:bX P x.type≠0:=by omega
 simp [Instr.fieldAt,run_underlying hs,hx,Instr.sureAddr,fieldPlace,BB h0,this]
theorem zG (b o f:Nat):(Addr.add ⟨b,o,none⟩ f)=⟨b,o+f,none⟩:=by
 unfold Addr.add;split
 ·rename_i h;subst h;rfl
 ·rfl
theorem Xd (hS:Sat C n st a V D w) {s:TypeId} {x:SV} {f off sz:Nat} {ag:Option Nat} (hf:da P s f=some (off,ag,sz))
  (h:tq (.mk (k:=(U c,K)) (st,x,off))):∃r,K r/\Yl c P (Instr.fieldAt s (den V x) f) w (den V r):=by
 unfold tq at h;split at h
 ·rename_i ak k o f' e;simp only[A.mk.injEq,Prod.mk.injEq] at e;obtain⟨rfl,rfl,rfl⟩:=e;exact⟨_,h,fun _=>by rw[zC,Hm hf,zG];rfl⟩
 ·rename_i ak k v o f' e;simp only[A.mk.injEq,Prod.mk.injEq] at e;obtain⟨rfl,rfl,rfl⟩:=e;obtain⟨b,hb,h1,h2⟩:=aO h;refine⟨_,h2,fun hc=> ?_⟩;obtain⟨hv,rfl,rfl⟩:=xJ hS hb;obtain⟨_,hl,hx⟩:=xC hv.1;have ho:=h1 hc;have hn:0<b.n:=by
   rcases Nat.eq_zero_or_pos b.n with h0 |h0
   ·rw[h0,Nat.zero_mul] at hl;omega
   ·exact h0
  obtain⟨g,hg,_⟩:=hx hn;show(Instr.fieldAt s (.pointer ((V.γ b.id b.ver).a.map (·.add o))) f).run P w= .ok (.pointer ((V.γ b.id b.ver).a.map (·.add (o+off)))) w;rw[hg];simp only[Option.map_some,zG,Hm hf,Nat.zero_add]
 ·rename_i ak y f' e;simp only[A.mk.injEq,Prod.mk.injEq] at e;obtain⟨rfl,rfl,rfl⟩:=e;refine⟨_,h.2,fun hc=> ?_⟩;obtain⟨ad,rfl⟩:=h.1 hc;exact Hm hf
 ·cases h
theorem xf {P:Program} {t:TypeId} {ag:Option Nat} {cs:List Value} {off:Nat} {v:Value} (h:eR P t=some ag)
  (hv:match ag with |none=>cs[off]? =some v |some k=>v= .agg ⟨(cs.drop off).take k⟩/\off+k<=cs.length):(part t ⟨cs⟩ off).run P w= .ok v w:=by
 cases ag with
 |none=>
  simp only[part,Sem.run_bind,MG h,Result.andThen_ok,Bool.false_eq_true,if_false];dsimp only at hv;have:(⟨cs⟩:Array Value)[off]? =some v:=by rw[<- hv,<- Array.getElem?_toList]
  rw[this];rfl
 |some k=>
  obtain⟨rfl,hl⟩:=hv;simp only[part,Sem.run_bind,(DQ h).1,(DQ h).2,Result.andThen_ok,if_true,Sem.run_pure];have:(Array.mk cs).extract off (off+k)=⟨(cs.drop off).take k⟩:=by
   apply Array.ext'
   simp [List.extract,Nat.add_sub_cancel_left]
  rw[this]
theorem VZ {s:TypeId} {x:SV} {f off sz:Nat} {ag:Option Nat} {cs:List SV} {r:SV} (hf:da P s f=some (off,ag,sz)) (hx:o6 x=some cs) (h:vU cs off ag=some r):
  (Instr.field s (den V x) f).run P w= .ok (den V r) w:=by
 obtain⟨fs,y,hs,hy,rfl,hg,_,_⟩:=IS hf;have hd:den V x= .agg ⟨cs.map (bK V)⟩:=MP hx;simp only[Instr.field,Sem.run_bind,run_underlying hs,Result.andThen_ok,hy,hd,asAgg,Sem.run_pure];refine xf hg ?_;have ht:=NU (V:=V) h;cases ag with
 |none=>
  exact ht
 |some k=>exact⟨ht.1,by rw[List.length_map];exact ht.2⟩
end
section
variable {C:Ctx} {n:Nat} {st:LS} {a:Act} {V:Vl} {D:Nat->Nat} {w:World} {P:Program} {p:bV} {K:SV->Prop} {c:Bool}
theorem og {t e:TypeId} (h:iP P t=some e):P.underlying t=some (.slice e):=by
 unfold iP at h;split at h
 ·rename_i e' h';cases h;exact h'
 ·cases h
theorem MS {t e:TypeId} {ad:Addr} {len cp:Nat} {k:IntKind} {i:Int} (h:iP P t=some e) (h0:0<bX P e) (hi:0<=i) (hl:i<len):
  (Instr.indexAt t (.slice (some ad) len cp) (.int k i)).run P w= .ok (.pointer (some (ad.add (i.toNat * bX P e)))) w:=by
 simp [Instr.indexAt,asIntOf,run_underlying (og h),hi,hl,BB h0]
theorem Xc (hS:Sat C n st a V D w) {t e:TypeId} {x i:SV} (he:iP P t=some e) (h:uU (.mk (k:=(P,U c,K)) (st,e,x,i))):
  ∃r,K r/\Yl c P (Instr.indexAt t (den V x) (den V i)) w (den V r):=by
 unfold uU at h;split at h
 ·rename_i ak e' x m cp k j q;simp only[A.mk.injEq,Prod.mk.injEq] at q;obtain⟨rfl,rfl,rfl,rfl⟩:=q;refine⟨_,h.2.2,fun hc=> ?_⟩;obtain⟨h1,h2,h3⟩:=h.2.1 hc;cases x with
  |none=>exact absurd rfl h3
  |some ad=>exact MS he h.1 h1 h2
 ·rename_i ak e' k v kk j q;simp only[A.mk.injEq,Prod.mk.injEq] at q;obtain⟨rfl,rfl,rfl,rfl⟩:=q;obtain⟨b,hb,h0,h1,h2⟩:=aO h;refine⟨_,h2,fun hc=> ?_⟩;obtain⟨hv,rfl,rfl⟩:=xJ hS hb;obtain⟨i0,i1,_⟩:=h1 hc;obtain⟨hn,hl,hx⟩:=xC hv.1;obtain⟨g,hg,_⟩:=hx (by omega);show(Instr.indexAt t (V.γ b.id b.ver).val (.int kk j)).run P w= .ok (.pointer ((V.γ b.id b.ver).a.map (·.add (j.toNat * bX P e)))) w;unfold Hd.val;rw[hg,hn];exact MS he h0 i0 i1
 ·cases h
theorem byte_at (s:ByteArray) (i:Nat) (h:i<(tl s).length):s[i]? =some ((tl s).getD i 0):=by
 have hs:i<s.size:=by rw[<- zK];exact h
 have e1:s[i]? =some s[i]:=getElem?_pos s i hs;rw[e1];rw[List.getD_eq_getElem?_getD,List.getElem?_eq_getElem h];rfl
theorem Yh {t:TypeId} {x i:SV} (h:wE (.mk (k:=(P,t,U c,K)) (x,i))):∃r,K r/\Yl c P (Instr.index t (den V x) (den V i)) w (den V r):=by
 unfold wE at h;split at h
 ·rename_i s k j q;simp only[A.mk.injEq,Prod.mk.injEq] at q;obtain⟨rfl,rfl⟩:=q;refine⟨_,h.2.2,fun hc=> ?_⟩;obtain⟨h1,h2⟩:=h.2.1 hc;have hb:=byte_at s j.toNat (by omega);simp only[fp,Instr.index,asIntOf,Sem.run_bind,Sem.run_pure,Result.andThen_ok,run_underlying h.1,ah h1,hb]
 ·cases h
theorem MF {o:Option SV} {d l:Int} (h:ri o d=some l):(o=none/\l=d)\/∃k,o=some (.v (.int k l)):=by
 unfold ri at h;split at h
 ·cases h;exact .inl ⟨rfl,rfl⟩
 ·cases h;exact .inr ⟨_,rfl⟩
 ·cases h
theorem Fh {k:IntKind} {i:Int} {y:Nat} {code:BoundsCode} (h0:0<=i) (h1:i<=y):(Instr.sliceBound (.int k i) y code).run P w= .ok i.toNat w:=by
 simp [Instr.sliceBound,asIntOf,h0,h1]
theorem QN {isS:Bool} {len cp:Nat} {lo hi:Option SV} {l h:Int} (hl:ri lo 0=some l) (hh:ri hi len=some h) (h0:0<=l) (h1:l<=h) (h2:h<=cp):
  (Instr.sliceBounds isS len cp (lo.map (den V)) (hi.map (den V)) none).run P w= .ok (l.toNat,h.toNat,cp) w:=by
 have eh:(h.toNat:Int)=h:=Int.toNat_of_nonneg (by omega);rcases MF hl with ⟨rfl,rfl⟩ |⟨k,rfl⟩<;>rcases MF hh with ⟨rfl,rfl⟩ |⟨k',rfl⟩
 ·simp [Instr.sliceBounds]
 ·simp only[Instr.sliceBounds,Option.map_none,Option.map_some,Sem.run_bind,Sem.run_pure,Result.andThen_ok,fp];rw[Fh (by omega) h2];rfl
 ·simp only[Instr.sliceBounds,Option.map_none,Option.map_some,Sem.run_bind,Sem.run_pure,Result.andThen_ok,fp];rw[Fh h0 h1];simp
 ·simp only[Instr.sliceBounds,Option.map_none,Option.map_some,Sem.run_bind,Sem.run_pure,Result.andThen_ok,fp];rw[Fh (by omega) h2];simp only[Result.andThen_ok];rw[Fh h0 (by omega)];rfl
theorem XG (s:ByteArray) (l h:Nat):s.extract l h=bs (((tl s).take h).drop l):=by
 rw[<- oG (s.extract l h)];congr 1
 show(s.extract l h).data.toList=_;rw[Lib.extract_data,List.drop_take];rfl
theorem Yc {t:TypeId} {x:SV} {lo hi:Option SV} (h:vf (.mk (k:=(P,t,U c,K)) (x,lo,hi))):
  ∃r,K r/\Yl c P (Instr.sliceAt t (den V x) (lo.map (den V)) (hi.map (den V)) none) w (den V r):=by
 unfold vf at h;split at h
 ·rename_i s lo hi q;simp only[A.mk.injEq,Prod.mk.injEq] at q;obtain⟨rfl,rfl,rfl⟩:=q;obtain⟨ht,h⟩:=h;obtain⟨l,hl,h⟩:=aO h;obtain⟨r,hr,h⟩:=aO h;simp only[Ky] at h;refine⟨_,h.2,fun hc=> ?_⟩;obtain⟨h0,h1,h2⟩:=h.1 hc;rw[zK] at hr h2;rw[fp,run_sliceAt_string (h:=ht)];simp only[Instr.slice,Sem.run_bind,run_underlying ht,Result.andThen_ok,Option.isSome_none,Bool.false_eq_true,if_false,Sem.run_pure];rw[QN hl hr h0 h1 h2];simp only[Result.andThen_ok,XG];rfl
 ·rename_i x m cp lo hi q;simp only[A.mk.injEq,Prod.mk.injEq] at q;obtain⟨rfl,rfl,rfl⟩:=q;obtain⟨l,hl,h⟩:=aO h;obtain⟨r,hr,h⟩:=aO h;obtain⟨e,he,hz,h⟩:=aO h;refine⟨_,h.2,fun hc=> ?_⟩;obtain⟨h0,h1,h2⟩:=h.1 hc;have hu:=og he;have Di:P.underlying t=some (.slice (P.elem t)):=by
   rw[hu];unfold Program.elem;rw[hu]
  rw[fp,run_sliceAt_slice (h:=Di)];simp only[Instr.slice,Sem.run_bind,run_underlying hu,Result.andThen_ok];rw[QN hl hr h0 h1 h2];simp only[Result.andThen_ok,BB hz,Sem.run_pure];rfl
 ·cases h
theorem Bd {t:TypeId} {ad:Addr} {v:Value} (h:(loadVar t ad).run P w= .ok v w):(Instr.loadAt t (.pointer (some ad))).run P w= .ok v w:=by
 simp [Instr.loadAt,Instr.sureAddr,h]
theorem RR (hS:Sat C n st a V D w) {k:Nat} {b:Bx} (h:iv st.bx k=some b) (bL:b.ty<oD) (j:Nat):w.cell? ⟨V.β k,j,none⟩=(b.cs.map (bK V))[j]? :=by
 obtain⟨rfl,hm⟩:=uz h;obtain⟨o,this,ho⟩:=(hS.heap.bx b hm).1;unfold ni at ho;rw[ah bL] at ho;subst ho;simp only[World.cell?,this,Option.isSome_none,Bool.false_eq_true,if_false];rw[<- Array.getElem?_toList]
theorem MW (hS:Sat C n st a V D w) {t:TypeId} {x:SV} (h:pv (.mk (k:=(P,t,U c,K)) (st,x))):∃r,K r/\Yl c P (Instr.loadAt t (den V x)) w (den V r):=by
 unfold pv at h;split at h
 ·rename_i ak k o q;simp only[A.mk.injEq,Prod.mk.injEq] at q;obtain⟨rfl,rfl⟩:=q;obtain⟨b,hb,bL,h⟩:=aO h;obtain⟨ag,jy,h⟩:=aO h;obtain⟨r,hr,h⟩:=aO h;refine⟨r,h,fun _=>Bd ?_⟩;have ht:=NU (V:=V) hr;cases ag with
  |none=>
   refine yN (cs:=[den V r]) jy (fun j u hu=> ?_) rfl;cases j with
   |zero=>rw[zG,RR hS hb bL];simp only[List.getElem?_cons_zero] at hu;rw[<- hu];exact ht
   |succ j=>simp at hu
  |some k' =>
   refine yN (cs:=((b.cs.map (bK V)).drop o).take k') jy (fun j u hu=> ?_) ⟨?_,ht.1⟩
   ·rw[zG,RR hS hb bL];rw[List.getElem?_take] at hu;split at hu
    ·rw[List.getElem?_drop] at hu;exact hu
    ·cases hu
   ·have:=ht.2;simp only[List.length_take,dI,List.length_map];omega
 ·rename_i ak k v o q;simp only[A.mk.injEq,Prod.mk.injEq] at q;obtain⟨rfl,rfl⟩:=q;obtain⟨b,hb,h⟩:=aO h;obtain⟨ag,jy,h⟩:=aO h;obtain⟨hv,rfl,rfl⟩:=xJ hS hb;obtain⟨_,hl,hx⟩:=xC hv.1;have key:o<b.xs.length->∃g,den V (.vp b.id b.ver o)= .pointer (some ⟨g,o,none⟩)/\∀j u,b.xs[j]? =some u->w.cell? ⟨g,j,none⟩=some u:=by
   intro ho;have hn:0<b.n:=by
    rcases Nat.eq_zero_or_pos b.n with h0 |h0
    ·rw[h0,Nat.zero_mul] at hl;omega
    ·exact h0
   obtain⟨g,hg,hc⟩:=hx hn;refine⟨g,?_,hc⟩;show Value.pointer ((V.γ b.id b.ver).a.map (·.add o))=_;rw[hg];simp only[Option.map_some,DT]
  cases ag with
  |none=>
   simp only[xT] at h;refine⟨_,h.2,fun hc=> ?_⟩;have ho:=h.1 hc;obtain⟨g,hg,jE⟩:=key ho;rw[hg,fp];refine Bd (yN (cs:=[b.xs.getD o undef]) jy (fun j u hu=> ?_) rfl);cases j with
   |zero=>
    simp only[List.getElem?_cons_zero,dT] at hu;rw[zG];refine jE _ _ ?_;rw[<- hu,Nat.add_zero,List.getD_eq_getElem?_getD,List.getElem?_eq_getElem ho];rfl
   |succ j=>simp at hu
  |some k' =>
   simp only[xT] at h;obtain⟨hk,h⟩:=h;refine⟨_,h.2,fun hc=> ?_⟩;have ho:=h.1 hc;obtain⟨g,hg,jE⟩:=key (by omega);rw[hg,fp];refine Bd (yN (cs:=(b.xs.drop o).take k') jy (fun j u hu=> ?_) ⟨by simp only[List.length_take,dI];omega,rfl⟩);rw[zG];refine jE _ _ ?_;rw[List.getElem?_take] at hu;split at hu
   ·rw[List.getElem?_drop] at hu;exact hu
   ·cases hu
 ·rename_i ak x q;simp only[A.mk.injEq,Prod.mk.injEq] at q;obtain⟨rfl,rfl⟩:=q;obtain⟨ag,jy,h⟩:=aO h;cases ag with
  |none=>
   simp only[yl] at h;obtain⟨v,h1,h2⟩:=h;refine⟨_,h2,fun hc=> ?_⟩;obtain⟨ad,rfl,jE⟩:=TO hS.mle (h1 hc);exact Bd (yN jy jE rfl)
  |some k' =>
   simp only[yl] at h;obtain⟨cs,h1,h2⟩:=h;refine⟨_,h2,fun hc=> ?_⟩;obtain⟨hr,hlen⟩:=h1 hc;obtain⟨ad,rfl,jE⟩:=TO hS.mle hr;exact Bd (yN jy jE ⟨hlen,rfl⟩)
 ·cases h
end
open Classical in
noncomputable def nl:List (Value×Value)->Value->Value->List (Value×Value)
 |[],s,x=>[(s,x)]
 |(a,v)::r,s,x=>if a=s then(a,x)::r else(a,v)::nl r s x
open Classical in
noncomputable def nv:List (Value×Value)->Value->Option (Nat×Value)
 |[],_=>none
 |(a,v)::r,s=>if a=s then some (0,v) else(nv r s).map fun x=>(x.1+1,x.2)
theorem OF (a v:Value) (l:List (Value×Value)):nW ((a,v)::l)=a::v::nW l:=rfl
theorem Ik (s:Value):∀(l:List (Value×Value)),my (nW l) s=(nv l s).map (·.2)
 |[]=>rfl
 |(a,v)::l=>by
  rw[OF,my,nv];by_cases h:a=s
  ·rw[ah h,ah h];rfl
  ·rw[af h,af h,Ik s l];cases nv l s<;>rfl
theorem Pk (s x:Value):∀(l:List (Value×Value)),wh (nW l) s x=nW (nl l s x)
 |[]=>rfl
 |(a,v)::l=>by
  rw[OF,wh,nl];by_cases h:a=s
  ·rw[ah h,ah h];rfl
  ·rw[af h,af h,Pk s x l];rfl
theorem Ji (s:Value):∀(es:List MapEntry) (i:Nat),wJ es s i=(nv (es.map fun e=>(e.key,e.val)) s).map fun x=>(i+x.1,x.2)
 |[],_=>rfl
 |e::es,i=>by
  simp only[wJ,bN,nv];by_cases h:e.key=s
  ·rw[ah h,ah h];rfl
  ·rw[af h,af h,Ji s es (i+1)];cases nv (es.map fun e=>(e.key,e.val)) s with
   |none=>rfl
   |some x=>simp only[Option.map_some];rw[show i+1+x.1=i+(x.1+1) by omega]
theorem Rt {g:Nat}:∀{l:List (Value×Value)} {s:Value} {y:Nat×Value},(∀x∈l,gM g x.1/\lr g x.2)->nv l s=some y->lr g y.2
 |[],_,_,_,h=>by cases h
 |(a,v)::l,s,y,hl,h=>by
  simp only[nv] at h;split at h
  ·cases h;exact(hl (a,v) (bY ..)).2
  ·obtain⟨y',h',rfl⟩:=Option.map_eq_some_iff.1 h;exact Rt (l:=l) (s:=s) (y:=y') (fun x hx=>hl x (bR _ hx)) h'
theorem QY {g:Nat} {s x:Value} (hs:gM g s) (hx:lr g x):∀{l:List (Value×Value)},(∀y∈l,gM g y.1/\lr g y.2)->∀y∈nl l s x,gM g y.1/\lr g y.2
 |[],_,y,hy=>by
  rw[List.mem_singleton.1 hy];exact⟨hs,hx⟩
 |(a,v)::l,hl,y,hy=>by
  rw[nl] at hy;have ha:=hl (a,v) (bY ..);have hr:=fun z hz=>hl z (bR _ hz)
  split at hy
  ·rcases List.mem_cons.1 hy with rfl |hy
   ·exact⟨ha.1,hx⟩
   ·exact hr y hy
  ·rcases List.mem_cons.1 hy with rfl |hy
   ·exact ha
   ·exact QY hs hx hr y hy
theorem YA {P:Program} {t:TypeId} (h:(jn P t).2=none):(jn P t).1≠1000002:=by
 unfold jn at h ⊢;split<;>rename_i hu
 ·rw[hu] at h;simp only at h ⊢;split<;>rename_i hk he
  ·simp
  ·exfalso;revert h;split
   ·simp_all
   ·simp
   ·simp_all
   ·simp_all
  ·simp
  ·simp
 ·simp
theorem XZ {g:Nat} {v:Value} (h:lr g v) (hg:g≠1000002):∃b,v= .bool b:=by
 unfold lr at h;rwa [af hg] at h
theorem aaj {P:Program} {w:World} {g:Nat} {v:Value} (h:gM g v):(Instr.keyThatStays v v).run P w= .ok v w:=by
 have e:Instr.sameBits 10000 v v=true:=by
  unfold gM at h;split at h
  ·obtain⟨s,n,rfl⟩:=h;have hs:(s==s)=true:=(MapKept.bytes_beq s s).2 rfl;simp [Instr.sameBits,hs]
  ·obtain⟨s,rfl⟩:=h;have hs:(s==s)=true:=(MapKept.bytes_beq s s).2 rfl;simp [Instr.sameBits,hs]
 unfold Instr.keyThatStays;rw[e];rfl
def F0 (c:Bool) (z:Value):Option Value->Value
 |some v=>if c=true then .tuple #[v,.bool true] else v
 |none=>if c=true then .tuple #[z,.bool false] else z
section
variable {P:Program} {w:World} {t:TypeId} {r pW:Nat} {es:Array MapEntry} {l:List (Value×Value)}
theorem Rr {g:Nat} (eE:es.toList.map (fun e=>(e.key,e.val))=l) (hk:∀x∈l,gM g x.1/\lr g x.2):∀x∈es.toList,gM g x.key:=fun x hx=>by
 have:(x.key,x.val)∈l:=by rw[<- eE];exact List.mem_map.2 ⟨x,hx,rfl⟩
 exact(hk _ this).1
theorem Xp (ht:v8 P t) (hb:w.heap[r]? =some (.map es pW)) (eE:es.toList.map (fun e=>(e.key,e.val))=l) (hk:∀x∈l,gM (jn P t).1 x.1/\lr (jn P t).1 x.2) {key:Value} (rI:gM (jn P t).1 key) (c:Bool):
  (Instr.lookup t (.map (some r)) key c).run P w= .ok (F0 c ((jn P t).2.getD (.bool false)) (my (nW l) key)) w:=by
 obtain⟨_,k,e,h1,h2,h3,h4⟩:=ht;have hc:=h2 w key es.isEmpty 9998 rI;have hf:=h3 w key es.toList rI (Rr eE hk);rw[Ji,eE] at hf;have hz:=h4 w;rw[Ik];cases hx:nv l key with
 |none=>
  rw[hx] at hf;cases c<;>simp [Instr.lookup,run_underlying h1,MapKept.run_getObj_map hb,hc,hf,hz,Result.andThen,F0]
 |some x=>
  rw[hx] at hf;cases c<;>simp [Instr.lookup,run_underlying h1,MapKept.run_getObj_map hb,hc,hf,Result.andThen,F0]
theorem Pj {s x:Value}:∀{l:List (Value×Value)},nv l s=none->nl l s x=l++[(s,x)]
 |[],_=>rfl
 |(a,v)::l,h=>by
  simp only[nv] at h;split at h
  ·cases h
  ·rename_i hs;rw[nl,af hs,Pj (Option.map_eq_none_iff.1 h)];rfl
theorem Ph {s x:Value}:∀{l:List (Value×Value)} {y:Nat×Value},nv l s=some y->∃h:y.1<l.length,l[y.1].1=s/\nl l s x=l.set y.1 (s,x)
 |[],_,h=>by cases h
 |(a,v)::l,y,h=>by
  simp only[nv] at h;split at h
  ·rename_i hs;cases h;exact⟨Nat.zero_lt_succ _,hs,by rw[nl,ah hs,hs];rfl⟩
  ·rename_i hs;obtain⟨y',h',rfl⟩:=Option.map_eq_some_iff.1 h;obtain⟨h1,h2,h3⟩:=Ph (x:=x) h';exact⟨Nat.succ_lt_succ h1,h2,by rw[nl,af hs,h3];rfl⟩
theorem WO (ht:v8 P t) (hb:w.heap[r]? =some (.map es pW)) (eE:es.toList.map (fun e=>(e.key,e.val))=l) (hk:∀x∈l,gM (jn P t).1 x.1/\lr (jn P t).1 x.2) {key:Value} (rI:gM (jn P t).1 key) (v:Value):
  ∃yG Aw,(Instr.mapUpdate t (.map (some r)) key v).run P w= .ok () {w with heap:=w.heap.setIfInBounds r (.map yG Aw)}/\
   yG.toList.map (fun e=>(e.key,e.val))=nl l key v:=by
 obtain⟨_,k,e,h1,h2,h3,h4⟩:=ht;have hc:=h2 w key false 9998 rI;have hf:=h3 w key es.toList rI (Rr eE hk);rw[Ji,eE] at hf;cases hx:nv l key with
 |none=>
  rw[hx] at hf;refine⟨es.push {key:=key,val:=v,born:=pW},pW+1,?_,?_⟩
  ·simp [Instr.mapUpdate,run_underlying h1,MapKept.run_getObj_map hb,hc,hf,MapKept.run_setObj_map _ hb,Result.andThen]
  ·rw[Pj hx,Array.toList_push,List.map_append,eE];rfl
 |some y=>
  rw[hx] at hf;obtain⟨hy,hky,hput⟩:=Ph (x:=v) hx;have hlen:es.toList.length=l.length:=by have:=congrArg List.length eE;simpa using this
  have hj:y.1<es.size:=by rw[<- Array.length_toList,hlen];exact hy
  have agR:(es[y.1]).key=key:=by
   have:=congrArg (·[y.1]?) eE;simp only[List.getElem?_map,Array.getElem?_toList,Array.getElem?_eq_getElem hj,List.getElem?_eq_getElem hy,Option.map_some,dT] at this;rw[<- hky,<- this]
  refine⟨es.modify y.1 fun e=>{e with key:=key,val:=v},pW,?_,?_⟩
  ·simp [Instr.mapUpdate,run_underlying h1,MapKept.run_getObj_map hb,hc,hf,MapKept.run_setObj_map _ hb,Result.andThen,hj,agR,aaj rI]
  ·rw[hput];apply List.ext_getElem?
   intro q;have hq:=congrArg (·[q]?) eE;simp only[List.getElem?_map,Array.getElem?_toList] at hq ⊢;rw[List.getElem?_set,Array.getElem?_modify];by_cases e:y.1=q
   ·subst e;simp [hj,hy]
   ·simp only[af e];exact hq
end
/-! Which maps are so. -/
theorem MZ {s:ByteArray}:∀(es:List MapEntry) (i:Nat),(∀x∈es,∃a,x.key= .string a)->Instr.findNow .string (.string s) es i=some (wJ es (.string s) i)
 |[],_,_=>rfl
 |e::es,i,h=>by
  obtain⟨a,ha⟩:=h e (bY ..);have ih:=MZ (s:=s) es (i+1) fun x hx=>h x (bR _ hx)
  simp only[Instr.findNow,ha,Instr.sameNow,wJ];by_cases hs:s=a
  ·have:(s==a)=true:=(MapKept.bytes_beq s a).2 hs;rw[this,ah (by rw[ha,hs])]
  ·have:(s==a)=false:=by
    cases hb:(s==a) with
    |false=>rfl
    |true=>exact absurd ((MapKept.bytes_beq s a).1 hb) hs
   rw[this,af (fun h=>hs (Value.string.inj (ha.symm.trans h)).symm)];exact ih
theorem IN {g:Nat} {v:Value} (hg:g≠1000001):gM g v↔∃s,v= .string s:=by unfold gM;rw[af hg]
theorem Yz {P:Program} {t k e:TypeId} (h1:P.underlying t=some (.map k e)) (h2:P.underlying k=some .string) (hg:oD<=(jn P t).1/\(jn P t).1≠1000001)
  (hz:∀w,(zeroValue e).run P w= .ok ((jn P t).2.getD (.bool false)) w):v8 P t:=by
 refine⟨hg.1,k,e,h1,fun w key em n hk=> ?_,fun w key es hk eE=> ?_,hz⟩
 ·obtain⟨s,rfl⟩:=(IN hg.2).1 hk;exact MapKept.run_checkKey (P:=P) (w:=w) (kt:=k) h2 (by simp [MapKept.IsKey]) em (n+1)
 ·obtain⟨s,rfl⟩:=(IN hg.2).1 hk;exact MapKept.run_findKey (P:=P) (w:=w) (kt:=k) h2 (MZ es 0 fun x hx=>(IN hg.2).1 (eE x hx))
theorem NP {P:Program} {e:TypeId} {i:TypeInfo} {z:Value} (h1:P.info? e=some i) (h2:i.zero=some z) (w:World):(zeroValue e).run P w= .ok z w:=by simp [zeroValue,typeInfo,h1,h2]
section
variable {P:Program} {C:Ctx} {n:Nat} {st:LS} {a:Act} {V:Vl} {D:Nat->Nat} {w:World} {K:SV->Prop}
theorem Ee {V:Vl}:∀{cs:List SV} {l:List Value},mX cs=some l->cs.map (bK V)=l
 |[],l,h=>by simp only[mX,dT] at h;subst h;rfl
 |s::r,l,h=>by
  simp only[mX,Option.bind_eq_some_iff,Option.map_eq_some_iff] at h;obtain⟨x,hx,l',hl,rfl⟩:=h;simp only[bN];rw[Ee hl];cases s<;>simp only[plain,dT] at hx<;>first |(subst hx;rfl) |cases hx
theorem H7 {V:Vl} {s:SV} {v:Value} (h:po s=some v):den V s=v:=by
 cases s with
 |v x=>cases h;rfl
 |agg cs=>
  obtain⟨l,hl,rfl⟩:=Option.map_eq_some_iff.1 h;show Value.agg ⟨_⟩=_;rw[Ee hl]
 |box k o=>cases h
 |vec k u=>cases h
 |vp k u o=>cases h
 |mp k=>cases h
 |mv f k o=>cases h
 |tup l=>cases h
theorem Sr (hS:Sat C n st a V D w) {k:Nat} {b:Bx} (hb:iv st.bx k=some b) (bL:oD<=b.ty):
  ∃es pW l,w.heap[V.β k]? =some (.map es pW)/\b.cs.map (bK V)=nW l/\es.toList.map (fun e=>(e.key,e.val))=l/\∀x∈l,gM b.ty x.1/\lr b.ty x.2:=by
 obtain⟨rfl,hm⟩:=uz hb;obtain⟨o,ho,hob⟩:=(hS.heap.bx b hm).1;unfold ni at hob;rw[af (Nat.not_lt.2 bL)] at hob;obtain⟨es,pW,l,rfl,h1,h2,h3⟩:=hob;exact⟨es,pW,l,ho,h1,h2,h3⟩
theorem Xa (hS:Sat C n st a V D w) {t:TypeId} {c:Bool} {x i:SV} (h:uS (.mk (k:=(P,t,c,K)) (st,x,po i))):∃r,K r/\(Instr.lookup t (den V x) (den V i) c).run P w= .ok (den V r) w:=by
 unfold uS at h;split at h
 ·rename_i ak k key q;simp only[A.mk.injEq,Prod.mk.injEq] at q;obtain⟨rfl,rfl,rI⟩:=q;obtain⟨b,hb,bL,ht,hk,h⟩:=aO h;obtain⟨l,hl,hK⟩:=aO h;have bL:=beq_iff_eq.1 bL;obtain⟨es,pW,l',h1,h2,h3,h4⟩:=Sr hS hb (by rw[bL];exact ht.1);rw[Ee hl] at h2;rw[bL] at h4 hk;subst h2;have dE:=Xp (P:=P) (w:=w) ht h1 h3 h4 hk c;rw[H7 rI];unfold uT at hK;split at hK
  ·rename_i q;simp only[A.mk.injEq,Prod.mk.injEq] at q;obtain⟨rfl,hz⟩:=q;refine⟨_,hK,?_⟩;rw[hz] at dE;rw[show Instr.lookup t (den V (.mp k)) key false=Instr.lookup t (.map (some (V.β k))) key false from rfl,dE];rw[Ik];cases hx:nv l' key with
   |none=>rfl
   |some y=>
    obtain⟨bv,hbv⟩:=XZ (Rt h4 hx) (YA hz);simp only[Option.map_some,F0,hbv];rfl
  ·rename_i z q;simp only[A.mk.injEq,Prod.mk.injEq] at q;obtain⟨rfl,hz⟩:=q;rw[hz] at dE;cases hf:my (nW l') key with
   |none=>
    rw[hf] at dE;exact⟨_,hK.2 hf,dE⟩
   |some v=>
    rw[hf] at dE;exact⟨_,hK.1 v hf,dE⟩
  ·rename_i z q;simp only[A.mk.injEq,Prod.mk.injEq] at q;obtain⟨rfl,hz⟩:=q;rw[hz] at dE;cases hf:my (nW l') key with
   |none=>
    rw[hf] at dE;exact⟨_,hK.2 hf,dE⟩
   |some v=>
    rw[hf] at dE;exact⟨_,hK.1 v hf,dE⟩
  ·cases hK
 ·cases h
end
section
variable {C:Ctx} {n:Nat} {st:LS} {a:Act} {V:Vl} {D:Nat->Nat} {w:World} {P:Program} {p:bV} {K:SV->Prop} {c:Bool}
theorem O8:∀(l cs:List SV) (off:Nat),(lu cs off l).length=cs.length
 |[],_,_=>rfl
 |c::r,cs,off=>by simp only[lu];rw[O8 r];simp
theorem IQ {V:Vl}:∀(l:List SV) (cs:List SV) (off k:Nat),
  (List.zipIdx (l.map (bK V)) k).foldl (fun(cs:Array Value) (x:Value×Nat)=>cs.setIfInBounds (off+x.2) x.1) ⟨cs.map (bK V)⟩=⟨(lu cs (off+k) l).map (bK V)⟩
 |[],_,_,_=>rfl
 |c::r,cs,off,k=>by
  simp only[bN,List.zipIdx_cons,List.foldl_cons,lu];have:(⟨cs.map (bK V)⟩:Array Value).setIfInBounds (off+k) (bK V c)=⟨(cs.set (off+k) c).map (bK V)⟩:=by
   apply Array.ext'
   simp
  rw[this,IQ r (cs.set (off+k) c) off (k+1)];rfl
theorem Pb {α β:Type} (f:α->Sem β) (g:α->β):∀(l:List α),(∀x∈l,∀w,(f x).run P w= .ok (g x) w)->∀w,(l.mapM f).run P w= .ok (l.map g) w
 |[],_,w=>by simp
 |x::r,h,w=>by
  simp only[List.mapM_cons,Sem.run_bind,h x (bY ..),Result.andThen_ok,Pb f g r (fun y hy=>h y (bR _ hy)),Sem.run_pure,bN]
theorem ZF {α β:Type} (f:α->Sem β) (g:α->β) (l:Array α) (h:∀x∈l.toList,∀w,(f x).run P w= .ok (g x) w):(l.mapM f).run P w= .ok (l.map g) w:=by
 obtain⟨l⟩:=l;simp only[List.mapM_toArray,Sem.run_map,Pb f g l h,Result.andThen_ok];simp
theorem HA {t:TypeId} {cs:List SV} (h:fB P t=some cs):∃z,(zeroValue t).run P w= .ok z w/\z.cells=⟨cs.map (bK V)⟩:=by
 unfold fB at h;simp only[Option.map_eq_some_iff,Option.bind_eq_some_iff] at h;obtain⟨z,⟨i,hi,hz⟩,rfl⟩:=h;refine⟨z,by simp [zeroValue,typeInfo,hi,hz],?_⟩;rw[z7]
theorem MN (hS:Sat C n st a V D w) (hp:gq st.rho p) (hc:cF st.rho p=true) {t:TypeId} {fs:Array Field} (hf:P.underlying t=some (.struct fs)):
  ∀(parts:List (Nat×Operand)) (cs dH:List SV),vO P t st p parts cs=some dH->
   Instr.fill (fun i=>(fs.map fun f=>(f.offset,bX P f.type))[i]?) ⟨cs.map (bK V)⟩ (parts.map fun x=>(x.1,a.eval x.2))=some ⟨dH.map (bK V)⟩
 |[],cs,dH,h=>by simp only[vO,dT] at h;subst h;rfl
 |(i,x)::r,cs,dH,h=>by
  simp only[vO,Option.bind_eq_some_iff] at h;obtain⟨⟨off,ag,sz⟩,hfo,l,⟨s,hs,hl⟩,h⟩:=h;split at h
  ·rename_i eD;split at h
   ·rename_i uZ;dsimp only at eD uZ h;obtain⟨fs',y,hs',hy,rfl,_,_,rfl⟩:=IS hfo;rw[hf] at hs';cases hs';have qJ:=dJ hS hp hc hs;have cH:=DU (V:=V) hl;have Cx:(a.eval x).cells.size=l.length:=by rw[qJ,cH];simp
    have j2:(fs.map fun f=>(f.offset,bX P f.type))[i]? =some (y.offset,bX P y.type):=by
     simp [Array.getElem?_map,hy]
    simp only[bN,Instr.fill,j2]
    rw[af (by
     simp only[Cx,List.size_toArray,List.length_map,Bool.or_eq_true,bt,not_or,Decidable.not_not]
     exact⟨by simpa using eD,by omega⟩)]
    have Kl:((a.eval x).cells.zipIdx.foldl (fun(cs:Array Value) (x:Value×Nat)=>cs.setIfInBounds (y.offset+x.2) x.1) ⟨cs.map (bK V)⟩)=⟨(lu cs y.offset l).map (bK V)⟩:=by
     rw[qJ,cH,<- Array.foldl_toList];have:=IQ (V:=V) l cs y.offset 0;simp only[Nat.add_zero] at this;rw[<- this];simp [Array.toList_zipIdx]
    have ih:=MN hS hp hc hf r _ dH h;rw[<- ih,<- Kl]
   ·cases h
  ·cases h
theorem X7 {fs:Array Field} (h:(fs.toList.all fun x=>(P.info? x.type).isSome)=true):
  (fs.mapM (m:=Sem) fun(f:Field)=>do pure (f.offset,<- sizeOf f.type)).run P w= .ok (fs.map fun f=>(f.offset,bX P f.type)) w:=by
 refine ZF _ _ fs (fun x hx w=> ?_);have:=List.all_eq_true.1 h x hx;obtain⟨i,hi⟩:=Option.isSome_iff_exists.1 this;simp [sizeOf,typeInfo,hi,bX]
theorem WI (hS:Sat C n st a V D w) (hp:gq st.rho p) (hc:cF st.rho p=true) {t:TypeId} {parts:Array (Nat×Operand)} {z cs:List SV}
  (hb:nO P t=true) (hz:fB P t=some z) (h:vO P t st p parts.toList z=some cs):
  (Instr.build t (parts.map fun x=>(x.1,a.eval x.2))).run P w= .ok (.agg ⟨cs.map (bK V)⟩) w:=by
 unfold nO at hb;split at hb
 ·rename_i fs hf;obtain⟨zv,hzv,hzc⟩:=HA (V:=V) (w:=w) hz;have Ac:=MN hS hp hc hf parts.toList z cs h;simp only[Instr.build,Sem.run_bind,hzv,Result.andThen_ok,run_underlying hf,X7 hb,hzc];have:(parts.map fun x=>(x.1,a.eval x.2)).toList=parts.toList.map fun x=>(x.1,a.eval x.2):=by simp
  rw[this,Ac];simp
 ·cases hb
theorem QW (hS:Sat C n st a V D w) (hp:gq st.rho p) (hc:cF st.rho p=true) {x:Option Operand} {s:Option SV} (h:xU st p x=some s):x.map a.eval=s.map (den V):=by
 cases x with
 |none=>simp only[xU,dT] at h;subst h;rfl
 |some x=>
  simp only[xU,Option.map_eq_some_iff] at h;obtain⟨s,hs,rfl⟩:=h;simp only[Option.map_some,dJ hS hp hc hs]
theorem Ie {s r:SV} (h:nH s=some r):den V r=nu V s:=by
 cases s<;>simp only[nH,dT] at h<;>first |(subst h;rfl) |cases h
theorem Xe {x:SV} {i:Nat} (h:uV (.mk (k:=K) (x,i))):∃r,K r/\(Instr.extract (den V x) i).run P w= .ok (den V r) w:=by
 unfold uV at h;split at h
 ·rename_i l i' q;simp only[A.mk.injEq,Prod.mk.injEq] at q;obtain⟨rfl,rfl⟩:=q;obtain⟨r,hr,hK⟩:=aO h;obtain⟨s,hs,hr⟩:=vv hr;refine⟨r,hK,?_⟩;have:(⟨l.map (nu V)⟩:Array Value)[i]? =some (den V r):=by
   rw[<- Array.getElem?_toList];simp only[List.getElem?_map,hs,Option.map_some,Ie hr]
  rw[ada];simp only[Instr.extract,this,Sem.run_pure]
 ·rename_i l i' q;simp only[A.mk.injEq,Prod.mk.injEq] at q;obtain⟨rfl,rfl⟩:=q;obtain⟨r,hr,hK⟩:=aO h;simp only[Option.map_eq_some_iff] at hr;obtain⟨v,hv,rfl⟩:=hr;refine⟨_,hK,?_⟩;have:(⟨l⟩:Array Value)[i]? =some v:=by rw[<- Array.getElem?_toList];exact hv
  simp only[fp,Instr.extract,this,Sem.run_pure]
 ·cases h
theorem Xb (hS:Sat C n st a V D w) {t ty:TypeId} {x:SV} (h:tm (.mk (k:=(P,t,K)) (st,x))):∃r,K r/\(Builtin.len_ #[t] ty #[den V x]).run P w= .ok (den V r) w:=by
 unfold tm at h;split at h
 ·rename_i ak s q;simp only[A.mk.injEq,Prod.mk.injEq] at q;obtain⟨rfl,rfl⟩:=q;refine⟨_,h.2,?_⟩;simp [Builtin.len_,run_underlying h.1,fp,goInt,zK]
 ·rename_i ak x m cp q;simp only[A.mk.injEq,Prod.mk.injEq] at q;obtain⟨rfl,rfl⟩:=q;obtain⟨e,he,hK⟩:=aO h;refine⟨_,hK,?_⟩;simp [Builtin.len_,run_underlying (og he),fp,goInt]
 ·rename_i ak k v q;simp only[A.mk.injEq,Prod.mk.injEq] at q;obtain⟨rfl,rfl⟩:=q;obtain⟨e,he,h⟩:=aO h;obtain⟨b,hb,hK⟩:=aO h;obtain⟨hv,rfl,rfl⟩:=xJ hS hb;obtain⟨hn,_,_⟩:=xC hv.1;refine⟨_,hK,?_⟩;show(Builtin.len_ #[t] ty #[(V.γ b.id b.ver).val]).run P w=_;unfold Hd.val;simp [Builtin.len_,run_underlying (og he),fp,goInt,hn]
 ·cases h
theorem W8 {ts:Array TypeId} {ty:TypeId} {x y:SV} (h:we (.mk (k:=K) (x,y))):∃r,K r/\(Builtin.min_ ts ty #[den V x,den V y]).run P w= .ok (den V r) w:=by
 unfold we at h;split at h
 ·rename_i k i k' j q;simp only[A.mk.injEq,Prod.mk.injEq] at q;obtain⟨rfl,rfl⟩:=q;exact⟨_,h,by simp [Builtin.min_,Builtin.min2,fp]⟩
 ·cases h
theorem W9 {ts:Array TypeId} {ty:TypeId} {x y:SV} (h:wg (.mk (k:=K) (x,y))):∃r,K r/\(Builtin.max_ ts ty #[den V x,den V y]).run P w= .ok (den V r) w:=by
 unfold wg at h;split at h
 ·rename_i k i k' j q;simp only[A.mk.injEq,Prod.mk.injEq] at q;obtain⟨rfl,rfl⟩:=q;exact⟨_,h,by simp [Builtin.max_,Builtin.max2,fp]⟩
 ·cases h
theorem Ws {ts:Array TypeId} {ty:TypeId} {x y z u:SV} (h:vW (.mk (k:=K) (x,y,z,u))):∃r,K r/\(Builtin.max_ ts ty #[den V x,den V y,den V z,den V u]).run P w= .ok (den V r) w:=by
 unfold vW at h;split at h
 ·rename_i k a k' b k2 c k3 d q;simp only[A.mk.injEq,Prod.mk.injEq] at q;obtain⟨rfl,rfl,rfl,rfl⟩:=q;exact⟨_,h,by simp [Builtin.max_,Builtin.max2,fp,mx]<;>rfl⟩
 ·cases h
theorem Wq (hS:Sat C n st a V D w) (hp:gq st.rho p) {g:Gd} {x y:Operand} (hg:g∈st.rho) (h:uK (.mk (k:=(p,x,y,st,g,K)) (Cj x y))):
  ∃r,K r/\(cF st.rho p=true->a.tmps.getD g.slot undef= .bool g.b.val/\(if g.b.val=true then a.eval x else a.eval y)=den V r):=by
 obtain⟨lE,kI,Cv⟩:=hS.rho g hg;have jE:cF st.rho p=true->nZ g.p p=true->a.tmps.getD g.slot undef= .bool g.b.val/\cF st.rho g.p=true:=fun hc hs=>by
  have:=Et hs hc;rw[this,ah rfl] at Cv;exact⟨by simp [Cv],this⟩
 have side:∀b,g.b.val=b->cF st.rho g.p=true->cF st.rho ((g.i,b)::g.p)=true:=fun b hb hc=>by
  simp only[cF,E7 lE,hb,hc,Bool.and_true];cases b<;>simp
 have wB:∀b,gq st.rho ((g.i,b)::g.p):=fun b x hx=>by
  rcases List.mem_cons.1 hx with rfl |hx
  ·exact⟨g,lE⟩
  ·exact kI x hx
 unfold uK at h;split at h
 ·rename_i i s q _;obtain⟨hs,h⟩:=h;obtain⟨r,hr,hK⟩:=aO h;refine⟨r,hK,fun hc=> ?_⟩;obtain⟨h1,h2⟩:=jE hc hs;exact⟨h1,by simp only[GB.val,if_true];exact dJ hS (wB true) (side true rfl h2) hr⟩
 ·rename_i i s q _;obtain⟨hs,h⟩:=h;obtain⟨r,hr,hK⟩:=aO h;refine⟨r,hK,fun hc=> ?_⟩;obtain⟨h1,h2⟩:=jE hc hs;exact⟨h1,by simp only[GB.val,Bool.false_eq_true,if_false];exact dJ hS (wB false) (side false rfl h2) hr⟩
 ·rename_i i s q b md heq;obtain⟨hs,h⟩:=h;obtain⟨sx,hx,h⟩:=aO h;obtain⟨sy,hy,h⟩:=aO h;have Mb:cF st.rho p=true->b=true->a.eval x=den V sx:=fun hc hb=>dJ hS (wB true) (side true hb (jE hc hs).2) hx
  have Ma:cF st.rho p=true->b=false->a.eval y=den V sy:=fun hc hb=>dJ hS (wB false) (side false hb (jE hc hs).2) hy
  unfold uL at h;split at h
  ·rename_i b' a1 q';simp only[A.mk.injEq,Prod.mk.injEq] at q';obtain⟨rfl,rfl,rfl⟩:=q';refine⟨_,h,fun hc=>⟨(jE hc hs).1,?_⟩⟩;cases b with
   |true=>simp only[GB.val,if_true,Mb hc rfl,fp,Bool.true_and]
   |false=>simp only[GB.val,Bool.false_eq_true,if_false,Ma hc rfl,fp,Bool.false_and]
  ·rename_i b' a1 q';simp only[A.mk.injEq,Prod.mk.injEq] at q';obtain⟨rfl,rfl,rfl⟩:=q';refine⟨_,h,fun hc=>⟨(jE hc hs).1,?_⟩⟩;cases b with
   |true=>simp only[GB.val,if_true,Mb hc rfl,fp,Bool.true_or]
   |false=>simp only[GB.val,Bool.false_eq_true,if_false,Ma hc rfl,fp,Bool.false_or]
  ·rename_i b' a1 a2 q';simp only[A.mk.injEq,Prod.mk.injEq] at q';obtain⟨rfl,rfl,rfl⟩:=q';refine⟨_,h,fun hc=>⟨(jE hc hs).1,?_⟩⟩;cases b with
   |true=>simp only[GB.val,if_true,Mb hc rfl,fp,cond_true]
   |false=>simp only[GB.val,Bool.false_eq_true,if_false,Ma hc rfl,fp,cond_false]
  ·cases h
theorem H4 (hS:Sat C n st a V D w) (hp:gq st.rho p) {o:Oper} {op:Op} (ho:o.op=op) (h:qOp (.mk (k:=(P,op,K)) (st,p))):
  ∃s,K s/\(cF st.rho p=true->(execOp a.eval o).run P w= .ok (.value (den V s)) w):=by
 unfold qOp at h;split at h
 ·rename_i x ak p' q;cases q;obtain⟨s,hs,hK⟩:=aO h;exact⟨s,hK,fun hc=>by simp only[execOp,ho,Sem.run_pure,dJ hS hp hc hs]⟩
 ·rename_i x ak p' q;cases q;obtain⟨s,hs,hK⟩:=aO h;exact⟨s,hK,fun hc=>by simp only[execOp,ho,Sem.run_pure,dJ hS hp hc hs]⟩
 ·rename_i t x y ak p' q;cases q;obtain⟨g,hg,h'⟩:=aO h;obtain⟨fF,hm⟩:=aad hg;obtain⟨r,hK,hr⟩:=Wq hS hp hm h';refine⟨r,hK,fun hc=> ?_⟩;obtain⟨h1,h2⟩:=hr hc;have he:a.eval (.tmp t)= .bool g.b.val:=by rw[<- fF];exact h1
  simp only[execOp,ho,he,asBool,Sem.run_bind,Sem.run_pure,Result.andThen_ok,h2]
 ·rename_i x ak p' q;cases q;obtain⟨s,hs,h⟩:=aO h;obtain⟨r,hK,e,hn⟩:=W7 (V:=V) h;refine⟨r,hK,fun hc=> ?_⟩;have qJ:=dJ hS hp hc hs;rw[e,<- qJ];exact aaJ ho (by rw[qJ];exact hn hc)
 ·rename_i Vu t x t' ak p' q;cases q;obtain⟨sx,hx,h⟩:=aO h;obtain⟨r,hK,hr⟩:=Wr (V:=V) (w:=w) (o:=x) h;refine⟨r,hK,fun hc=> ?_⟩;have:=kM (hr hc);rw[<- dJ hS hp hc hx] at this;simp only[execOp,ho];exact this
 ·rename_i Vu t x y t' ak p' _ q;cases q;obtain⟨sx,hx,h⟩:=aO h;obtain⟨sy,hy,h⟩:=aO h;obtain⟨r,hK,hr⟩:=XO (V:=V) (w:=w) (o:=x) (o' :=y) h;refine⟨r,hK,fun hc=> ?_⟩;have:=kM (hr hc);rw[<- dJ hS hp hc hx,<- dJ hS hp hc hy] at this;simp only[execOp,ho];exact this
 ·rename_i uop t x ak p' q;cases q;obtain⟨sx,hx,h⟩:=aO h;obtain⟨r,hK,hr⟩:=Yb (V:=V) (w:=w) (P:=P) h;refine⟨r,hK,fun hc=> ?_⟩;have:=kM (hr hc);rw[<- dJ hS hp hc hx] at this;simp only[execOp,ho];exact this
 ·rename_i src dst x ak p' q;cases q;obtain⟨sx,hx,h⟩:=aO h;obtain⟨r,hK,hr⟩:=Wt hS h;refine⟨r,hK,fun hc=> ?_⟩;have:=kM (hr hc);rw[<- dJ hS hp hc hx] at this;simp only[execOp,ho];exact this
 ·rename_i s x f ak p' q;cases q;obtain⟨sx,hx,h⟩:=aO h;obtain⟨⟨off,ag,sz⟩,hf,h⟩:=aO h;obtain⟨r,hK,hr⟩:=Xd hS hf h;refine⟨r,hK,fun hc=> ?_⟩;have:=kM (hr hc);rw[<- dJ hS hp hc hx] at this;simp only[execOp,ho];exact this
 ·rename_i s x f ak p' q;cases q;obtain⟨cs,gX,h⟩:=aO h;obtain⟨sx,hx,gX⟩:=vv gX;obtain⟨⟨off,ag,sz⟩,hf,h⟩:=aO h;obtain⟨r,hr,hK⟩:=aO h;refine⟨r,hK,fun hc=> ?_⟩;have:=kM (VZ (V:=V) (w:=w) hf gX hr);rw[<- dJ hS hp hc hx] at this;simp only[execOp,ho];exact this
 ·rename_i t x i ak p' q;cases q;obtain⟨sx,hx,h⟩:=aO h;obtain⟨si,hi,h⟩:=aO h;obtain⟨e,he,h⟩:=aO h;obtain⟨r,hK,hr⟩:=Xc hS he h;refine⟨r,hK,fun hc=> ?_⟩;have:=kM (hr hc);rw[<- dJ hS hp hc hx,<- dJ hS hp hc hi] at this;simp only[execOp,ho];exact this
 ·rename_i t x i ak p' q;cases q;obtain⟨sx,hx,h⟩:=aO h;obtain⟨si,hi,h⟩:=aO h;obtain⟨r,hK,hr⟩:=Yh (V:=V) (w:=w) h;refine⟨r,hK,fun hc=> ?_⟩;have:=kM (hr hc);rw[<- dJ hS hp hc hx,<- dJ hS hp hc hi] at this;simp only[execOp,ho];exact this
 ·rename_i t x lo hi ak p' q;cases q;obtain⟨sx,hx,h⟩:=aO h;obtain⟨sl,hl,h⟩:=aO h;obtain⟨sh,hh,h⟩:=aO h;obtain⟨r,hK,hr⟩:=Yc (V:=V) (w:=w) h;refine⟨r,hK,fun hc=> ?_⟩;have:=kM (hr hc);rw[<- dJ hS hp hc hx,<- QW hS hp hc hl,<- QW hS hp hc hh] at this;simp only[execOp,ho];exact this
 ·rename_i t x ak p' q;cases q;obtain⟨sx,hx,h⟩:=aO h;obtain⟨r,hK,hr⟩:=MW hS h;refine⟨r,hK,fun hc=> ?_⟩;have:=kM (hr hc);rw[<- dJ hS hp hc hx] at this;simp only[execOp,ho];exact this
 ·rename_i x i ak p' q;cases q;obtain⟨sx,hx,h⟩:=aO h;obtain⟨r,hK,hr⟩:=Xe (V:=V) (P:=P) (w:=w) h;refine⟨r,hK,fun hc=> ?_⟩;have:=kM hr;rw[<- dJ hS hp hc hx] at this;simp only[execOp,ho];exact this
 ·rename_i t parts ak p' q;cases q;obtain⟨hb,h⟩:=h;obtain⟨z,hz,h⟩:=aO h;obtain⟨cs,gX,hK⟩:=aO h;refine⟨_,hK,fun hc=> ?_⟩;simp only[execOp,ho];exact kM (WI hS hp hc hb hz gX)
 ·rename_i x t ak p' q;cases q;obtain⟨sx,hx,h⟩:=aO h;obtain⟨r,hK,hr⟩:=Xb (ty:=o.type) hS h;refine⟨r,hK,fun hc=> ?_⟩;rw[<- dJ hS hp hc hx] at hr;simp only[execOp,ho,resolve,Sem.run_bind,Sem.run_pure,Result.andThen_ok,invoke,builtin];simp only[List.map_toArray,bN,List.map_nil,hr,Result.andThen_ok]
 ·rename_i x y ts ak p' q;cases q;obtain⟨sx,hx,h⟩:=aO h;obtain⟨sy,hy,h⟩:=aO h;obtain⟨r,hK,hr⟩:=W8 (V:=V) (P:=P) (w:=w) (ts:=ts) (ty:=o.type) h;refine⟨r,hK,fun hc=> ?_⟩;rw[<- dJ hS hp hc hx,<- dJ hS hp hc hy] at hr;simp only[execOp,ho,resolve,Sem.run_bind,Sem.run_pure,Result.andThen_ok,invoke,builtin];simp only[List.map_toArray,bN,List.map_nil,hr,Result.andThen_ok]
 ·rename_i t x i cm ak p' q;cases q;obtain⟨sx,hx,h⟩:=aO h;obtain⟨si,hi,h⟩:=aO h;obtain⟨r,hK,hr⟩:=Xa hS h;refine⟨r,hK,fun hc=> ?_⟩;have:=kM hr;rw[<- dJ hS hp hc hx,<- dJ hS hp hc hi] at this;simp only[execOp,ho];exact this
 ·rename_i x y ts ak p' q;cases q;obtain⟨sx,hx,h⟩:=aO h;obtain⟨sy,hy,h⟩:=aO h;obtain⟨r,hK,hr⟩:=W9 (V:=V) (P:=P) (w:=w) (ts:=ts) (ty:=o.type) h;refine⟨r,hK,fun hc=> ?_⟩;rw[<- dJ hS hp hc hx,<- dJ hS hp hc hy] at hr;simp only[execOp,ho,resolve,Sem.run_bind,Sem.run_pure,Result.andThen_ok,invoke,builtin];simp only[List.map_toArray,bN,List.map_nil,hr,Result.andThen_ok]
 ·rename_i x y z u ts ak p' q;cases q;obtain⟨sx,hx,h⟩:=aO h;obtain⟨sy,hy,h⟩:=aO h;obtain⟨sz,hz,h⟩:=aO h;obtain⟨su,hu,h⟩:=aO h;obtain⟨r,hK,hr⟩:=Ws (V:=V) (P:=P) (w:=w) (ts:=ts) (ty:=o.type) h;refine⟨r,hK,fun hc=> ?_⟩;rw[<- dJ hS hp hc hx,<- dJ hS hp hc hy,<- dJ hS hp hc hz,<- dJ hS hp hc hu] at hr;simp only[execOp,ho,resolve,Sem.run_bind,Sem.run_pure,Result.andThen_ok,invoke,builtin];simp only[List.map_toArray,bN,List.map_nil,hr,Result.andThen_ok]
 ·cases h
end
theorem MC {d d' :Nat} {o o' UB:Option Obj} (hd:d<=d') (h:sQ d o o') (h' :sQ d' o' UB):sQ d o UB:=by
 unfold sQ at h;split at h
 ·rename_i c t f;obtain⟨c',t',f',rfl,h1⟩:=h;obtain⟨c'',t'',f'',rfl,h2⟩:=h';exact⟨c'',t'',f'',rfl,fun j hj=>(h2 j (by omega)).trans (h1 j hj)⟩
 ·rename_i cQ;subst h;unfold sQ at h' ⊢;split
  ·exact absurd rfl (cQ _ _ _)
  ·split at h'
   ·exact absurd rfl (cQ _ _ _)
   ·exact h'
theorem ub {d:Nat} {o o' :Option Obj} (h:o' =o):sQ d o o' :=by
 subst h;unfold sQ;split
 ·exact⟨_,_,_,rfl,fun _ _=>rfl⟩
 ·rfl
theorem Mem.le_refl (m:Mem) (h:Wf m.w m.D):m.le m:=fun b=>⟨au _,fun h0=>⟨by
 rcases Nat.lt_or_ge b m.w.heap.size with h1 |h1
 ·exact h1
 ·rw[h b h1] at h0;omega,ub rfl⟩⟩
theorem Mem.le_trans {m m' kq:Mem} (h:m.le m') (h' :m'.le kq):m.le kq:=fun b=>
 ⟨cZ (h b).1 (h' b).1,fun h0=>⟨((h b).2 h0).1,MC (h b).1 ((h b).2 h0).2 ((h' b).2 (eM h0 (h b).1)).2⟩⟩
theorem Mem.le_same {w w' :World} {D D' :Nat->Nat} (hw:Wf w D) (h:∀b,b<w.heap.size->D b<=D' b/\(0<D b->w'.heap[b]? =w.heap[b]?)):Mem.le ⟨w,D⟩ ⟨w',D'⟩:=fun b=>by
 rcases Nat.lt_or_ge b w.heap.size with h1 |h1
 ·exact⟨(h b h1).1,fun h0=>⟨h1,ub ((h b h1).2 h0)⟩⟩
 ·have:=hw b h1;exact⟨by dsimp only;omega,fun h0=>by dsimp only at h0;omega⟩
theorem Frm.refl (F:Nat->Prop) (w:World) (D:Nat->Nat):Frm F w D w D:=⟨rfl,rfl,rfl,au _,fun _ _ _=>⟨rfl,rfl⟩⟩
theorem Frm.trans {F S:Nat->Prop} {w w' qB:World} {D D' Vz:Nat->Nat} (h:Frm F w D w' D') (h' :Frm S w' D' qB Vz) (hs:∀b,S b->F b\/w.heap.size<=b):Frm F w D qB Vz:=
 ⟨h'.os.trans h.os,h'.tape.trans h.tape,h'.output.trans h.output,cZ h.size h'.size,fun b hb hF=>by
  have h1:=h.same b hb hF;have h2:=h'.same b (eM hb h.size) (fun hS=>(hs b hS).elim hF (fun h3=>by omega))
  exact⟨h2.1.trans h1.1,h2.2.trans h1.2⟩⟩
/-! Values that name no block that is yet to come. -/
def Agree (nid:Nat) (vc:List Vc) (V V' :Vl):Prop:=∀k,k<nid->V'.β k=V.β k/\∀u,cD vc k u->V'.γ k u=V.γ k u
structure Step (nid:Nat) (vc:List Vc) (iX:Nat) (fg:List Vc) (V V' :Vl):Prop where
 agr:Agree nid vc V V'
 up:nid<=iX
 ver:∀k u,k<nid->cD vc k u->cD fg k u
theorem Agree.refl (nid:Nat) (vc:List Vc) (V:Vl):Agree nid vc V V:=fun _ _=>⟨rfl,fun _ _=>rfl⟩
section
variable {nid:Nat} {vc:List Vc} {V V' :Vl}
theorem y9 (h:Agree nid vc V V') {s:SV} (hs:lS nid vc s):bK V' s=bK V s:=by
 cases s with
 |v x=>rfl
 |box k o=>show Value.pointer _=_;rw[(h k hs).1];rfl
 |vec k u=>show(V'.γ k u).val=_;rw[(h k hs.1).2 u hs.2];rfl
 |vp k u o=>show Value.pointer ((V'.γ k u).a.map _)=_;rw[(h k hs.1).2 u hs.2];rfl
 |mp k=>show Value.map _=_;rw[(h k hs).1];rfl
 |mv f k o=>show Value.func _ _ _=_;rw[(h k hs).1];rfl
 |agg cs=>rfl
 |tup l=>rfl
theorem yZ (h:Agree nid vc V V'):∀{l:List SV},fO nid vc l->l.map (bK V')=l.map (bK V)
 |[],_=>rfl
 |s::r,hs=>by simp only[bN];rw[y9 h hs.1,yZ h hs.2]
theorem xb (h:Agree nid vc V V') {s:SV} (hs:okB nid vc s):nu V' s=nu V s:=by
 cases s with
 |agg cs=>simp only[nu];rw[yZ h hs]
 |v x=>rfl
 |box k o=>exact y9 (s:= .box k o) h hs
 |vec k u=>exact y9 (s:= .vec k u) h hs
 |vp k u o=>exact y9 (s:= .vp k u o) h hs
 |mp k=>exact y9 (s:= .mp k) h hs
 |mv f k o=>exact y9 (s:= .mv f k o) h hs
 |tup l=>rfl
theorem NJ (h:Agree nid vc V V'):∀{l:List SV},yn nid vc l->l.map (nu V')=l.map (nu V)
 |[],_=>rfl
 |s::r,hs=>by simp only[bN];rw[xb h hs.1,NJ h hs.2]
theorem Eo (h:Agree nid vc V V') {s:SV} (hs:jv nid vc s):den V' s=den V s:=by
 cases s with
 |tup l=>simp only[den];rw[NJ h hs]
 |v x=>rfl
 |box k o=>exact xb (s:= .box k o) h hs
 |vec k u=>exact xb (s:= .vec k u) h hs
 |vp k u o=>exact xb (s:= .vp k u o) h hs
 |mp k=>exact xb (s:= .mp k) h hs
 |mv f k o=>exact xb (s:= .mv f k o) h hs
 |agg cs=>exact xb (s:= .agg cs) h hs
theorem Ro:∀{env:List Ev} {t:Nat} {p:bV} {s:SV},gb env t p=some s->∃e∈env,e.s=s
 |⟨t',p',s'⟩::r,t,p,s,h=>by
  simp only[gb] at h;split at h
  ·split at h
   ·cases h;exact⟨_,bY ..,rfl⟩
   ·cases h
  ·obtain⟨e,he,hs⟩:=Ro h;exact⟨e,bR _ he,hs⟩
theorem SatF.agree {n:Nat} {env:List Ev} {rho:List Gd} {a:Act} (hf:SatF n env rho a V) (rJ:∀e∈env,jv nid vc e.s) (h:Agree nid vc V V'):SatF n env rho a V' :=
 ⟨hf.defers,hf.size,hf.pth,fun t p s hp hl hc=>by
  obtain⟨e,he,rfl⟩:=Ro hl
  rw[hf.env t p _ hp hl hc,Eo h (rJ e he)],hf.rho⟩
end
section
variable {V V' :Vl} {D D' :Nat->Nat} {w w' :World} {H:Hp}
theorem Ja {e:TypeId} {sz m:Nat} {xs:List Value} {h:Hd} (ho:w.ownsRow 0 e sz h.val m xs) {g:Nat} (hg:h.blk=some g):h.val.ownBlock=some g/\g<w.heap.size:=by
 have:h.val.ownBlock=some g:=by
  unfold Hd.val Value.ownBlock;unfold Hd.blk at hg;cases ha:h.a with
  |none=>rw[ha] at hg;cases hg
  |some ad=>rw[ha] at hg;exact hg
 exact⟨this,(ho.lt g this).2⟩
theorem vG (h:HSat V D w H):∀b∈bq V H,b<w.heap.size:=by
 intro b hb;simp only[bq,List.mem_append,List.mem_map,List.mem_filterMap] at hb;rcases hb with ⟨x,hx,rfl⟩ |⟨x,hx,hb⟩
 ·obtain⟨o,ho,_⟩:=(h.bx x hx).1;exact(Array.getElem?_eq_some_iff.1 ho).1
 ·exact(Ja (h.vc x hx).1 hb).2
theorem Pz {e:TypeId} {sz m:Nat} {xs:List Value} {h:Hd} (ho:w.ownsRow 0 e sz h.val m xs) (hw:∀g,h.blk=some g->w'.heap[g]? =w.heap[g]?):w'.ownsRow 0 e sz h.val m xs:=by
 refine⟨ho.1,?_⟩;rcases ho.2 with hn |⟨g,cap,cur,hv,hb,hh,rest⟩
 ·exact .inl hn
 ·refine .inr ⟨g,cap,cur,hv,hb,?_,rest⟩
  rw[hw g (by
   simp only[Hd.val,Value.slice.injEq] at hv
   simp [Hd.blk,hv.1])]
  exact hh
theorem DO {α β:Type} {f g:α->Option β}:∀{l:List α},(∀x∈l,f x=g x)->l.filterMap f=l.filterMap g
 |[],_=>rfl
 |x::r,h=>by
  rw[List.filterMap_cons,List.filterMap_cons,h x (bY ..),DO fun y hy=>h y (bR _ hy)]
theorem BJ (hb:∀b∈H.bx,V'.β b.id=V.β b.id) (hv:∀b∈H.vc,V'.γ b.id b.ver=V.γ b.id b.ver):bq V' H=bq V H:=by
 unfold bq;congr 1
 ·exact List.map_congr_left hb
 ·exact DO fun x hx=>by rw[hv x hx]
theorem HSat.frame (h:HSat V D w H) (hb:∀b∈H.bx,V'.β b.id=V.β b.id/\b.cs.map (bK V')=b.cs.map (bK V)) (hv:∀b∈H.vc,V'.γ b.id b.ver=V.γ b.id b.ver)
  (hw:∀g∈bq V H,w'.heap[g]? =w.heap[g]? /\D' g=D g):HSat V' D' w' H:=by
 refine⟨fun b hm=> ?_,fun b hm=> ?_,by rw[BJ (fun b hm=>(hb b hm).1) hv];exact h.apart,h.uniq⟩
 ·have gH:V.β b.id∈bq V H:=by
   simp only[bq,List.mem_append,List.mem_map];exact .inl ⟨b,hm,rfl⟩
  obtain⟨h1,h2⟩:=h.bx b hm;unfold DN;rw[(hb b hm).1,(hb b hm).2,(hw _ gH).1,(hw _ gH).2];exact⟨h1,h2⟩
 ·have gH:∀g,(V.γ b.id b.ver).blk=some g->g∈bq V H:=fun g hg=>by
   simp only[bq,List.mem_append,List.mem_filterMap];exact .inr ⟨b,hm,hg⟩
  obtain⟨h1,h2,h3,h4⟩:=h.vc b hm;unfold yM;rw[hv b hm];exact⟨Pz h1 fun g hg=>(hw g (gH g hg)).1,fun g hg=>by rw[(hw g (gH g hg)).2];exact h2 g hg,h3,h4⟩
end
theorem Jj {P:Program} {t:TypeId} (h:0<bX P t):∃i,P.info? t=some i/\i.size=bX P t/\i.bytes=od P t:=by
 unfold bX at h ⊢;unfold od;cases hi:P.info? t with
 |none=>rw[hi] at h;simp at h
 |some i=>exact⟨i,rfl,rfl,rfl⟩
theorem Qz {P:Program} {t:TypeId} {z:List SV} {i:TypeInfo} (hi:P.info? t=some i) (h:fB P t=some z):∃zv,i.zero=some zv/\zv.cells.size=z.length:=by
 unfold fB at h;simp only[Option.map_eq_some_iff,Option.bind_eq_some_iff] at h;obtain⟨zv,⟨i',tT,hz⟩,rfl⟩:=h;rw[hi] at tT;cases tT;exact⟨zv,hz,by simp⟩
section
variable {P:Program} {w:World}
theorem VA (t tx ty e:TypeId) (i:TypeInfo) (ht:P.underlying t=some (.slice e)) (hi:P.info? e=some i) (g xR Ku:Nat) (cur:Array Value) (hg:w.heap[g]? =some (.cells cur e (0,0)))
  (x:Value) (m:Nat) (news:List Value) (hs:Src P i.size tx x m news w) (ll:xR+m<=Ku) (uZ:xR * i.size+news.length<=cur.size):
  (Builtin.append_ #[t,tx] ty #[.slice (some ⟨g,0,none⟩) xR Ku,x]).run P w=
   .ok (.slice (some ⟨g,0,none⟩) (xR+m) Ku) (w.setRow g (cur.toList.take (xR * i.size)++news++cur.toList.drop (xR * i.size+news.length)).toArray):=by
 have jb:=run_storeCells_at P g (xR * i.size) e news 0 cur w hg (by simpa using uZ) hs.one;simp only[Nat.add_zero] at jb;rcases hs.kind with ⟨e',hk⟩ |hk<;>simp [Builtin.append_,run_underlying ht,run_underlying hk,sizeOf,typeInfo,hi,hs.len,ll,hs.cells,Addr.add_lit,jb]
theorem MM {xX eX wY:Nat} (h:eX<xX) (hb:xX * wY<=140737488355328):Builtin.nextslicecap xX eX * wY<=281474976710656:=by
 have h1:=nextslicecap_le h;have h2:Builtin.nextslicecap xX eX * wY<=2 * xX * wY:=Nat.mul_le_mul_right _ h1;have h3:2 * xX * wY=2 * (xX * wY):=Nat.mul_assoc ..;omega
theorem Nl {t tx ty e:TypeId} {i:TypeInfo} {zv:Value} {h:Hd} {n m:Nat} {xs news:List Value} {x:Value}
  (ht:P.underlying t=some (.slice e)) (hi:P.info? e=some i) (hz:i.zero=some zv) (yq:zv.cells.size=i.size)
  (ej:w.ownsRow 0 e i.size h.val n xs) (hs:Src P i.size tx x m news w) (hr:room (n+m) i.bytes):
  ∃(h' :Hd) (w' :World),(Builtin.append_ #[t,tx] ty #[h.val,x]).run P w= .ok h'.val w' /\w'.ownsRow 0 e i.size h'.val (n+m) (xs++news)/\
   (w' =w/\h' =h\/(∃g cur nX,h'.blk=some g/\h.blk=some g/\w.heap[g]? =some (.cells cur e (0,0))/\w' =w.setRow g nX/\(∀j,j<n * i.size->nX[j]? =cur[j]?))\/
    (∃c,h'.blk=some w.heap.size/\w' =w.drew.alloc (.cells c e))):=by
 obtain⟨hb,h63⟩:=hr;have hlen:(xs++news).length=(n+m) * i.size:=by rw[aI,ej.1,hs.newsLen,Nat.add_mul]
 have n8:((n+m:Nat):Int)<=9223372036854775807:=by simp only[maxLen] at h63;omega
 have grow:∀(eX:Nat),eX<n+m->(w.drew.alloc (.cells ((xs++news).toArray++Builtin.zeroCells zv.cells (grownCap w (n+m) eX e - (n+m))) e)).ownsRow 0 e i.size
    (Hd.val ⟨some ⟨w.heap.size,0,none⟩,n+m,grownCap w (n+m) eX e⟩) (n+m) (xs++news):=by
  intro eX ho;have cg:=grownCap_ge w (n+m) eX e;have LN:grownCap w (n+m) eX e<=maxLen:=grownCap_le_maxLen w (n+m) eX e h63;refine⟨hlen,.inr ⟨w.heap.size,_,_,rfl,aG _,heap_alloc_new w.drew _,cg,LN,?_,?_⟩⟩
  ·simp only[Array.size_append,List.size_toArray,size_zeroCells,yq,hlen,<- Nat.add_mul];congr 1
   omega
  ·simp only[Array.toList_append];rw[<- hlen];exact List.take_left
 obtain⟨ha,hn,hc⟩:∃(a:Option Addr) (n' c:Nat),h=⟨a,n',c⟩:=⟨h.a,h.n,h.c,rfl⟩;obtain⟨c,rfl⟩:=hc;rcases ej.2 with ⟨hv,Lz⟩ |⟨g,cap,cur,hv,_,hg,Ly,LN,gX,htake⟩
 ·simp only[Hd.val,Value.slice.injEq] at hv;obtain⟨rfl,rfl,rfl⟩:=hv;subst Lz;have hx:xs=[]:=List.eq_nil_of_length_eq_zero (by simpa using ej.1);subst hx;by_cases hm:m=0
  ·subst hm;have hn:news=[]:=List.eq_nil_of_length_eq_zero (by simpa using hs.newsLen);subst hn;refine⟨⟨none,0,0⟩,w,?_,by simpa using ej,.inl ⟨rfl,rfl⟩⟩;rcases hs.kind with ⟨e',hk⟩ |hk<;>simp [Hd.val,Builtin.append_,run_underlying ht,run_underlying hk,sizeOf,typeInfo,hi,hs.len,hs.cells]
  ·have hr:=run_append_grow_src w t tx ty e i zv ht hi hz none 0 0 [] (by simp [Builtin.firstCells]) x m news hs (by omega) n8 (MM (by omega) hb);exact⟨⟨some ⟨w.heap.size,0,none⟩,0+m,grownCap w (0+m) 0 e⟩,_,hr,by have:=grow 0 (by omega);simpa using this,.inr (.inr ⟨_,rfl,rfl⟩)⟩
 ·simp only[Hd.val,Value.slice.injEq] at hv;obtain⟨rfl,rfl,rfl⟩:=hv;by_cases ll:hn+m<=c
  ·have uZ:hn * i.size+news.length<=cur.size:=by rw[hs.newsLen,gX,<- Nat.add_mul];exact Nat.mul_le_mul_right _ ll
   have hr:=VA t tx ty e i ht hi g hn c cur hg x m news hs ll uZ;refine⟨⟨some ⟨g,0,none⟩,hn+m,c⟩,_,hr,⟨hlen,.inr ⟨g,c,_,rfl,aG _,setRow_heap w g cur _ e _ hg,ll,LN,?_,?_⟩⟩,.inr (.inl ⟨g,cur,_,rfl,rfl,hg,rfl,fun j hj=> ?_⟩)⟩
   ·simp only[List.size_toArray,aI,List.length_take,dI,Array.length_toList];omega
   ·rw[htake,<- hlen];exact List.take_left
   ·have De:=ej.1;simp only[List.getElem?_toArray];rw[List.append_assoc,List.getElem?_append_left (by rw[htake];omega),List.getElem?_take,ah hj,Array.getElem?_toList]
  ·have holds:∀j u,xs[j]? =some u->w.cell? ((⟨g,0,none⟩:Addr).add j)=some u:=ej.cells (g:=g) rfl;have hf:(Builtin.firstCells i.size hn (.slice (some ⟨g,0,none⟩) hn c)).run P w.drew= .ok xs.toArray w.drew:=run_firstCells_some w.drew i.size hn ⟨g,0,none⟩ hn c xs ej.1 (by simpa using holds);have hr:=run_append_grow_src w t tx ty e i zv ht hi hz (some ⟨g,0,none⟩) hn c xs hf x m news hs (by omega) n8 (MM (by omega) hb);exact⟨⟨some ⟨w.heap.size,0,none⟩,hn+m,grownCap w (hn+m) c e⟩,_,hr,grow c (by omega),.inr (.inr ⟨_,rfl,rfl⟩)⟩
end
section
variable {V V' :Vl} {D D' :Nat->Nat} {w w' :World} {bx:List Bx} {vc:List Vc} {nid:Nat}
theorem HSat.consBx {b:Bx} (h:HSat V D w ⟨bx,vc⟩) (hb:DN V D w b) (hn:V.β b.id ∉ bq V ⟨bx,vc⟩):HSat V D w ⟨b::bx,vc⟩:=
 ⟨fun x hx=>(List.mem_cons.1 hx).elim (fun e=>e▸hb) (h.bx x),h.vc,List.nodup_cons.2 ⟨hn,h.apart⟩,h.uniq⟩
theorem Iu {b:Vc}:(bq V ⟨bx,b::vc⟩).Perm ((V.γ b.id b.ver).blk.toList++bq V ⟨bx,vc⟩):=by
 unfold bq;simp only[List.filterMap_cons];cases (V.γ b.id b.ver).blk with
 |none=>exact List.Perm.refl _
 |some g=>exact List.perm_middle
theorem HSat.consVc {b:Vc} (h:HSat V D w ⟨bx,vc⟩) (hb:yM V D w b) (hu:b.id ∉ vc.map (·.id)) (hn:∀g,(V.γ b.id b.ver).blk=some g->g ∉ bq V ⟨bx,vc⟩):HSat V D w ⟨bx,b::vc⟩:=
 ⟨h.bx,fun x hx=>(List.mem_cons.1 hx).elim (fun e=>e▸hb) (h.vc x),by
  rw[Iu.nodup_iff];cases hg:(V.γ b.id b.ver).blk with
  |none=>exact h.apart
  |some g=>exact List.nodup_cons.2 ⟨hn g hg,h.apart⟩,List.nodup_cons.2 ⟨hu,h.uniq⟩⟩
theorem Hc {b:Vc} {x:Nat}:x∈bq V ⟨bx,b::vc⟩↔(V.γ b.id b.ver).blk=some x\/x∈bq V ⟨bx,vc⟩:=by
 rw[Iu.mem_iff,List.mem_append];cases (V.γ b.id b.ver).blk<;>simp [eq_comm]
/-! What was all right stays all right. -/
theorem zl {iX:Nat} {fg:List Vc} (hn:nid<=iX) (hv:∀k u,k<nid->cD vc k u->cD fg k u) {s:SV} (h:lS nid vc s):lS iX fg s:=by
 cases s with
 |v x=>trivial
 |box k o=>exact eM h hn
 |vec k u=>exact⟨eM h.1 hn,hv k u h.1 h.2⟩
 |vp k u o=>exact⟨eM h.1 hn,hv k u h.1 h.2⟩
 |mp k=>exact eM h hn
 |mv f k o=>exact eM h hn
 |agg cs=>trivial
 |tup l=>trivial
theorem xh {iX:Nat} {fg:List Vc} (hn:nid<=iX) (hv:∀k u,k<nid->cD vc k u->cD fg k u):∀{l:List SV},fO nid vc l->fO iX fg l
 |[],_=>trivial
 |_::_,h=>⟨zl hn hv h.1,xh hn hv h.2⟩
theorem xi {iX:Nat} {fg:List Vc} (hn:nid<=iX) (hv:∀k u,k<nid->cD vc k u->cD fg k u) {s:SV} (h:okB nid vc s):okB iX fg s:=by
 cases s with
 |agg cs=>exact xh hn hv h
 |v x=>trivial
 |box k o=>exact zl (s:= .box k o) hn hv h
 |vec k u=>exact zl (s:= .vec k u) hn hv h
 |vp k u o=>exact zl (s:= .vp k u o) hn hv h
 |mp k=>exact zl (s:= .mp k) hn hv h
 |mv f k o=>exact zl (s:= .mv f k o) hn hv h
 |tup l=>trivial
theorem PB {iX:Nat} {fg:List Vc} (hn:nid<=iX) (hv:∀k u,k<nid->cD vc k u->cD fg k u):∀{l:List SV},yn nid vc l->yn iX fg l
 |[],_=>trivial
 |_::_,h=>⟨xi hn hv h.1,PB hn hv h.2⟩
theorem PD {iX:Nat} {fg:List Vc} (hn:nid<=iX) (hv:∀k u,k<nid->cD vc k u->cD fg k u) {s:SV} (h:jv nid vc s):jv iX fg s:=by
 cases s with
 |tup l=>exact PB hn hv h
 |v x=>trivial
 |box k o=>exact xi (s:= .box k o) hn hv h
 |vec k u=>exact xi (s:= .vec k u) hn hv h
 |vp k u o=>exact xi (s:= .vp k u o) hn hv h
 |mp k=>exact xi (s:= .mp k) hn hv h
 |mv f k o=>exact xi (s:= .mv f k o) hn hv h
 |agg cs=>exact xi (s:= .agg cs) hn hv h
theorem ud {b:Vc} (hb:b.id=nid):∀k u,k<nid->cD vc k u->cD (b::vc) k u:=by
 intro k u hk h;obtain⟨k',u',e',z',n',x'⟩:=b;dsimp only at hb;subst hb;simp only[cD];rw[af (by omega)];exact h
theorem M7 {k u:Nat} {b x:Vc} (hb:eU vc k u=some b) (hx:x.id=k) (hu:u<=x.ver):∀k' u',cD vc k' u' ->cD (pG vc k x) k' u' :=by
 intro k' u' h;induction vc with
 |nil=>cases hb
 |cons y r ih=>
  obtain⟨i',v',e',z',n',x'⟩:=y;obtain⟨kx,ux,ex,zx,nx,xx⟩:=x;dsimp only at hx hu;subst hx;simp only[eU] at hb;simp only[pG];simp only[cD] at h;by_cases he:i' =kx
  ·rw[ah he] at hb ⊢;split at hb
   ·rename_i hv;subst he;simp only[cD];split
    ·rename_i e;rw[ah e] at h;omega
    ·rename_i e;rw[af e] at h;exact h
   ·cases hb
  ·rw[af he] at hb ⊢;simp only[cD];split
   ·rename_i e;rw[ah e] at h;exact h
   ·rename_i e;rw[af e] at h;exact ih hb h
theorem vx {vc:List Vc}:∀{b:Vc},(vc.map (·.id)).Nodup->b∈vc->cD vc b.id b.ver:=by
 induction vc with
 |nil=>intro b _ h;cases h
 |cons y r ih=>
  intro b hu h;obtain⟨i',v',e',z',n',x'⟩:=y;simp only[bN,List.nodup_cons] at hu;simp only[cD];rcases List.mem_cons.1 h with rfl |h
  ·rw[ah rfl];exact au _
  ·have:¬i' =b.id:=fun e=>hu.1 (by rw[e];exact List.mem_map.2 ⟨b,h,rfl⟩)
   rw[af this];exact ih hu.2 h
theorem Ew {vc:List Vc} {k v u:Nat} (h:cD vc k v) (hu:u<=v):cD vc k u:=by
 induction vc with
 |nil=>trivial
 |cons y r ih=>
  obtain⟨i',v',e',z',n',x'⟩:=y;simp only[cD] at h ⊢;split
  ·rename_i e;rw[ah e] at h;omega
  ·rename_i e;rw[af e] at h;exact ih h
theorem Ni (V:Vl) (g:Nat):Agree nid vc V {V with β:=fun k=>if k=nid then g else V.β k}:=fun k hk=>⟨af (by omega),fun _ _=>rfl⟩
theorem Nh (V:Vl) (h:Hd):Agree nid vc V {V with γ:=fun k u=>if k=nid then h else V.γ k u}:=fun k hk=>⟨rfl,fun _ _=>af (by omega)⟩
end
section
variable {C:Ctx} {bx:List Bx} {vc:List Vc} {nid:Nat} {m:Mem} {V:Vl} {D:Nat->Nat} {w:World}
theorem yO (w:World) (o:Obj) (k:Nat) (h:k<w.heap.size):(w.alloc o).heap[k]? =w.heap[k]? :=Go.RowKit.Below.heap_alloc w o k h
theorem SatW.keepH (h:SatW C bx vc nid m V D w) {V' :Vl} {w' :World} (ha:Agree nid vc V V') (hw:∀b,b<w.heap.size->w'.heap[b]? =w.heap[b]?):HSat V' D w' ⟨bx,vc⟩:=
 h.heap.frame (fun b hb=>⟨(ha b.id (h.ids.1 b hb).1).1,yZ ha (h.ids.1 b hb).2⟩)
  (fun b hb=>(ha b.id (h.ids.2 b hb)).2 b.ver (vx h.heap.uniq hb))
  fun g hg=>⟨hw g (vG h.heap g hg),rfl⟩
theorem Frm.quiet {w' :World} {D' :Nat->Nat} (h1:w'.os=w.os) (h2:w'.tape=w.tape) (h3:w'.output=w.output) (h4:w.heap.size<=w'.heap.size) (hw:∀b,b<w.heap.size->w'.heap[b]? =w.heap[b]? /\D' b=D b) (F:Nat->Prop):Frm F w D w' D' :=
 ⟨h1,h2,h3,h4,fun b hb _=>hw b hb⟩
theorem Hz {t:TypeId} {vs:List Value} (h:t<oD):ni t vs (.cells ⟨vs⟩ t (0,0)):=by
 unfold ni;rw[ah h]
theorem Qt {t:TypeId} {vs:List Value} {o:Obj} (h:t<oD) (ho:ni t vs o):o= .cells ⟨vs⟩ t (0,0):=by
 unfold ni at ho;rwa [ah h] at ho
theorem SatW.addBx (h:SatW C bx vc nid m V D w) {t:TypeId} {cs:List SV} {o:Obj} (ho:ni t (cs.map (bK V)) o) (ar:fO nid vc cs):
  ∃V',Agree nid vc V V' /\V'.β nid=w.heap.size/\SatW C (⟨nid,t,cs⟩::bx) vc (nid+1) m V' D (w.alloc o):=by
 refine⟨{V with β:=fun k=>if k=nid then w.heap.size else V.β k},Ni V _,ah rfl,?_⟩;have ha:=Ni (nid:=nid) (vc:=vc) V w.heap.size;have hw:∀b,b<w.heap.size->(w.alloc o).heap[b]? =w.heap[b]? :=fun b hb=>yO w _ b hb
 have hold:=h.keepH ha hw;have ay:=vG hold;have iO:bq {V with β:=fun k=>if k=nid then w.heap.size else V.β k} ⟨bx,vc⟩=bq V ⟨bx,vc⟩:=
  BJ (fun b hb=>(ha b.id (h.ids.1 b hb).1).1) (fun b hb=>(ha b.id (h.ids.2 b hb)).2 b.ver (vx h.heap.uniq hb))
 have KI:=vG h.heap;have hD:D w.heap.size=0:=h.wf _ (au _);have pV:Frm (fun _=>False) w D (w.alloc o) D:=Frm.quiet (w:=w) (w' :=w.alloc o) rfl rfl rfl (by simp) (fun b hb=>⟨hw b hb,rfl⟩) _;have hle:Mem.le ⟨w,D⟩ ⟨w.alloc o,D⟩:=Mem.le_same h.wf (fun b hb=>⟨au _,fun _=>hw b hb⟩);refine⟨hold.consBx ⟨?_,?_⟩ ?_,fun b hb=>h.wf b (by simp at hb;omega),h.frm.trans pV (fun _ h=>h.elim),?_,fun b hb=> ?_,fun b hb=> ?_,⟨fun b hb=> ?_,fun b hb=>Nat.lt_succ_of_lt (h.ids.2 b hb)⟩,Mem.le_trans h.le0 hle,h.m0,Mem.le_trans h.mle hle⟩
 ·refine⟨o,?_,?_⟩
  ·show(w.alloc _).heap[(if nid=nid then w.heap.size else V.β nid)]? =_;rw[ah rfl];exact heap_alloc_new w _
  ·show ni t (cs.map (bK _)) o;rw[yZ ha ar];exact ho
 ·show D (if nid=nid then w.heap.size else V.β nid)=0;rw[ah rfl];exact hD
 ·show(if nid=nid then w.heap.size else V.β nid) ∉ _;rw[ah rfl,iO];exact fun gH=>Nat.lt_irrefl _ (KI _ gH)
 ·intro b hb;rcases List.mem_cons.1 hb with rfl |hb
  ·show C.F (if nid=nid then w.heap.size else V.β nid)\/C.w0.heap.size<=(if nid=nid then w.heap.size else V.β nid);rw[ah rfl];exact .inr h.frm.size
  ·refine h.own b ?_;rw[<- iO];exact hb
 ·obtain⟨h1,h2⟩:=h.baseB b hb;exact⟨((ha b.id h2).1).trans h1,Nat.lt_succ_of_lt h2⟩
 ·obtain⟨h1,h2,h3⟩:=h.baseV b hb;exact⟨fun u hu=>h1 u hu,Nat.lt_succ_of_lt h2,h3⟩
 ·rcases List.mem_cons.1 hb with rfl |hb
  ·exact⟨Nat.lt_succ_self _,xh (Nat.le_succ _) (fun _ _ _ h=>h) ar⟩
  ·exact⟨Nat.lt_succ_of_lt (h.ids.1 b hb).1,xh (Nat.le_succ _) (fun _ _ _ h=>h) (h.ids.1 b hb).2⟩
theorem SatW.addVc (h:SatW C bx vc nid m V D w) {w' :World} {hd:Hd} {e:TypeId} {sz n:Nat} {xs:List Value}
  (h1:w'.os=w.os) (h2:w'.tape=w.tape) (h3:w'.output=w.output) (h4:w.heap.size<=w'.heap.size) (hw:∀b,b<w.heap.size->w'.heap[b]? =w.heap[b]?)
  (ej:w'.ownsRow 0 e sz hd.val n xs) (tD:∀g,hd.blk=some g->w.heap.size<=g) (eD:0<sz) (qv:∀u∈xs,u.oneCell' =true):
  ∃V',Agree nid vc V V' /\V'.γ nid 0=hd/\SatW C bx (⟨nid,0,e,sz,n,xs⟩::vc) (nid+1) m V' D w' :=by
 refine⟨{V with γ:=fun k u=>if k=nid then hd else V.γ k u},Nh V _,ah rfl,?_⟩;have ha:=Nh (nid:=nid) (vc:=vc) V hd;have hold:=h.keepH (w' :=w') ha hw;have iO:bq {V with γ:=fun k u=>if k=nid then hd else V.γ k u} ⟨bx,vc⟩=bq V ⟨bx,vc⟩:=
  BJ (fun b hb=>(ha b.id (h.ids.1 b hb).1).1) (fun b hb=>(ha b.id (h.ids.2 b hb)).2 b.ver (vx h.heap.uniq hb))
 have ay:=vG h.heap;have pV:Frm (fun _=>False) w D w' D:=Frm.quiet h1 h2 h3 h4 (fun b hb=>⟨hw b hb,rfl⟩) _;have hle:Mem.le ⟨w,D⟩ ⟨w',D⟩:=Mem.le_same h.wf (fun b hb=>⟨au _,fun _=>hw b hb⟩);have uN:∀k u,k<nid->cD vc k u->cD (⟨nid,0,e,sz,n,xs⟩::vc) k u:=ud rfl;refine⟨hold.consVc ⟨?_,?_,eD,qv⟩ ?_ ?_,fun b hb=>h.wf b (cZ h4 hb),h.frm.trans pV (fun _ h=>h.elim),?_,fun b hb=> ?_,fun b hb=> ?_,⟨fun b hb=> ?_,fun b hb=> ?_⟩,Mem.le_trans h.le0 hle,h.m0,Mem.le_trans h.mle hle⟩
 ·show w'.ownsRow 0 e sz (if nid=nid then hd else V.γ nid 0).val n xs;rw[ah rfl];exact ej
 ·intro g hg;have iN:hd.blk=some g:=by
   have:(if nid=nid then hd else V.γ nid 0).blk=some g:=hg;rwa [ah rfl] at this
  rw[h.wf g (tD g iN)];exact aG _
 ·intro gH;obtain⟨b,hb,wV⟩:=List.mem_map.1 gH;have:=h.ids.2 b hb;dsimp only at wV;omega
 ·intro g hg gH;have iN:hd.blk=some g:=by
   have:(if nid=nid then hd else V.γ nid 0).blk=some g:=hg;rwa [ah rfl] at this
  rw[iO] at gH;have:=ay g gH;have:=tD g iN;omega
 ·intro b hb;rcases Hc.1 hb with hb |hb
  ·have oW:hd.blk=some b:=by
    have:(if nid=nid then hd else V.γ nid 0).blk=some b:=hb;rwa [ah rfl] at this
   exact .inr (cZ h.frm.size (tD b oW))
  ·rw[iO] at hb;exact h.own b hb
 ·exact⟨(h.baseB b hb).1,Nat.lt_succ_of_lt (h.baseB b hb).2⟩
 ·obtain⟨e1,e2,e3⟩:=h.baseV b hb;exact⟨fun u hu=>((ha b.id e2).2 u (Ew e3 hu)).trans (e1 u hu),Nat.lt_succ_of_lt e2,uN _ _ e2 e3⟩
 ·exact⟨Nat.lt_succ_of_lt (h.ids.1 b hb).1,xh (Nat.le_succ _) uN (h.ids.1 b hb).2⟩
 ·rcases List.mem_cons.1 hb with rfl |hb
  ·exact Nat.lt_succ_self _
  ·exact Nat.lt_succ_of_lt (h.ids.2 b hb)
end
theorem Nc {k:Nat} {b:Bx} {cs:List SV}:∀{bx:List Bx},iv bx k=some b->∃l1 l2,bx=l1++b::l2/\kT bx k cs=l1++⟨b.id,b.ty,cs⟩::l2
 |[],h=>by cases h
 |⟨k',t',c'⟩::r,h=>by
  simp only[iv] at h;simp only[kT];split at h
  ·rename_i e;cases h;rw[ah e];exact⟨[],r,rfl,rfl⟩
  ·rename_i e;rw[af e];obtain⟨l1,l2,h1,h2⟩:=Nc (cs:=cs) h;exact⟨⟨k',t',c'⟩::l1,l2,by rw[h1];rfl,by rw[h2];rfl⟩
theorem Nb {k u:Nat} {b x:Vc}:∀{vc:List Vc},eU vc k u=some b->∃l1 l2,vc=l1++b::l2/\pG vc k x=l1++x::l2
 |[],h=>by cases h
 |⟨k',u',e',z',n',x'⟩::r,h=>by
  simp only[eU] at h;simp only[pG];split at h
  ·rename_i e;split at h
   ·cases h;rw[ah e];exact⟨[],r,rfl,rfl⟩
   ·cases h
  ·rename_i e;rw[af e];obtain⟨l1,l2,h1,h2⟩:=Nb (x:=x) h;exact⟨⟨k',u',e',z',n',x'⟩::l1,l2,by rw[h1];rfl,by rw[h2];rfl⟩
theorem Ix {k u v:Nat} {b:Vc}:∀{vc:List Vc},eU vc k u=some b->cD vc k v->v<=u
 |[],h,_=>by cases h
 |⟨k',u',e',z',n',x'⟩::r,h,hv=>by
  simp only[eU] at h;simp only[cD] at hv;split at h
  ·rename_i e;split at h
   ·rename_i e';rw[ah e] at hv;omega
   ·cases h
  ·rename_i e;rw[af e] at hv;exact Ix h hv
section
variable {V V' :Vl} {D D' :Nat->Nat} {w w' :World} {bx:List Bx} {vc:List Vc} {nid:Nat} {m:Mem} {C:Ctx}
theorem Qu {l1 l2:List Bx} {b:Bx}:(bq V ⟨l1++b::l2,vc⟩).Perm (V.β b.id::bq V ⟨l1++l2,vc⟩):=by
 unfold bq;simp only[List.map_append,bN,List.append_assoc,dW];exact List.perm_middle
theorem SatW.setOb (h:SatW C bx vc nid m V D w) {k:Nat} {b:Bx} {cs:List SV} (hb:iv bx k=some b) (ar:fO nid vc cs) {w' :World} {o:Obj} (ho:ni b.ty (cs.map (bK V)) o)
  (e1:w'.os=w.os) (e2:w'.tape=w.tape) (e3:w'.output=w.output) (e4:w'.heap.size=w.heap.size) (e5:w'.heap[V.β k]? =some o) (e6:∀g,g≠V.β k->w'.heap[g]? =w.heap[g]?):
  SatW C (kT bx k cs) vc nid m V D w' :=by
 obtain⟨rfl,hm⟩:=uz hb;obtain⟨l1,l2,hl,hu⟩:=Nc (cs:=cs) hb;have qN:=h.heap.apart;rw[hl] at qN;have iL:=(Qu.nodup_iff).1 qN;obtain⟨At,_⟩:=List.nodup_cons.1 iL;have SW:∀g,g∈bq V ⟨l1++l2,vc⟩->w'.heap[g]? =w.heap[g]? :=fun g hg=>
  e6 g (fun e=>At (e▸hg))
 have hD:D (V.β b.id)=0:=(h.heap.bx b hm).2;have ej:=h.own (V.β b.id) (by rw[hl];exact Qu.mem_iff.2 (bY ..));have pV:Frm (fun x=>x=V.β b.id) w D w' D:=
  ⟨e1,e2,e3,by rw[e4];exact au _,fun x _ hx=>⟨e6 x hx,rfl⟩⟩
 have hle:Mem.le ⟨w,D⟩ ⟨w',D⟩:=Mem.le_same h.wf (fun x _=>⟨au _,fun h0=>e6 x (fun e=>by subst e;omega)⟩);have iO:bq V ⟨kT bx b.id cs,vc⟩=bq V ⟨bx,vc⟩:=by
  unfold bq;rw[hu,hl];simp
 rw[hu];rw[hu] at iO;refine⟨⟨fun x hx=> ?_,fun x hx=> ?_,by rw[iO];exact h.heap.apart,h.heap.uniq⟩,fun x hx=>h.wf x (by rw[e4] at hx;exact hx),h.frm.trans pV (fun x hx=>by subst hx;exact ej),?_,h.baseB,h.baseV,⟨fun x hx=> ?_,h.ids.2⟩,Mem.le_trans h.le0 hle,h.m0,Mem.le_trans h.mle hle⟩
 ·have bP:x∈l1++l2\/x=⟨b.id,b.ty,cs⟩:=by
   simp only[List.mem_append,List.mem_cons] at hx ⊢;rcases hx with hx |hx |hx
   ·exact .inl (.inl hx)
   ·exact .inr hx
   ·exact .inl (.inr hx)
  rcases bP with bP |rfl
  ·have gH:x∈bx:=by
    rw[hl];simp only[List.mem_append,List.mem_cons] at bP ⊢;rcases bP with h1 |h1
    ·exact .inl h1
    ·exact .inr (.inr h1)
   have hg:V.β x.id∈bq V ⟨l1++l2,vc⟩:=by
    simp only[bq,List.mem_append,List.mem_map] at bP ⊢;exact .inl ⟨x,bP,rfl⟩
   obtain⟨h1,h2⟩:=h.heap.bx x gH;exact⟨by rw[SW _ hg];exact h1,h2⟩
  ·exact⟨⟨o,e5,ho⟩,hD⟩
 ·obtain⟨h1,h2,h3,h4⟩:=h.heap.vc x hx
  exact⟨Pz h1 (fun g hg=>SW g (by
   simp only[bq,List.mem_append,List.mem_filterMap]
   exact .inr ⟨x,hx,hg⟩)),h2,h3,h4⟩
 ·intro x hx;rw[iO] at hx;exact h.own x hx
 ·have bP:x∈bx\/x=⟨b.id,b.ty,cs⟩:=by
   rw[hl];simp only[List.mem_append,List.mem_cons] at hx ⊢;rcases hx with hx |hx |hx
   ·exact .inl (.inl hx)
   ·exact .inr hx
   ·exact .inl (.inr (.inr hx))
  rcases bP with bP |rfl
  ·exact h.ids.1 x bP
  ·exact⟨(h.ids.1 b hm).1,ar⟩
theorem SatW.setBx (h:SatW C bx vc nid m V D w) {k:Nat} {b:Bx} {cs:List SV} (hb:iv bx k=some b) (bL:b.ty<oD) (ar:fO nid vc cs):
  SatW C (kT bx k cs) vc nid m V D (w.setRow (V.β k) ⟨cs.map (bK V)⟩):=by
 obtain⟨hk,hm⟩:=uz hb;obtain⟨o,wq,ho⟩:=(h.heap.bx b hm).1;have ho' :=Qt bL ho;subst ho';rw[hk] at wq;exact h.setOb hb ar (Hz bL) rfl rfl rfl (size_setRow _ _ _) (setRow_heap w _ _ _ _ _ wq) (fun g hg=>setRow_other w _ g _ hg)
theorem HSat.permVc {fg:List Vc} (h:HSat V D w ⟨bx,vc⟩) (hp:vc.Perm fg):HSat V D w ⟨bx,fg⟩:=
 ⟨h.bx,fun b hb=>h.vc b (hp.mem_iff.2 hb),by
  have:(bq V ⟨bx,vc⟩).Perm (bq V ⟨bx,fg⟩):=List.Perm.append_left _ (hp.filterMap _)
  exact(this.nodup_iff).1 h.apart,((hp.map _).nodup_iff).1 h.uniq⟩
theorem HSat.tailVc {b:Vc} (h:HSat V D w ⟨bx,b::vc⟩):HSat V D w ⟨bx,vc⟩/\b.id ∉ vc.map (·.id)/\∀g,(V.γ b.id b.ver).blk=some g->g ∉ bq V ⟨bx,vc⟩:=by
 have iL:=(Iu.nodup_iff).1 h.apart;have hu:=List.nodup_cons.1 h.uniq;refine⟨⟨h.bx,fun x hx=>h.vc x (bR _ hx),(List.nodup_append.1 iL).2.1,hu.2⟩,hu.1,fun g hg gH=> ?_⟩;rw[hg] at iL;exact(List.nodup_cons.1 iL).1 gH
theorem SatW.updVc (h:SatW C bx vc nid m V D w) {k u n:Nat} {b:Vc} {hd:Hd} {xs:List Value} (hb:eU vc k u=some b) (LO:b.n * b.sz<=n * b.sz)
  (h1:w'.os=w.os) (h2:w'.tape=w.tape) (h3:w'.output=w.output) (h4:w.heap.size<=w'.heap.size)
  (hw:∀g,g<w.heap.size->(V.γ k u).blk≠some g->w'.heap[g]? =w.heap[g]?) (hkp:∀g,(V.γ k u).blk=some g->sQ (b.n * b.sz) w.heap[g]? w'.heap[g]?)
  (ej:w'.ownsRow 0 b.el b.sz hd.val n xs) (KN:∀g,hd.blk=some g->(V.γ k u).blk=some g\/w.heap.size<=g) (qv:∀y∈xs,y.oneCell' =true):
  ∃V',Agree nid vc V V' /\V'.γ k (u+1)=hd/\SatW C bx (pG vc k (nN b n xs)) nid m V' D w' :=by
 obtain⟨wV,hbv,hm⟩:=BE hb;subst wV;subst hbv;refine⟨{V with γ:=fun i v=>if i=b.id/\v=b.ver+1 then hd else V.γ i v},?_,ah ⟨rfl,rfl⟩,?_⟩
 ·intro i hi;refine⟨rfl,fun v hv=>af ?_⟩;rintro⟨rfl,rfl⟩;have:=Ix hb hv;omega
 have ha:Agree nid vc V {V with γ:=fun i v=>if i=b.id/\v=b.ver+1 then hd else V.γ i v}:=by
  intro i hi;refine⟨rfl,fun v hv=>af ?_⟩;rintro⟨rfl,rfl⟩;have:=Ix hb hv;omega
 obtain⟨l1,l2,hl,hu⟩:=Nb (x:=nN b n xs) hb;have hp:vc.Perm (b::(l1++l2)):=by rw[hl];exact List.perm_middle
 have Lx:(pG vc b.id (nN b n xs)).Perm (nN b n xs::(l1++l2)):=by rw[hu];exact List.perm_middle
 have uN:∀i v,cD vc i v->cD (pG vc b.id (nN b n xs)) i v:=M7 hb (by cases b;rfl) (by cases b;exact Nat.le_succ _);obtain⟨ht,hid,hblkb⟩:=(h.heap.permVc hp).tailVc;have yz:=h.heap.vc b hm;have ay:=vG h.heap;have T4:=vG ht;have vY:∀g,g∈bq V ⟨bx,l1++l2⟩->w'.heap[g]? =w.heap[g]? :=fun g hg=>hw g (T4 g hg) (fun e=>hblkb g e hg)
 have CP:∀x∈l1++l2,x∈vc:=fun x hx=>hp.mem_iff.2 (bR _ hx)
 have Lv:HSat {V with γ:=fun i v=>if i=b.id/\v=b.ver+1 then hd else V.γ i v} D w' ⟨bx,l1++l2⟩:=
  ht.frame (fun x hx=>⟨rfl,yZ ha (h.ids.1 x hx).2⟩) (fun x hx=>(ha x.id (h.ids.2 x (CP x hx))).2 x.ver (vx h.heap.uniq (CP x hx))) (fun g hg=>⟨vY g hg,rfl⟩)
 have iO:bq {V with γ:=fun i v=>if i=b.id/\v=b.ver+1 then hd else V.γ i v} ⟨bx,l1++l2⟩=bq V ⟨bx,l1++l2⟩:=
  BJ (fun x hx=>rfl) (fun x hx=>(ha x.id (h.ids.2 x (CP x hx))).2 x.ver (vx h.heap.uniq (CP x hx)))
 have tD:(({V with γ:=fun i v=>if i=b.id/\v=b.ver+1 then hd else V.γ i v}:Vl).γ (nN b n xs).id (nN b n xs).ver)=hd:=by
  cases b;exact ah ⟨rfl,rfl⟩
 have hD:∀g,hd.blk=some g->D g<=n * b.sz:=fun g hg=>by
  rcases KN g hg with e |e
  ·exact cZ (yz.2.1 g e) LO
  ·rw[h.wf g e];exact aG _
 have Rx:∀g,(V.γ b.id b.ver).blk=some g->C.F g\/C.w0.heap.size<=g:=fun g hg=>h.own g (by
  simp only[bq,List.mem_append,List.mem_filterMap]
  exact .inr ⟨b,hm,hg⟩)
 have pV:Frm (fun x=>(V.γ b.id b.ver).blk=some x) w D w' D:=⟨h1,h2,h3,h4,fun x hx hn=>⟨hw x hx hn,rfl⟩⟩
 have hle:Mem.le ⟨w,D⟩ ⟨w',D⟩:=fun x=>⟨au _,fun h0=>by
  have De:x<w.heap.size:=by
   rcases Nat.lt_or_ge x w.heap.size with h5 |h5
   ·exact h5
   ·have:=h.wf x h5;dsimp only at h0;omega
  refine⟨De,?_⟩;by_cases hx:(V.γ b.id b.ver).blk=some x
  ·exact MC (yz.2.1 x hx) (ub (d:=D x) rfl) (hkp x hx)
  ·exact ub (hw x De hx)⟩
 have agW:HSat {V with γ:=fun i v=>if i=b.id/\v=b.ver+1 then hd else V.γ i v} D w' ⟨bx,nN b n xs::(l1++l2)⟩:=by
  refine Lv.consVc ?_ (by cases b;exact hid) ?_
  ·unfold yM;rw[tD];cases b;exact⟨ej,hD,yz.2.2.1,qv⟩
  ·rw[tD];intro g hg gH;rw[iO] at gH;rcases KN g hg with e |e
   ·exact hblkb g e gH
   ·have:=T4 g gH;omega
 refine⟨agW.permVc Lx.symm,fun x hx=>h.wf x (cZ h4 hx),h.frm.trans pV Rx,fun x hx=> ?_,fun x hx=>h.baseB x hx,fun x hx=> ?_,⟨fun x hx=>⟨(h.ids.1 x hx).1,xh (au _) (fun i v _=>uN i v) (h.ids.1 x hx).2⟩,fun x hx=> ?_⟩,Mem.le_trans h.le0 hle,h.m0,Mem.le_trans h.mle hle⟩
 ·have bP:x∈bq {V with γ:=fun i v=>if i=b.id/\v=b.ver+1 then hd else V.γ i v} ⟨bx,nN b n xs::(l1++l2)⟩:=by
   have:(bq {V with γ:=fun i v=>if i=b.id/\v=b.ver+1 then hd else V.γ i v} ⟨bx,pG vc b.id (nN b n xs)⟩).Perm _:=List.Perm.append_left _ (Lx.filterMap _);exact this.mem_iff.1 hx
  rcases Hc.1 bP with e |e
  ·rw[tD] at e;rcases KN x e with e' |e'
   ·exact Rx x e'
   ·exact .inr (cZ h.frm.size e')
  ·rw[iO] at e;refine h.own x ?_;have:(bq V ⟨bx,vc⟩).Perm _:=List.Perm.append_left _ (hp.filterMap _);exact this.mem_iff.2 (Hc.2 (.inr e))
 ·obtain⟨e1,e2,e3⟩:=h.baseV x hx;exact⟨fun v hv=>((ha x.id e2).2 v (Ew e3 hv)).trans (e1 v hv),e2,uN _ _ e3⟩
 ·have:=Lx.mem_iff.1 hx;rcases List.mem_cons.1 this with rfl |hx
  ·have:=h.ids.2 b hm;cases b;exact this
  ·exact h.ids.2 x (CP x hx)
end
theorem Bb (L:List Nat):∀bx:List Bx,gA L bx=bx.filter fun b=>L.contains b.id
 |[]=>rfl
 |⟨k,t,cs⟩::r=>by
  simp only[gA,List.filter_cons,Bb L r]
theorem Ef (L:List Nat):∀vc:List Vc,fX L vc=vc.filter fun b=>L.contains b.id
 |[]=>rfl
 |⟨k,u,e,z,n,xs⟩::r=>by
  simp only[fX,List.filter_cons,Ef L r]
theorem En (L:List Nat):∀bx:List Bx,nE L bx=bx.filter fun b=> !L.contains b.id
 |[]=>rfl
 |⟨k,t,cs⟩::r=>by
  simp only[nE,List.filter_cons,En L r];cases L.contains k<;>simp
theorem Bh (L:List Nat):∀vc:List Vc,mZ L vc=vc.filter fun b=> !L.contains b.id
 |[]=>rfl
 |⟨k,u,e,z,n,xs⟩::r=>by
  simp only[mZ,List.filter_cons,Bh L r];cases L.contains k<;>simp
theorem yS {α:Type} (p:α->Bool):∀l:List α,(l.filter p++l.filter fun x=> !p x).Perm l
 |[]=>List.Perm.refl _
 |x::r=>by
  simp only[List.filter_cons];cases h:p x with
  |true=>simpa using(yS p r).cons x
  |false=>simpa using List.perm_middle.trans ((yS p r).cons x)
theorem afX {α:Type} (a b c d:List α):((a++b)++(c++d)).Perm ((a++c)++(b++d)):=by
 simp only[List.append_assoc];refine List.Perm.append_left _ ?_;rw[<- List.append_assoc,<- List.append_assoc];exact List.Perm.append_right _ List.perm_append_comm
section
variable {V:Vl} {D:Nat->Nat} {w:World}
theorem HSat.permBx {bx qS:List Bx} {vc:List Vc} (h:HSat V D w ⟨bx,vc⟩) (hp:bx.Perm qS):HSat V D w ⟨qS,vc⟩:=
 ⟨fun b hb=>h.bx b (hp.mem_iff.2 hb),h.vc,by
  have:(bq V ⟨bx,vc⟩).Perm (bq V ⟨qS,vc⟩):=List.Perm.append_right _ (hp.map _)
  exact(this.nodup_iff).1 h.apart,h.uniq⟩
theorem EP (a b:List Bx) (c d:List Vc):(bq V ⟨a++b,c++d⟩).Perm (bq V ⟨a,c⟩++bq V ⟨b,d⟩):=by
 unfold bq;simp only[List.map_append,List.filterMap_append];exact afX _ _ _ _
theorem HSat.app {a b:List Bx} {c d:List Vc} (h:HSat V D w ⟨a++b,c++d⟩):HSat V D w ⟨a,c⟩/\HSat V D w ⟨b,d⟩/\∀g,g∈bq V ⟨a,c⟩->g ∉ bq V ⟨b,d⟩:=by
 have hn:=((EP a b c d).nodup_iff).1 h.apart;obtain⟨h1,h2,h3⟩:=List.nodup_append.1 hn;have hu:=h.uniq;simp only[List.map_append] at hu;obtain⟨u1,u2,_⟩:=List.nodup_append.1 hu
 exact⟨⟨fun x hx=>h.bx x (List.mem_append_left _ hx),fun x hx=>h.vc x (List.mem_append_left _ hx),h1,u1⟩,
  ⟨fun x hx=>h.bx x (List.mem_append_right _ hx),fun x hx=>h.vc x (List.mem_append_right _ hx),h2,u2⟩,fun g hg iN=>h3 g hg g iN rfl⟩
theorem HSat.join {a b:List Bx} {c d:List Vc} (h:HSat V D w ⟨a,c⟩) (h' :HSat V D w ⟨b,d⟩) (hd:∀g,g∈bq V ⟨a,c⟩->g ∉ bq V ⟨b,d⟩) (hu:∀x∈c,∀y∈d,x.id≠y.id):HSat V D w ⟨a++b,c++d⟩:=
 ⟨fun x hx=>(List.mem_append.1 hx).elim (h.bx x) (h'.bx x),fun x hx=>(List.mem_append.1 hx).elim (h.vc x) (h'.vc x),((EP a b c d).nodup_iff).2 (List.nodup_append.2 ⟨h.apart,h'.apart,fun g hg g' iN e=>hd g hg (e▸iN)⟩),by
  simp only[List.map_append];refine List.nodup_append.2 ⟨h.uniq,h'.uniq,fun i hi j hj e=> ?_⟩;obtain⟨x,hx,rfl⟩:=List.mem_map.1 hi;obtain⟨y,hy,rfl⟩:=List.mem_map.1 hj
  exact hu x hx y hy e⟩
theorem D3 (L:List Nat) {bx:List Bx} {vc:List Vc} (h:HSat V D w ⟨bx,vc⟩):HSat V D w ⟨gA L bx++nE L bx,fX L vc++mZ L vc⟩:=by
 rw[Bb,En,Ef,Bh];exact(h.permBx (yS _ bx).symm).permVc (yS _ vc).symm
theorem HT (L:List Nat) (bx:List Bx) (vc:List Vc):(bq V ⟨bx,vc⟩).Perm (bq V ⟨gA L bx,fX L vc⟩++bq V ⟨nE L bx,mZ L vc⟩):=by
 refine List.Perm.trans ?_ (EP _ _ _ _);rw[Bb,En,Ef,Bh];unfold bq;exact List.Perm.append ((yS _ bx).symm.map _) ((yS _ vc).symm.filterMap _)
/-! Numbers in a call. -/
theorem NA:∀{L:List Nat} {i j:Nat},idxOf L i=some j->L[j]? =some i
 |x::r,i,j,h=>by
  simp only[idxOf] at h;split at h
  ·rename_i e;cases h;simp [e]
  ·simp only[Option.map_eq_some_iff] at h;obtain⟨j',hj,rfl⟩:=h;simpa using NA hj
theorem Ov:∀{L:List Nat} {i:Nat},i∈L->∃j,idxOf L i=some j
 |x::r,i,h=>by
  simp only[idxOf];split
  ·exact⟨0,rfl⟩
  ·rename_i e;rcases List.mem_cons.1 h with h |h
   ·exact absurd h.symm e
   ·obtain⟨j,hj⟩:=Ov h;exact⟨j+1,by rw[hj];rfl⟩
theorem zz {L:List Nat} {i:Nat} (h:L.contains i=true):L[ju L 0 i]? =some i/\ju L 0 i<L.length:=by
 obtain⟨j,hj⟩:=Ov (by simpa using h);have:ju L 0 i=j:=by unfold ju;rw[hj];rfl
 rw[this];have:=NA hj;exact⟨this,(List.getElem?_eq_some_iff.1 this).1⟩
def lA (L:List Nat) (V:Vl):Vl:=⟨fun j=>V.β (L.getD j 0),fun j u=>V.γ (L.getD j 0) u⟩
theorem Ab {L:List Nat} {i:Nat} (h:L.contains i=true):(lA L V).β (ju L 0 i)=V.β i:=by
 show V.β (L.getD (ju L 0 i) 0)=_;rw[List.getD_eq_getElem?_getD,(zz h).1];rfl
theorem Ct {L:List Nat} {i:Nat} (h:L.contains i=true) (u:Nat):(lA L V).γ (ju L 0 i) u=V.γ i u:=by
 show V.γ (L.getD (ju L 0 i) 0) u=_;rw[List.getD_eq_getElem?_getD,(zz h).1];rfl
theorem zp {L:List Nat} {s:SV} (h:sb L s):bK (lA L V) (nk (ju L 0) s)=bK V s:=by
 cases s with
 |v x=>rfl
 |box k o=>show Value.pointer _=Value.pointer _;rw[Ab h]
 |vec k u=>show Hd.val _=Hd.val _;rw[Ct h]
 |vp k u o=>show Value.pointer _=Value.pointer _;rw[Ct h]
 |mp k=>show Value.map _=Value.map _;rw[Ab h]
 |mv f k o=>show Value.func _ _ _=Value.func _ _ _;rw[Ab h]
 |agg cs=>rfl
 |tup l=>cases h
theorem IZ {L:List Nat}:∀{l:List SV},yp L l->(l.map (nk (ju L 0))).map (bK (lA L V))=l.map (bK V)
 |[],_=>rfl
 |s::r,h=>by simp only[bN];rw[zp h.1,IZ h.2]
theorem adb {L:List Nat} {s:SV} (h:Gz L s):den (lA L V) (uP (ju L 0) s)=den V s:=by
 cases s with
 |agg cs=>show Value.agg _=Value.agg _;rw[IZ h]
 |v x=>rfl
 |box k o=>exact zp (s:= .box k o) h
 |vec k u=>exact zp (s:= .vec k u) h
 |vp k u o=>exact zp (s:= .vp k u o) h
 |mp k=>exact zp (s:= .mp k) h
 |mv f k o=>exact zp (s:= .mv f k o) h
 |tup l=>cases h
theorem Qn {L:List Nat}:∀{l:List SV},CM L l->(l.map (uP (ju L 0))).map (den (lA L V))=l.map (den V)
 |[],_=>rfl
 |s::r,h=>by simp only[bN];rw[adb h.1,Qn h.2]
theorem Og {l:List Nat} {f g:Nat->Nat} (h:∀x∈l,g (f x)=x) (hl:l.Nodup):(l.map f).Nodup:=by
 have:(l.map f).map g=l:=by
  rw[List.map_map];exact(List.map_congr_left h).trans (List.map_id' l)
 rw[<- this] at hl;exact List.Pairwise.of_map g (fun a b h e=>h (by rw[e])) hl
theorem vB {L:List Nat} {vc:List Vc} {b:Vc} (h:b∈fX L vc):b∈vc/\L.contains b.id=true:=by
 rw[Ef,List.mem_filter] at h;exact h
theorem H8 {L:List Nat} {bx:List Bx} {b:Bx} (h:b∈gA L bx):b∈bx/\L.contains b.id=true:=by
 rw[Bb,List.mem_filter] at h;exact h
theorem YK {L:List Nat} {bx:List Bx} {b:Bx} (h:b∈nE L bx):b∈bx/\L.contains b.id=false:=by
 rw[En,List.mem_filter] at h;simpa using h
theorem Qk {L:List Nat} {vc:List Vc} {b:Vc} (h:b∈mZ L vc):b∈vc/\L.contains b.id=false:=by
 rw[Bh,List.mem_filter] at h;simpa using h
theorem P7 {L:List Nat}:∀{bx:List Bx},Ap L bx->∀b∈bx,yp L b.cs
 |⟨_,_,cs⟩::r,h,b,hb=>by
  rcases List.mem_cons.1 hb with rfl |hb
  ·exact h.1
  ·exact P7 h.2 b hb
theorem zk (ρ:Nat->Nat) (b:Bx):(pt ρ b).id=ρ b.id/\(pt ρ b).ty=b.ty/\(pt ρ b).cs=b.cs.map (nk ρ):=by cases b;exact⟨rfl,rfl,rfl⟩
theorem ny (ρ:Nat->Nat) (b:Vc):(ke ρ b).id=ρ b.id/\(ke ρ b).ver=b.ver/\(ke ρ b).el=b.el/\(ke ρ b).sz=b.sz/\(ke ρ b).n=b.n/\(ke ρ b).xs=b.xs:=by
 cases b;exact⟨rfl,rfl,rfl,rfl,rfl,rfl⟩
theorem RV {L:List Nat} {st:LS}:bq (lA L V) (gF st L)=bq V ⟨gA L st.bx,fX L st.vc⟩:=by
 unfold bq gF;congr 1
 ·rw[List.map_map];refine List.map_congr_left fun b hb=> ?_
  show(lA L V).β (pt _ b).id=_;rw[(zk _ b).1,Ab (H8 hb).2]
 ·rw[List.filterMap_map];refine DO fun b hb=> ?_
  show((lA L V).γ (ke _ b).id (ke _ b).ver).blk=_;rw[(ny _ b).1,(ny _ b).2.1,Ct (vB hb).2]
theorem HSat.into {L:List Nat} {st:LS} (h:HSat V D w ⟨gA L st.bx,fX L st.vc⟩) (gH:Ap L (gA L st.bx)):HSat (lA L V) D w (gF st L):=by
 refine⟨fun b hb=> ?_,fun b hb=> ?_,by rw[RV];exact h.apart,?_⟩
 ·obtain⟨x,hx,rfl⟩:=List.mem_map.1 hb;obtain⟨h1,h2⟩:=h.bx x hx;obtain⟨e1,e2,e3⟩:=zk (ju L 0) x;unfold DN;rw[e1,e2,e3,Ab (H8 hx).2,IZ (P7 gH x hx)];exact⟨h1,h2⟩
 ·obtain⟨x,hx,rfl⟩:=List.mem_map.1 hb;have h1:=h.vc x hx;obtain⟨e1,e2,e3,e4,e5,e6⟩:=ny (ju L 0) x;unfold yM;rw[e1,e2,e3,e4,e5,e6,Ct (vB hx).2];exact h1
 ·show(((fX L st.vc).map (ke (ju L 0))).map (·.id)).Nodup;rw[List.map_map];have:((fX L st.vc).map ((·.id)∘ke (ju L 0)))=((fX L st.vc).map (·.id)).map (ju L 0):=by
   rw[List.map_map];exact List.map_congr_left fun b _=>(ny _ b).1
  rw[this];refine Og (g:=fun j=>L.getD j 0) (fun i hi=> ?_) h.uniq;obtain⟨b,hb,rfl⟩:=List.mem_map.1 hi;rw[List.getD_eq_getElem?_getD,(zz (vB hb).2).1];rfl
end
theorem Ol {vc:List Vc}:∀{b:Vc},(vc.map (·.id)).Nodup->b∈vc->np vc b.id=some b:=by
 induction vc with
 |nil=>intro b _ h;cases h
 |cons y r ih=>
  intro b hu h;obtain⟨i',v',e',z',n',x'⟩:=y;simp only[bN,List.nodup_cons] at hu;simp only[np];rcases List.mem_cons.1 h with rfl |h
  ·rw[ah rfl]
  ·have:¬i' =b.id:=fun e=>hu.1 (by rw[e];exact List.mem_map.2 ⟨b,h,rfl⟩)
   rw[af this];exact ih hu.2 h
theorem M8 {vc:List Vc} {k u:Nat} {b:Vc} (h:np vc k=some b) (hv:cD vc k u):u<=b.ver:=by
 induction vc with
 |nil=>cases h
 |cons y r ih=>
  obtain⟨i',v',e',z',n',x'⟩:=y;simp only[np] at h;simp only[cD] at hv;split at h
  ·rename_i e;cases h;rw[ah e] at hv;exact hv
  ·rename_i e;rw[af e] at hv;exact ih h hv
theorem Oh:∀{L:List Nat},C9 L->L.Nodup
 |[],_=>List.nodup_nil
 |k::r,h=>List.nodup_cons.2 ⟨by have:=h.1;simpa using this,Oh h.2⟩
theorem BD {n:Nat}:∀{L:List Nat},vh n L->∀k∈L,k<n
 |_::_,h,k,hk=>(List.mem_cons.1 hk).elim (fun e=>e▸h.1) (BD h.2 k)
theorem Ow:∀{L:List Nat} {i j:Nat},L.Nodup->L[j]? =some i->idxOf L i=some j
 |x::r,i,0,_,h=>by simp at h;subst h;simp [idxOf]
 |x::r,i,j+1,hn,h=>by
  simp only[List.getElem?_cons_succ] at h;obtain⟨h1,h2⟩:=List.nodup_cons.1 hn;simp only[idxOf];rw[af (fun e=>h1 (by rw[e];exact List.mem_of_getElem? h)),Ow h2 h];rfl
theorem Ox:∀{bx:List Bx} {j:Nat},(nK bx).contains j=true->∃b∈bx,b.id=j
 |⟨k,t,cs⟩::r,j,h=>by
  simp only[nK,List.contains_cons,Bool.or_eq_true,beq_iff_eq] at h;rcases h with h |h
  ·exact⟨_,bY ..,h.symm⟩
  ·obtain⟨b,hb,e⟩:=Ox h;exact⟨b,bR _ hb,e⟩
theorem Ij:∀{vc:List Vc} {j:Nat},(mw vc).contains j=true->∃b∈vc,b.id=j
 |⟨k,u,e,z,n,xs⟩::r,j,h=>by
  simp only[mw,List.contains_cons,Bool.or_eq_true,beq_iff_eq] at h;rcases h with h |h
  ·exact⟨_,bY ..,h.symm⟩
  ·obtain⟨b,hb,e⟩:=Ij h;exact⟨b,bR _ hb,e⟩
theorem ET {nB nV:List Nat} {len:Nat}:∀{bx:List Bx},Az nB nV len bx->∀b∈bx,(b.id<len->nB.contains b.id=true)/\yK nB nV len b.cs
 |⟨k,t,cs⟩::r,h,b,hb=>by
  rcases List.mem_cons.1 hb with rfl |hb
  ·exact⟨fun hl=>by have:=h.1;dsimp only at hl this;rwa [ah hl] at this,h.2.1⟩
  ·exact ET h.2.2 b hb
theorem ES {nV:List Nat} {len:Nat}:∀{vc:List Vc},Ay nV len vc->∀b∈vc,b.id<len->nV.contains b.id=true
 |⟨k,u,e,z,n,xs⟩::r,h,b,hb=>by
  rcases List.mem_cons.1 hb with rfl |hb
  ·exact fun hl=>by have:=h.1;dsimp only at hl this;rwa [ah hl] at this
  ·exact ES h.2 b hb
theorem Ib {nid:Nat} {vc:List Vc}:∀{bx:List Bx},zZ nid vc bx->∀b∈bx,fO nid vc b.cs
 |⟨_,_,cs⟩::r,h,b,hb=>by
  rcases List.mem_cons.1 hb with rfl |hb
  ·exact h.1
  ·exact Ib h.2 b hb
theorem NQ {L:List Nat} {fg:List Vc}:∀{vc:List Vc},Ce L fg vc->∀b∈vc,L.contains b.id=true->cD fg b.id b.ver
 |⟨k,u,e,z,n,xs⟩::r,h,b,hb=>by
  rcases List.mem_cons.1 hb with rfl |hb
  ·exact fun hl=>by have:=h.1;dsimp only at hl;rwa [ah hl] at this
  ·exact NQ h.2 b hb
theorem O0:∀{bx:List Bx} {b:Bx},b∈bx->b.id<nQ bx
 |⟨k,t,cs⟩::r,b,hb=>by
  simp only[nQ];rcases List.mem_cons.1 hb with rfl |hb
  ·dsimp only;omega
  ·have:=O0 hb;omega
theorem OZ:∀{vc:List Vc} {b:Vc},b∈vc->b.id<nP vc
 |⟨k,u,e,z,n,xs⟩::r,b,hb=>by
  simp only[nP];rcases List.mem_cons.1 hb with rfl |hb
  ·dsimp only;omega
  ·have:=OZ hb;omega
theorem XS {a b:List Vc} {k u:Nat} (ha:cD a k u) (hb:cD b k u):cD (a++b) k u:=by
 induction a with
 |nil=>exact hb
 |cons y r ih=>
  obtain⟨i',v',e',z',n',x'⟩:=y;simp only[dW,cD] at ha ⊢;split
  ·rename_i e;rw[ah e] at ha;exact ha
  ·rename_i e;rw[af e] at ha;exact ih ha
theorem HB {a:List Vc} {k u:Nat} (h:∀b∈a,b.id≠k):cD a k u:=by
 induction a with
 |nil=>trivial
 |cons y r ih=>
  obtain⟨i',v',e',z',n',x'⟩:=y;simp only[cD];rw[af (h _ (bY ..))];exact ih fun b hb=>h b (bR _ hb)
theorem VS {p:Vc->Bool} {a:List Vc} {k u:Nat} (hu:(a.map (·.id)).Nodup) (h:cD a k u):cD (a.filter p) k u:=by
 induction a with
 |nil=>trivial
 |cons y r ih=>
  simp only[bN,List.nodup_cons] at hu;obtain⟨i',v',e',z',n',x'⟩:=y;simp only[cD] at h;simp only[List.filter_cons];split
  ·simp only[cD];split
   ·rename_i e;rw[ah e] at h;exact h
   ·rename_i e;rw[af e] at h;exact ih hu.2 h
  ·by_cases e:i' =k
   ·refine HB fun b hb=> ?_
    rw[<- e];exact fun e' =>hu.1 (by dsimp only;rw[<- e'];exact List.mem_map.2 ⟨b,(List.mem_filter.1 hb).1,rfl⟩)
   ·rw[af e] at h;exact ih hu.2 h
section
variable {C:Ctx} {st:LS} {V V2:Vl} {D D2:Nat->Nat} {w w2:World} {L:List Nat} {r:SV} {H' :Hp} {m' :Mem}
def kU (st:LS) (L:List Nat) (V V2:Vl):Vl:=
  ⟨fun k=>if k<st.nid then V.β k else V2.β (k - st.nid),
   fun k u=>if k<st.nid then(match np st.vc k with |some b=>if L.contains k=true/\b.ver<u then V2.γ (ju L 0 k) u else V.γ k u |none=>V.γ k u) else V2.γ (k - st.nid) u⟩
theorem Xn:Agree st.nid st.vc V (kU st L V V2):=by
 intro k hk;refine⟨ah hk,fun u hu=> ?_⟩;show(if k<st.nid then _ else _)=_;rw[ah hk];split
 ·rename_i b hb;rw[af (fun h=>by have:=M8 hb hu;omega)]
 ·rfl
theorem xt {j:Nat} (hj:j<L.length):∃k,L[j]? =some k/\k∈L/\fC L st.nid j=k:=by
 refine⟨L[j],List.getElem?_eq_getElem hj,List.getElem_mem hj,?_⟩;unfold fC;rw[List.getElem?_eq_getElem hj];rfl
theorem xu {j:Nat} (hj:¬j<L.length):fC L st.nid j=st.nid+j:=by
 unfold fC;rw[List.getElem?_eq_none (by omega)];rfl
theorem af9 (iL:L.Nodup) (ay:vh st.nid L) (hβ:∀b∈(gF st L).bx,V2.β b.id=(lA L V).β b.id) {j:Nat} (hj:j<L.length->(nK (gF st L).bx).contains j=true):
  (kU st L V V2).β (fC L st.nid j)=V2.β j:=by
 by_cases h:j<L.length
 ·obtain⟨k,hk,hm,he⟩:=xt (st:=st) h;rw[he];obtain⟨b,hb,hbj⟩:=Ox (hj h);have UF:=hβ b hb;obtain⟨x,hx,rfl⟩:=List.mem_map.1 hb;rw[(zk _ x).1] at hbj UF;have hc:=(H8 hx).2;have Df:x.id=k:=by
   have:=(zz hc).1;rw[hbj,hk] at this;exact(Option.some.inj this).symm
  show(if k<st.nid then _ else _)=_;rw[ah (BD ay k hm),<- Df,<- Ab (V:=V) hc,<- UF,hbj]
 ·rw[xu h];show(if st.nid+j<st.nid then _ else _)=_;rw[af (by omega),Nat.add_sub_cancel_left]
theorem af8 (iL:L.Nodup) (ay:vh st.nid L) (yt:(st.vc.map (·.id)).Nodup) (hγ:∀b∈(gF st L).vc,∀u,u<=b.ver->V2.γ b.id u=(lA L V).γ b.id u) {j:Nat} (hj:j<L.length->(mw (gF st L).vc).contains j=true) (u:Nat):
  (kU st L V V2).γ (fC L st.nid j) u=V2.γ j u:=by
 by_cases h:j<L.length
 ·obtain⟨k,hk,hm,he⟩:=xt (st:=st) h;rw[he];obtain⟨b,hb,hbj⟩:=Ij (hj h);have Lp:=hγ b hb;obtain⟨x,hx,rfl⟩:=List.mem_map.1 hb;rw[(ny _ x).1] at hbj Lp;rw[(ny _ x).2.1] at Lp;obtain⟨Lq,hc⟩:=vB hx;have Df:x.id=k:=by
   have:=(zz hc).1;rw[hbj,hk] at this;exact(Option.some.inj this).symm
  show(if k<st.nid then _ else _)=_;rw[ah (BD ay k hm),<- Df,Ol yt Lq];dsimp only;by_cases hu:x.ver<u
  ·rw[ah ⟨hc,hu⟩,hbj]
  ·rw[af (fun h=>hu h.2),<- Ct (V:=V) hc,<- Lp u (by omega),hbj]
 ·rw[xu h];show(if st.nid+j<st.nid then _ else _)=_;rw[af (by omega),Nat.add_sub_cancel_left]
structure Bk (st:LS) (L:List Nat) (V V2:Vl):Prop where
 β:∀j,(j<L.length->(nK (gF st L).bx).contains j=true)->(kU st L V V2).β (fC L st.nid j)=V2.β j
 γ:∀j u,(j<L.length->(mw (gF st L).vc).contains j=true)->(kU st L V V2).γ (fC L st.nid j) u=V2.γ j u
theorem Dc {p:Prop} [Decidable p] {q:Prop} (h:if p then q else True):p->q:=fun hp=>by rwa [ah hp] at h
theorem Ax (hb:Bk st L V V2) {s:SV} (h:sG (nK (gF st L).bx) (mw (gF st L).vc) L.length s):bK (kU st L V V2) (nk (fC L st.nid) s)=bK V2 s:=by
 cases s with
 |v x=>rfl
 |box k o=>show Value.pointer _=Value.pointer _;rw[hb.β k (Dc h)]
 |vec k u=>show Hd.val _=Hd.val _;rw[hb.γ k u (Dc h)]
 |vp k u o=>show Value.pointer _=Value.pointer _;rw[hb.γ k u (Dc h)]
 |mp k=>show Value.map _=Value.map _;rw[hb.β k (Dc h)]
 |mv f k o=>show Value.func _ _ _=Value.func _ _ _;rw[hb.β k (Dc h)]
 |agg cs=>rfl
 |tup l=>rfl
theorem KV (hb:Bk st L V V2):∀{l:List SV},yK (nK (gF st L).bx) (mw (gF st L).vc) L.length l->(l.map (nk (fC L st.nid))).map (bK (kU st L V V2))=l.map (bK V2)
 |[],_=>rfl
 |s::r,h=>by simp only[bN];rw[Ax hb h.1,KV hb h.2]
theorem yg (hb:Bk st L V V2) {s:SV} (h:DL (nK (gF st L).bx) (mw (gF st L).vc) L.length s):nu (kU st L V V2) (Ah (fC L st.nid) s)=nu V2 s:=by
 cases s with
 |agg cs=>show Value.agg _=Value.agg _;rw[KV hb h]
 |v x=>rfl
 |box k o=>exact Ax (s:= .box k o) hb h
 |vec k u=>exact Ax (s:= .vec k u) hb h
 |vp k u o=>exact Ax (s:= .vp k u o) hb h
 |mp k=>exact Ax (s:= .mp k) hb h
 |mv f k o=>exact Ax (s:= .mv f k o) hb h
 |tup l=>rfl
theorem Ul (hb:Bk st L V V2):∀{l:List SV},DK (nK (gF st L).bx) (mw (gF st L).vc) L.length l->(l.map (Ah (fC L st.nid))).map (nu (kU st L V V2))=l.map (nu V2)
 |[],_=>rfl
 |s::r,h=>by simp only[bN];rw[yg hb h.1,Ul hb h.2]
theorem akK (hb:Bk st L V V2) {s:SV} (h:G6 (nK (gF st L).bx) (mw (gF st L).vc) L.length s):den (kU st L V V2) (uP (fC L st.nid) s)=den V2 s:=by
 cases s with
 |tup l=>show Value.tuple _=Value.tuple _;rw[Ul hb h]
 |v x=>rfl
 |box k o=>exact yg (s:= .box k o) hb h
 |vec k u=>exact yg (s:= .vec k u) hb h
 |vp k u o=>exact yg (s:= .vp k u o) hb h
 |mp k=>exact yg (s:= .mp k) hb h
 |mv f k o=>exact yg (s:= .mv f k o) hb h
 |agg cs=>exact yg (s:= .agg cs) hb h
theorem aa9 (iL:L.Nodup) (ay:vh st.nid L) (j:Nat):(fun k=>if k<st.nid then ju L 0 k else k - st.nid) (fC L st.nid j)=j:=by
 by_cases h:j<L.length
 ·obtain⟨k,hk,hm,he⟩:=xt (st:=st) h;dsimp only;rw[he,ah (BD ay k hm)];unfold ju;rw[Ow iL hk];rfl
 ·dsimp only;rw[xu h,af (by omega),Nat.add_sub_cancel_left]
theorem HSat.back (hb:Bk st L V V2) (iL:L.Nodup) (ay:vh st.nid L) (h:HSat V2 D2 w2 H') (Ds:Az (nK (gF st L).bx) (mw (gF st L).vc) L.length H'.bx) (UL:Ay (mw (gF st L).vc) L.length H'.vc):
  HSat (kU st L V V2) D2 w2 ⟨H'.bx.map (pt (fC L st.nid)),H'.vc.map (ke (fC L st.nid))⟩/\
   bq (kU st L V V2) ⟨H'.bx.map (pt (fC L st.nid)),H'.vc.map (ke (fC L st.nid))⟩=bq V2 H' :=by
 have iO:bq (kU st L V V2) ⟨H'.bx.map (pt (fC L st.nid)),H'.vc.map (ke (fC L st.nid))⟩=bq V2 H' :=by
  unfold bq;congr 1
  ·rw[List.map_map];refine List.map_congr_left fun b hm=> ?_
   show(kU st L V V2).β (pt _ b).id=_;rw[(zk _ b).1,hb.β _ (ET Ds b hm).1]
  ·rw[List.filterMap_map];refine DO fun b hm=> ?_
   show((kU st L V V2).γ (ke _ b).id (ke _ b).ver).blk=_;rw[(ny _ b).1,(ny _ b).2.1,hb.γ _ _ (ES UL b hm)]
 refine⟨⟨fun b hm=> ?_,fun b hm=> ?_,by rw[iO];exact h.apart,?_⟩,iO⟩
 ·obtain⟨x,hx,rfl⟩:=List.mem_map.1 hm;obtain⟨e1,e2,e3⟩:=zk (fC L st.nid) x;obtain⟨h1,h2⟩:=h.bx x hx;unfold DN;rw[e1,e2,e3,hb.β _ (ET Ds x hx).1,KV hb (ET Ds x hx).2];exact⟨h1,h2⟩
 ·obtain⟨x,hx,rfl⟩:=List.mem_map.1 hm;obtain⟨e1,e2,e3,e4,e5,e6⟩:=ny (fC L st.nid) x;have h1:=h.vc x hx;unfold yM;rw[e1,e2,e3,e4,e5,e6,hb.γ _ _ (ES UL x hx)];exact h1
 ·dsimp only;rw[List.map_map];have:(H'.vc.map ((·.id)∘ke (fC L st.nid)))=(H'.vc.map (·.id)).map (fC L st.nid):=by
   rw[List.map_map];exact List.map_congr_left fun b _=>(ny _ b).1
  rw[this];exact Og (g:=fun k=>if k<st.nid then ju L 0 k else k - st.nid) (fun j _=>aa9 iL ay j) h.uniq
theorem SatW.call (h:SatW C st.bx st.vc st.nid st.m V D w) (gH:KB st L []) (LP:Jy st L r H' m')
  (wB:Wf w2 D2) (tM:HSat V2 D2 w2 H') (hβ:∀b∈(gF st L).bx,V2.β b.id=(lA L V).β b.id) (hγ:∀b∈(gF st L).vc,∀u,u<=b.ver->V2.γ b.id u=(lA L V).γ b.id u)
  (pV:Frm (· ∈bq (lA L V) (gF st L)) w D w2 D2) (tD:∀b∈bq V2 H',b∈bq (lA L V) (gF st L)\/w.heap.size<=b) (hle:Mem.le ⟨w,D⟩ ⟨w2,D2⟩) (aN:st.m.le m') (aH:m'.le ⟨w2,D2⟩):
  ∃V3,Agree st.nid st.vc V V3/\den V3 (uP (fC L st.nid) r)=den V2 r/\SatW C (vQ st L H' m').bx (vQ st L H' m').vc (vQ st L H' m').nid m' V3 D2 w2/\
   ∀k u,k<st.nid->cD st.vc k u->cD (vQ st L H' m').vc k u:=by
 obtain⟨iL,ay,_,_⟩:=gH;have iL:=Oh iL;obtain⟨c1,c2,c3,c4,c5,c6⟩:=LP;have yt:=h.heap.uniq;have hb:Bk st L V V2:=⟨fun j hj=>af9 iL ay hβ hj,fun j u hj=>af8 iL ay yt hγ hj u⟩;obtain⟨wN,iO⟩:=tM.back hb iL ay c2 c3;have nw:=D3 L h.heap;obtain⟨hp,hd,hdis⟩:=nw.app;have jy:Agree st.nid st.vc V (kU st L V V2):=Xn;have Gb:bq (lA L V) (gF st L)=bq V ⟨gA L st.bx,fX L st.vc⟩:=RV;have sE:∀b∈nE L st.bx,b∈st.bx:=fun b hb=>(YK hb).1
 have Dh:∀b∈mZ L st.vc,b∈st.vc:=fun b hb=>(Qk hb).1
 have Ud:bq (kU st L V V2) ⟨nE L st.bx,mZ L st.vc⟩=bq V ⟨nE L st.bx,mZ L st.vc⟩:=
  BJ (fun b hm=>(jy b.id (h.ids.1 b (sE b hm)).1).1) (fun b hm=>(jy b.id (h.ids.2 b (Dh b hm))).2 b.ver (vx yt (Dh b hm)))
 have UZ:=vG hd;have vm:HSat (kU st L V V2) D2 w2 ⟨nE L st.bx,mZ L st.vc⟩:=
  hd.frame (fun b hm=>⟨(jy b.id (h.ids.1 b (sE b hm)).1).1,yZ jy (h.ids.1 b (sE b hm)).2⟩) (fun b hm=>(jy b.id (h.ids.2 b (Dh b hm))).2 b.ver (vx yt (Dh b hm)))
   (fun g hg=>pV.same g (UZ g hg) (fun hx=>hdis g (Gb▸hx) hg))
 have gm:HSat (kU st L V V2) D2 w2 ⟨H'.bx.map (pt (fC L st.nid))++nE L st.bx,H'.vc.map (ke (fC L st.nid))++mZ L st.vc⟩:=by
  refine wN.join vm (fun g hg iN=> ?_) (fun x hx y hy=> ?_)
  ·rw[iO] at hg;rw[Ud] at iN;rcases tD g hg with e |e
   ·exact hdis g (Gb▸e) iN
   ·have:=UZ g iN;omega
  ·obtain⟨z,hz,rfl⟩:=List.mem_map.1 hx;rw[(ny _ z).1];obtain⟨fT,fE⟩:=Qk hy;by_cases hl:z.id<L.length
   ·obtain⟨k,_,hkm,he⟩:=xt (st:=st) hl;rw[he];rintro rfl;have:L.contains y.id=true:=by simpa using hkm
    rw[this] at fE;cases fE
   ·rw[xu hl];have:=h.ids.2 y fT;omega
 have uN:∀k u,k<st.nid->cD st.vc k u->cD (vQ st L H' m').vc k u:=by
  intro k u hk hv;show cD (H'.vc.map (ke (fC L st.nid))++mZ L st.vc) k u;refine XS ?_ (by rw[Bh];exact VS yt hv);by_cases hkL:L.contains k=true
  ·cases lE:np st.vc k with
   |none=>
    refine HB fun b eY e=> ?_
    obtain⟨z,hz,rfl⟩:=List.mem_map.1 eY;rw[(ny _ z).1] at e;by_cases hl:z.id<L.length
    ·obtain⟨k',fm,_,he⟩:=xt (st:=st) hl;rw[he] at e;subst e;obtain⟨y,hy,hyz⟩:=Ij (ES c3 z hz hl);obtain⟨x,hx,rfl⟩:=List.mem_map.1 hy;rw[(ny _ x).1] at hyz;obtain⟨Lq,hc⟩:=vB hx;have:=(zz hc).1;rw[hyz,fm] at this;have Df:x.id=k' :=(Option.some.inj this).symm;have:=Ol yt Lq;rw[Df,lE] at this;cases this
    ·rw[xu hl] at e;omega
   |some b=>
    have eY:b∈st.vc/\b.id=k:=by
     clear hv;revert lE;generalize st.vc=l
     intro lE;induction l with
     |nil=>cases lE
     |cons y r ih=>
      obtain⟨i',v',e',z',n',x'⟩:=y;simp only[np] at lE;split at lE
      ·rename_i e;cases lE;exact⟨bY ..,e⟩
      ·exact⟨bR _ (ih lE).1,(ih lE).2⟩
    have h6:=NQ c6 b eY.1 (by rw[eY.2];exact hkL);rw[eY.2] at h6;exact Ew h6 (M8 lE hv)
  ·refine HB fun b eY e=> ?_
   obtain⟨z,hz,rfl⟩:=List.mem_map.1 eY;rw[(ny _ z).1] at e;by_cases hl:z.id<L.length
   ·obtain⟨k',_,hm,he⟩:=xt (st:=st) hl;rw[he] at e;subst e;exact hkL (by simpa using hm)
   ·rw[xu hl] at e;omega
 have Ua:∀j,j<max (nQ H'.bx) (nP H'.vc)->fC L st.nid j<st.nid+max (nQ H'.bx) (nP H'.vc):=by
  intro j hj;by_cases hl:j<L.length
  ·obtain⟨k,_,hm,he⟩:=xt (st:=st) hl;rw[he];have:=BD ay k hm;omega
  ·rw[xu hl];omega
 refine⟨kU st L V V2,jy,akK hb c1,⟨gm,wB,h.frm.trans pV (fun x hx=>h.own x ((HT L st.bx st.vc).mem_iff.2 (List.mem_append_left _ (Gb▸hx)))),fun x hx=> ?_,fun b eY=> ?_,fun b eY=> ?_,⟨fun b eY=> ?_,fun b eY=> ?_⟩,Mem.le_trans h.le0 hle,Mem.le_trans h.m0 aN,aH⟩,uN⟩
 ·have bP:=(EP _ _ _ _).mem_iff.1 hx;rcases List.mem_append.1 bP with bP |bP
  ·rw[iO] at bP;rcases tD x bP with e |e
   ·exact h.own x ((HT L st.bx st.vc).mem_iff.2 (List.mem_append_left _ (Gb▸e)))
   ·exact .inr (cZ h.frm.size e)
  ·rw[Ud] at bP;exact h.own x ((HT L st.bx st.vc).mem_iff.2 (List.mem_append_right _ bP))
 ·obtain⟨e1,e2⟩:=h.baseB b eY;exact⟨((jy b.id e2).1).trans e1,eM e2 (Nat.le_add_right _ _)⟩
 ·obtain⟨e1,e2,e3⟩:=h.baseV b eY;exact⟨fun u hu=>((jy b.id e2).2 u (Ew e3 hu)).trans (e1 u hu),eM e2 (Nat.le_add_right _ _),uN _ _ e2 e3⟩
 ·rcases List.mem_append.1 eY with eY |eY
  ·refine⟨?_,Ib c5 b eY⟩;obtain⟨x,hx,rfl⟩:=List.mem_map.1 eY;rw[(zk _ x).1];exact Ua _ (eM (O0 hx) (Nat.le_max_left _ _))
  ·exact⟨eM (h.ids.1 b (sE b eY)).1 (Nat.le_add_right _ _),xh (Nat.le_add_right _ _) uN (h.ids.1 b (sE b eY)).2⟩
 ·rcases List.mem_append.1 eY with eY |eY
  ·obtain⟨x,hx,rfl⟩:=List.mem_map.1 eY;rw[(ny _ x).1];exact Ua _ (eM (OZ hx) (Nat.le_max_right _ _))
  ·exact eM (h.ids.2 b (Dh b eY)) (Nat.le_add_right _ _)
end
theorem uw {V:Vl}:∀{cs:List SV},kp cs=true->∀v∈cs.map (bK V),v.oneCell' =true
 | .v x::r,h,v,hv=>by
  simp only[kp,aD] at h;simp only[bN] at hv;rcases List.mem_cons.1 hv with rfl |hv
  ·exact h.1
  ·exact uw h.2 v hv
 | .box k o::r,h,v,hv=>by
  simp only[bN] at hv;rcases List.mem_cons.1 hv with rfl |hv
  ·rfl
  ·exact uw (cs:=r) h v hv
 | .vec k o::r,h,v,hv=>by
  simp only[bN] at hv;rcases List.mem_cons.1 hv with rfl |hv
  ·rfl
  ·exact uw (cs:=r) h v hv
 | .vp k u o::r,h,v,hv=>by
  simp only[bN] at hv;rcases List.mem_cons.1 hv with rfl |hv
  ·rfl
  ·exact uw (cs:=r) h v hv
 | .mp k::r,h,v,hv=>by
  simp only[bN] at hv;rcases List.mem_cons.1 hv with rfl |hv
  ·rfl
  ·exact uw (cs:=r) h v hv
 | .mv f k o::r,h,v,hv=>by
  simp only[bN] at hv;rcases List.mem_cons.1 hv with rfl |hv
  ·rfl
  ·exact uw (cs:=r) h v hv
 | .agg cs::r,h,v,hv=>by simp [kp] at h
 | .tup cs::r,h,v,hv=>by simp [kp] at h
theorem Yn {V:Vl} {s:SV} {x:Value} (h:plain s=some x):bK V s=x:=by
 cases s<;>simp only[plain,dT] at h<;>first |exact h |cases h
theorem D6 {V:Vl}:∀{cs:List SV} {l:List Value},mX cs=some l->cs.map (bK V)=l
 |[],l,h=>by simp only[mX,dT] at h;subst h;rfl
 |s::r,l,h=>by
  simp only[mX,Option.bind_eq_some_iff,Option.map_eq_some_iff] at h;obtain⟨x,hx,l',hl,rfl⟩:=h;simp only[bN];rw[Yn hx,D6 hl]
theorem I8:∀(l cs:List SV) (off:Nat),off+l.length<=cs.length->lu cs off l=cs.take off++l++cs.drop (off+l.length)
 |[],cs,off,_=>by simp [lu]
 |c::r,cs,off,h=>by
  simp only[aL] at h;simp only[lu];rw[I8 r (cs.set off c) (off+1) (by simp;omega)];have h1:(cs.set off c).take (off+1)=cs.take off++[c]:=by
   rw[List.take_set,List.take_succ_eq_append_getElem (by omega)];rw[List.set_append_right _ _ (by simp [Nat.min_le_left])];simp [List.length_take,Nat.min_eq_left (by omega:off<=cs.length)]
  have h2:(cs.set off c).drop (off+1+r.length)=cs.drop (off+1+r.length):=List.drop_set_of_lt (by omega);rw[h1,h2];simp [Nat.add_assoc,Nat.add_comm 1]
theorem ER {V:Vl} {g:Nat}:∀{l:List Vc} {x b:Vc},x∈l->b∈l->(V.γ x.id x.ver).blk=some g->(V.γ b.id b.ver).blk=some g->(l.filterMap fun b=>(V.γ b.id b.ver).blk).Nodup->x=b
 |y::r,x,b,hx,hb,hxg,hbg,hf=>by
  simp only[List.filterMap_cons] at hf;rcases List.mem_cons.1 hx with e1 |bP<;>rcases List.mem_cons.1 hb with e2 |oW
  ·exact e1.trans e2.symm
  ·subst e1;rw[hxg] at hf;exact absurd (List.mem_filterMap.2 ⟨b,oW,hbg⟩) (List.nodup_cons.1 hf).1
  ·subst e2;rw[hbg] at hf;exact absurd (List.mem_filterMap.2 ⟨x,bP,hxg⟩) (List.nodup_cons.1 hf).1
  ·refine ER bP oW hxg hbg ?_;split at hf
   ·exact hf
   ·exact(List.nodup_cons.1 hf).2
section
variable {C:Ctx} {n:Nat} {st:LS} {a:Act} {V:Vl} {D:Nat->Nat} {w:World} {P:Program} {p:bV}
theorem Sat.to (hS:Sat C n st a V D w) {qS:List Bx} {fg:List Vc} {iX:Nat} {m' :Mem} {V' :Vl} {D' :Nat->Nat} {w' :World} (ha:Agree st.nid st.vc V V') (hn:st.nid<=iX)
  (hv:∀k u,k<st.nid->cD st.vc k u->cD fg k u) (hW:SatW C qS fg iX m' V' D' w'):Sat C n ⟨st.env,st.rho,qS,fg,iX,m'⟩ a V' D' w' :=
 ⟨hS.f.agree hS.ids ha,fun e he=>PD hn hv (hS.ids e he),hW⟩
theorem SatW.pub (h:SatW C st.bx st.vc st.nid st.m V D w) {k u:Nat} {b:Vc} (hb:eU st.vc k u=some b):
  ∃(a:Option Addr) (c:Nat) (m1:Mem) (D' :Nat->Nat),st.m.le m1/\b.n<=c/\aZ m1 a b.n b.sz b.xs/\(V.γ k u).val= .slice a b.n c/\SatW C st.bx st.vc st.nid m1 V D' w:=by
 obtain⟨rfl,rfl,hm⟩:=BE hb;obtain⟨ej,hD,eD,qv⟩:=h.heap.vc b hm;obtain⟨hn,hl,_⟩:=xC ej;let D' :Nat->Nat:=fun x=>if(V.γ b.id b.ver).blk=some x then b.n * b.sz else D x
 have hDD:∀x,D x<=D' x:=fun x=>by
  show D x<=if _ then _ else _
  split
  ·rename_i e;exact hD x e
  ·exact au _
 have kI:Wf w D' :=fun x hx=>by
  show(if _ then _ else _)=0;split
  ·rename_i e;have:=(Ja ej e).2;omega
  ·exact h.wf x hx
 have hle:Mem.le ⟨w,D⟩ ⟨w,D'⟩:=Mem.le_same h.wf (fun x _=>⟨hDD x,fun _=>rfl⟩);have ags:Mem.le ⟨w,D'⟩ ⟨w,D'⟩:=Mem.le_refl ⟨w,D'⟩ kI;have ajS:∀g,g∈bq V ⟨st.bx,st.vc⟩->(V.γ b.id b.ver).blk≠some g->D' g=D g:=fun g _ cQ=>af cQ
 refine⟨(V.γ b.id b.ver).a,(V.γ b.id b.ver).c,⟨w,D'⟩,D',Mem.le_trans h.mle hle,?_,⟨hl,fun h0=> ?_⟩,by unfold Hd.val;rw[hn],?_⟩
 ·rcases ej.2 with ⟨_,hz⟩ |⟨g,cap,cur,hv,_,_,hc,_⟩
  ·omega
  ·simp only[Hd.val,Value.slice.injEq] at hv;omega
 ·rcases ej.2 with ⟨_,hz⟩ |⟨g,cap,cur,hv,_,hh,hc,_,gX,htk⟩
  ·omega
  ·simp only[Hd.val,Value.slice.injEq] at hv;refine⟨⟨g,0,none⟩,hv.1,rfl,fun j hj=> ?_⟩;have LP:(V.γ b.id b.ver).blk=some g:=by unfold Hd.blk;rw[hv.1];rfl
   refine⟨?_,?_⟩
   ·rw[DT];simp only[World.cell?,hh,Option.isSome_none,Bool.false_eq_true,if_false];rw[<- htk,List.getElem?_take,ah hj,Array.getElem?_toList]
   ·show 0+j<D' g;have:D' g=b.n * b.sz:=ah LP;omega
 ·refine⟨⟨fun x hx=> ?_,fun x hx=> ?_,h.heap.apart,h.heap.uniq⟩,kI,h.frm.trans (S:=fun x=>(V.γ b.id b.ver).blk=some x) ⟨rfl,rfl,rfl,au _,fun x _ hx=>⟨rfl,af hx⟩⟩ (fun x hx=>h.own x (by
   simp only[bq,List.mem_append,List.mem_filterMap]
   exact .inr ⟨b,hm,hx⟩)),h.own,h.baseB,h.baseV,h.ids,Mem.le_trans h.le0 hle,Mem.le_trans h.m0 (Mem.le_trans h.mle hle),ags⟩
  ·obtain⟨h1,h2⟩:=h.heap.bx x hx;refine⟨h1,?_⟩;rw[ajS _ (by simp only[bq,List.mem_append,List.mem_map];exact .inl ⟨x,hx,rfl⟩)]
   ·exact h2
   ·intro e;have qN:=h.heap.apart;unfold bq at qN;exact(List.nodup_append.1 qN).2.2 _ (List.mem_map.2 ⟨x,hx,rfl⟩) _ (List.mem_filterMap.2 ⟨b,hm,e⟩) rfl
  ·obtain⟨h1,h2,h3,h4⟩:=h.heap.vc x hx;refine⟨h1,fun g hg=> ?_,h3,h4⟩;show(if _ then _ else _)<=_;split
   ·rename_i e;have hxb:x=b:=by
     have qN:=h.heap.apart;unfold bq at qN;have hf:=(List.nodup_append.1 qN).2.1;exact ER hx hm hg e hf
    rw[hxb];exact au _
   ·exact h2 g hg
theorem qU:∀(l:List SV) (K:List SV->LS->Prop) (m:Mem) (D:Nat->Nat),oB l K ⟨st.env,st.rho,st.bx,st.vc,st.nid,m⟩->SatW C st.bx st.vc st.nid m V D w->
  ∃l' m1 D1,K l' ⟨st.env,st.rho,st.bx,st.vc,st.nid,m1⟩/\SatW C st.bx st.vc st.nid m1 V D1 w/\l'.map (bK V)=l.map (bK V)/\(∀x∈l',∀cs,x= .agg cs-> .agg cs∈l)
 |[],K,m,D,h,hW=>⟨[],m,D,h,hW,rfl,fun _ h=>by cases h⟩
 |s::r,K,m,D,h,hW=>by
  cases s with
  |vec k u=>
   simp only[oB] at h;obtain⟨b,hb,h⟩:=aO h;obtain⟨ad,c,m1,D',h1,h2,h3,h4,h5⟩:=SatW.pub (st:=⟨st.env,st.rho,st.bx,st.vc,st.nid,m⟩) hW hb;obtain⟨l',m2,D2,e1,e2,e3,e4⟩:=qU r _ m1 D' (h ad c m1 h1 h2 h3) h5;refine⟨_,m2,D2,e1,e2,?_,fun x hx cs e=> ?_⟩
   ·simp only[bN];rw[e3];congr 1
    exact h4.symm
   ·rcases List.mem_cons.1 hx with rfl |hx
    ·cases e
    ·exact bR _ (e4 x hx cs e)
  |v x=>
   obtain⟨l',m2,D2,e1,e2,e3,e4⟩:=qU r _ m D h hW
   exact⟨_,m2,D2,e1,e2,by simp only[bN,e3],fun y hy cs e=>by
    rcases List.mem_cons.1 hy with rfl |hy
    ·cases e
    ·exact bR _ (e4 y hy cs e)⟩
  |box k o=>
   obtain⟨l',m2,D2,e1,e2,e3,e4⟩:=qU r _ m D h hW
   exact⟨_,m2,D2,e1,e2,by simp only[bN,e3],fun y hy cs e=>by
    rcases List.mem_cons.1 hy with rfl |hy
    ·cases e
    ·exact bR _ (e4 y hy cs e)⟩
  |vp k u o=>
   obtain⟨l',m2,D2,e1,e2,e3,e4⟩:=qU r _ m D h hW
   exact⟨_,m2,D2,e1,e2,by simp only[bN,e3],fun y hy cs e=>by
    rcases List.mem_cons.1 hy with rfl |hy
    ·cases e
    ·exact bR _ (e4 y hy cs e)⟩
  |mp k=>
   obtain⟨l',m2,D2,e1,e2,e3,e4⟩:=qU r _ m D h hW
   exact⟨_,m2,D2,e1,e2,by simp only[bN,e3],fun y hy cs e=>by
    rcases List.mem_cons.1 hy with rfl |hy
    ·cases e
    ·exact bR _ (e4 y hy cs e)⟩
  |mv f k o=>
   obtain⟨l',m2,D2,e1,e2,e3,e4⟩:=qU r _ m D h hW
   exact⟨_,m2,D2,e1,e2,by simp only[bN,e3],fun y hy cs e=>by
    rcases List.mem_cons.1 hy with rfl |hy
    ·cases e
    ·exact bR _ (e4 y hy cs e)⟩
  |agg cs=>
   obtain⟨l',m2,D2,e1,e2,e3,e4⟩:=qU r _ m D h hW
   exact⟨_,m2,D2,e1,e2,by simp only[bN,e3],fun y hy dH e=>by
    rcases List.mem_cons.1 hy with rfl |hy
    ·rw[e];exact bY ..
    ·exact bR _ (e4 y hy dH e)⟩
  |tup l0=>
   obtain⟨l',m2,D2,e1,e2,e3,e4⟩:=qU r _ m D h hW
   exact⟨_,m2,D2,e1,e2,by simp only[bN,e3],fun y hy cs e=>by
    rcases List.mem_cons.1 hy with rfl |hy
    ·cases e
    ·exact bR _ (e4 y hy cs e)⟩
end
end Go.Proofs.YtimddhkipjedcaaGreatDoor.E

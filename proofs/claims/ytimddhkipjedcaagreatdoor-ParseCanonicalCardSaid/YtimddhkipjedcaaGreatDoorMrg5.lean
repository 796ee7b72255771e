/- Several texts in one: AstPa, AstPe, AstPb, AstPc, AstPf, AstPd, AstPg, AstQb, AstPi, AstQd, AstQs, AstQp, AstQe, AstQf, AstQg, AstQh, AstQi, AstQj, AstQk. -/
import Derived.Lib.IndexAny
import Derived.Test.YtimddhkipjedcaaGreatDoorMrg4
set_option linter.unusedSimpArgs false
set_option linter.unusedVariables false
set_option maxHeartbeats 4000000
set_option maxRecDepth 20000
namespace Go.Proofs.YtimddhkipjedcaaGreatDoor.E
open Go
abbrev PR (α:Type):=Except (List Tk) (α×List Tk)
def an {α β:Type}:PR α->(α->List Tk->PR β)->PR β
 | .ok x,k=>k x.1 x.2
 | .error e,_=> .error e
def az (s:List UInt8):List Tk->Bool
 |[]=>false
 |t::_=>(decide (t.k=2)||decide (t.k=6))&&decide (t.s=s)
def j3:List Tk->List UInt8
 |[]=>[]
 |t::_=>t.s
def gO:List Tk->Int
 |[]=>0
 |t::_=>t.k
def sC:List Tk->Int
 |[]=>0
 |t::_=>t.n
def gj (l:List Tk):Bool:=decide (gO l=1)&&dd (j3 l)
def kg (l:List Tk):Bool:=decide (gO l=1)&& !dd (j3 l)&& !(j3 l).contains 47
def aV {α:Type} (s:List UInt8) (l:List Tk) (k:List Tk->PR α):PR α:=if az s l=true then k l.tail else .error l
def fy (l:List Tk):PR (List UInt8):=if gj l=true then .ok (j3 l,l.tail) else .error l
def cY (l:List Tk):PR (List UInt8):=if kg l=true then .ok (j3 l,l.tail) else .error l
def jl (l:List Tk):PR Ty:=
 if az iH l=true then .ok (⟨0,73,[]⟩,l.tail)
 else if az iE l=true then .ok (⟨0,74,[]⟩,l.tail)
 else an (fy l) fun s r=> .ok (⟨0,76,s⟩,r)
def Ty.up (t:Ty):Ty:=⟨t.dim+1,t.base,t.name⟩
def jF:Nat->Ty->List Tk->PR Ty
 |0,t,l=> .ok (t,l)
 |f+1,t,l=>if az [91] l=true then aV [93] l.tail fun r=>jF f t.up r else .ok (t,l)
def eV (l:List Tk):PR Ty:=an (jl l) fun t r=>jF r.length t r
def qu (n:Nat):List (List UInt8):=
 if n=0 then[[124,124]] else if n=1 then[[38,38]] else if n=2 then[[124]] else if n=3 then[[94]] else if n=4 then[[38]]
 else if n=5 then[[61,61],[33,61]] else if n=6 then[[60],[60,61],[62],[62,61]] else if n=7 then[[60,60],[62,62],[62,62,62]]
 else if n=8 then[[43],[45]] else[[42],[47],[37]]
def iU (n:Nat) (l:List Tk):Bool:=decide (gO l=6)&&(qu n).contains (j3 l)
def iF:Nat->Ty->List Tk->PR Ty
 |0,t,l=> .ok (t,l)
 |f+1,t,l=>if az [93] l=true then aV [91] l.tail fun r=>iF f t.up r else .ok (t,l)
mutual
def cw:Nat->Nat->List Tk->PR Ex
 |0,_,l=> .error l
 |f+1,n,l=>if n=10 then gJ f l else an (cw f (n+1) l) fun e r=>fR f n e r
def fR:Nat->Nat->Ex->List Tk->PR Ex
 |0,_,_,l=> .error l
 |f+1,n,e,l=>
  if iU n l=true then an (cw f (n+1) l.tail) fun x r=>fR f n (.mk 16 0 (j3 l) [] ai [e,x]) r
  else if n=6/\az [105,115] l=true then an (eV l.tail) fun t r=>fR f n (.mk 18 0 [] [] t [e]) r
  else if n=6/\az [97,115] l=true then an (eV l.tail) fun t r=>fR f n (.mk 17 0 [] [] t [e]) r
  else .ok (e,l)
def gJ:Nat->List Tk->PR Ex
 |0,l=> .error l
 |f+1,l=>
  if az [45] l=true then an (gJ f l.tail) fun x r=> .ok (.mk 15 0 [45] [] ai [x],r)
  else if az [33] l=true then an (gJ f l.tail) fun x r=> .ok (.mk 15 0 [33] [] ai [x],r)
  else an (gZ f l) fun e r=>fY f e r
def fY:Nat->Ex->List Tk->PR Ex
 |0,_,l=> .error l
 |f+1,e,l=>
  if az [46] l=true then an (cY l.tail) fun s r=>
   if az [40] r=true then an (gB f r) fun es r2=>fY f (.mk 10 0 s [] ai (e::es)) r2
   else fY f (.mk 7 0 s [] ai [e]) r
  else if az [91] l=true then an (cw f 0 l.tail) fun i r=>aV [93] r fun r2=>fY f (.mk 9 0 [] [] ai [e,i]) r2
  else .ok (e,l)
def gB:Nat->List Tk->PR (List Ex)
 |0,l=> .error l
 |f+1,l=>aV [40] l fun r=>if az [41] r=true then .ok ([],r.tail) else an (cw f 0 r) fun e r2=>kf f [e] r2
def kf:Nat->List Ex->List Tk->PR (List Ex)
 |0,_,l=> .error l
 |f+1,acc,l=>if az [44] l=true then an (cw f 0 l.tail) fun e r=>kf f (acc++[e]) r else aV [41] l fun r=> .ok (acc,r)
def fj:Nat->List Tk->PR Ex
 |0,l=> .error l
 |f+1,l=>aV [40] l fun r=>an (cw f 0 r) fun e r2=>aV [41] r2 fun r3=> .ok (e,r3)
def gZ:Nat->List Tk->PR Ex
 |0,l=> .error l
 |f+1,l=>
  if gO l=3 then .ok (.mk 1 (sC l) [] [] ai [],l.tail)
  else if gO l=4 then .ok (.mk 2 (sC l) [] [] ai [],l.tail)
  else if gO l=5 then .ok (.mk 3 0 (j3 l) [] ai [],l.tail)
  else if kg l=true then an (cY l) fun s r=> .ok (.mk 6 0 s [] ai [],r)
  else if gj l=true then an (fy l) fun c r=>aV [46] r fun r2=>an (cY r2) fun s r3=>
   if az [40] r3=true then an (gB f r3) fun es r4=> .ok (.mk 11 0 s c ai es,r4) else .ok (.mk 8 0 s c ai [],r3)
  else if az [40] l=true then fj f l
  else jo f l
def jo:Nat->List Tk->PR Ex
 |0,l=> .error l
 |f+1,l=>
  if az [110,117,108,108] l=true then .ok (.mk 4 0 [] [] ai [],l.tail)
  else if az [116,104,105,115] l=true then .ok (.mk 5 0 [] [] ai [],l.tail)
  else if az [115,117,112,101,114] l=true then aV [46] l.tail fun r=>an (cY r) fun s r2=>an (gB f r2) fun es r3=> .ok (.mk 12 0 s [] ai es,r3)
  else if az [110,101,119] l=true then an (jl l.tail) fun t r=>
   if t.base=76/\az [40] r=true then an (gB f r) fun es r2=> .ok (.mk 13 0 [] t.name ai es,r2)
   else aV [91] r fun r2=>an (iF r2.length t r2) fun t2 r3=>an (cw f 0 r3) fun e r4=>aV [93] r4 fun r5=> .ok (.mk 14 0 [] [] t2 [e],r5)
  else if az [108,101,110] l=true then an (fj f l.tail) fun e r=> .ok (.mk 19 0 [] [] ai [e],r)
  else if az iH l=true then an (fj f l.tail) fun e r=> .ok (.mk 20 0 [] [] ai [e],r)
  else if az iE l=true then an (fj f l.tail) fun e r=> .ok (.mk 21 0 [] [] ai [e],r)
  else .error l
end
def bD {α:Type} (g:Nat->α) (K:α):Prop:=∃F,∀f,F<=f->g f=K
theorem bb {α:Type} (K:α):bD (fun _=>K) K:=⟨0,fun _ _=>rfl⟩
theorem b8 {α:Type} {g h:Nat->α} {K:α} (e:∀f,g (f+1)=h f) (H:bD h K):bD g K:=by
 obtain⟨F,hF⟩:=H;refine⟨F+1,fun f hf=> ?_⟩;cases f with
 |zero=>omega
 |succ f=>rw[e];exact hF f (by omega)
theorem dy {α β:Type} {g:Nat->PR α} {k:Nat->α->List Tk->PR β} {a:α} {r:List Tk} {K:PR β} (hg:bD g (.ok (a,r))) (hk:bD (fun f=>k f a r) K):bD (fun f=>an (g f) (k f)) K:=by
 obtain⟨F,hF⟩:=hg;obtain⟨G,hG⟩:=hk;refine⟨max F G,fun f hf=> ?_⟩;simp only[hF f (by omega),an];exact hG f (by omega)
theorem Sz {α:Type} {g:Nat->α} {K K' :α} (h:bD g K) (h' :bD g K'):K=K' :=by
 obtain⟨F,hF⟩:=h;obtain⟨G,hG⟩:=h';rw[<- hF (max F G) (by omega),hG (max F G) (by omega)]
structure Fol (n:Nat) (r:List Tk):Prop where
 dot:az [46] r=false
 lb:az [91] r=false
 lp:az [40] r=false
 op:∀m,n<=m->m<=9->iU m r=false
 is:n<=6->az [105,115] r=false/\az [97,115] r=false
theorem Fol.up {n m:Nat} {r:List Tk} (h:Fol n r) (hm:n<=m):Fol m r:=⟨h.dot,h.lb,h.lp,fun q h1 h2=>h.op q (by omega) h2,fun h1=>h.is (by omega)⟩
def Gl (n:Nat) (t:Tk):Bool:= !az [46] [t]&& !az [91] [t]&& !az [40] [t]&&((List.range 10).all fun m=>decide (m<n)|| !iU m [t])&&(decide (6<n)||(!az [105,115] [t]&& !az [97,115] [t]))
theorem mY {n:Nat} {t:Tk} (h:Gl n t=true) (r:List Tk):Fol n (t::r):=by
 simp only[Gl,aD,Bool.or_eq_true,Bool.not_eq_true',bt,List.all_eq_true,List.mem_range] at h;obtain⟨⟨⟨⟨h1,h2⟩,h3⟩,h4⟩,h5⟩:=h;refine⟨h1,h2,h3,fun m hm h9=> ?_,fun hn=> ?_⟩
 ·rcases h4 m (by omega) with g |g
  ·omega
  ·exact g
 ·rcases h5 with g |g
  ·omega
  ·exact g
theorem abX:∀s∈opsL,∃m,m<=9/\s∈qu m/\Gl (m+1) (sg s)=true:=by
 have:opsL.all fun s=>(List.range 10).any fun m=>(qu m).contains s&&Gl (m+1) (sg s):=by decide
 intro s hs;have h:=List.all_eq_true.1 this s hs;obtain⟨m,hm,h⟩:=List.any_eq_true.1 h;simp only[aD,List.contains_iff_mem] at h;exact⟨m,by have:=List.mem_range.1 hm;omega,h.1,h.2⟩
theorem IH {e:Ex} {r:List Tk} (h1:az [46] r=false) (h2:az [91] r=false):bD (fun f=>fY f e r) (.ok (e,r)):=
 b8 (h:=fun _=> .ok (e,r)) (fun f=>by rw[fY,h1,h2];rfl) (bb _)
theorem EF {n:Nat} {e:Ex} {r:List Tk} (hn:n<=9) (h:Fol n r):bD (fun f=>fR f n e r) (.ok (e,r)):=
 b8 (h:=fun _=> .ok (e,r)) (fun f=>by
  rw[fR,h.op n (au _) hn];by_cases h6:n=6
  ·subst h6;rw[(h.is (au _)).1,(h.is (au _)).2];rfl
  ·simp [h6]) (bb _)
theorem ac9 {n:Nat} {e:Ex} {l r:List Tk} (hn:n<=9) (h:bD (fun f=>cw f (n+1) l) (.ok (e,r))) (hf:Fol n r):bD (fun f=>cw f n l) (.ok (e,r)):=
 b8 (h:=fun f=>an (cw f (n+1) l) fun e r=>fR f n e r) (fun f=>by rw[cw,af (by omega)]) (dy h (EF hn hf))
theorem zg {k:Nat}:∀{n:Nat} {e:Ex} {l r:List Tk},n+k<=10->bD (fun f=>cw f (n+k) l) (.ok (e,r))->Fol n r->bD (fun f=>cw f n l) (.ok (e,r)):=by
 induction k with
 |zero=>intro n e l r _ h _;exact h
 |succ k ih=>
  intro n e l r hn h hf;exact ih (by omega) (ac9 (by omega) h (hf.up (by omega))) hf
theorem HP {e:Ex} {l r:List Tk} (h:bD (fun f=>gJ f l) (.ok (e,r))):bD (fun f=>cw f 10 l) (.ok (e,r)):=
 b8 (h:=fun f=>gJ f l) (fun f=>by rw[cw,ah rfl]) h
/-! Types. -/
theorem RM:∀(k:Nat) (f:Nat) (t:Ty) (r:List Tk),k<=f->az [91] r=false->jF f t ((List.replicate k [sg [91],sg [93]]).flatten++r)= .ok (⟨t.dim+k,t.base,t.name⟩,r)
 |0,f,t,r,_,h=>by
  cases f with
  |zero=>simp [jF]
  |succ f=>simp [jF,h]
 |k+1,0,_,_,hk,_=>by omega
 |k+1,f+1,t,r,hk,h=>by
  have ih:=RM k f t.up r (by omega) h;simp only[List.replicate_succ,List.flatten_cons,dW,List.nil_append];rw[jF];simp only[az,sg,List.tail_cons,aV];simp only[sg] at ih;rw[ah (by decide),ah (by decide),ih];simp only[Ty.up];congr 2
  simp only[Ty.mk.injEq,and_true];omega
theorem yU {t:Ty} (h:dw t.dim t.base t.name=true):0<=t.dim/\t.dim<=8/\((t.base=73/\t.name=[])\/(t.base=74/\t.name=[])\/(t.base=76/\dd t.name=true)):=by
 simp only[dw,aD,bt,Bool.or_eq_true] at h;obtain⟨⟨h1,h2⟩,h3⟩:=h;unfold o7 at h1;split at h1
 ·cases h1
 ·rename_i hd;refine⟨by omega,by omega,?_⟩;split at h1
  ·rename_i hb;simp only[bt] at h1;rcases hb with hb |hb
   ·exact .inl ⟨hb,h1⟩
   ·exact .inr (.inl ⟨hb,h1⟩)
  ·split at h1
   ·rename_i hb;rcases h3 with g |g
    ·exact absurd hb g
    ·exact .inr (.inr ⟨hb,g⟩)
   ·cases h1
theorem RZ {t:Ty} (h:dw t.dim t.base t.name=true) (r:List Tk):jl (iW t.base t.name::r)= .ok (⟨0,t.base,t.name⟩,r):=by
 obtain⟨_,_,h3⟩:=yU h;rcases h3 with ⟨h1,h2⟩ |⟨h1,h2⟩ |⟨h1,h2⟩
 ·rw[h1,h2];rfl
 ·rw[h1,h2];rfl
 ·rw[h1];have e:iW 76 t.name=aM t.name:=rfl;rw[e];simp [jl,az,aM,fy,gj,gO,j3,h2,an]
theorem xy {t:Ty} (h:dw t.dim t.base t.name=true) (r:List Tk) (hr:az [91] r=false):eV (b5 t.dim t.base t.name++r)= .ok (t,r):=by
 have hv:=yU h;have e:b5 t.dim t.base t.name++r=iW t.base t.name::(gU t.dim++r):=rfl;rw[e,eV,RZ h];simp only[an];rw[gU,RM _ _ _ _ _ hr]
 ·have hd:(0:Int)+(t.dim.toNat:Int)=t.dim:=by omega
  rw[hd]
 ·rw[aI];have:=rf t.dim;simp only[gU] at this;omega
noncomputable def jU {α:Type} (g:Nat->PR α):PR α:=by
 classical
 exact if h:∃K,bD g K then h.choose else .error []
theorem PZ {α:Type} {g:Nat->PR α} (h:∃K,bD g K):bD g (jU g):=by
 unfold jU;rw[dif_pos h];exact h.choose_spec
theorem jP {α:Type} {g:Nat->PR α} {K:PR α} (h:bD g K):jU g=K:=Sz (PZ ⟨K,h⟩) h
structure Good {α:Type} (lt:Bool) (l:List Tk) (K:PR α):Prop where
 ok:∀x r,K= .ok (x,r)->r<:+l/\(lt=true->r.length<l.length)
 er:∀r,K= .error r->r<:+l
def Tot {α:Type} (lt:Bool) (g:Nat->PR α) (l:List Tk):Prop:=∃K,bD g K/\Good lt l K
theorem Tot.lim {α:Type} {lt:Bool} {g:Nat->PR α} {l:List Tk} (h:Tot lt g l):bD g (jU g):=by
 obtain⟨K,h1,_⟩:=h;exact PZ ⟨K,h1⟩
theorem Tot.good {α:Type} {lt:Bool} {g:Nat->PR α} {l:List Tk} (h:Tot lt g l):Good lt l (jU g):=by
 obtain⟨K,h1,h2⟩:=h;rw[jP h1];exact h2
theorem gI {a b:List Tk} (h:a<:+b):a.length<=b.length:=h.length_le
theorem cW (l:List Tk):l.tail<:+l:=List.tail_suffix l
theorem ep {l:List Tk} (h:l≠[]):l.tail.length<l.length:=by
 cases l with
 |nil=>exact absurd rfl h
 |cons a r=>simp
theorem cd {s:List UInt8} {l:List Tk} (h:az s l=true):l≠[]:=fun e=>by rw[e] at h;cases h
theorem uG {l:List Tk} {k:Int} (h:gO l=k) (hk:k≠0):l≠[]:=fun e=>by rw[e] at h;exact hk h.symm
theorem iS {α:Type} {l r:List Tk} (x:α) {lt:Bool} (h1:r<:+l) (h2:lt=true->r.length<l.length):Tot lt (fun _=> .ok (x,r)) l:=
 ⟨_,bb _,fun y q e=>by cases e;exact⟨h1,h2⟩,fun q e=>by cases e⟩
theorem BP {α:Type} {l r:List Tk} {lt:Bool} (h1:r<:+l):Tot (α:=α) lt (fun _=> .error r) l:=
 ⟨_,bb _,fun y q e=>by(cases e),fun q e=>by cases e;exact h1⟩
theorem ky {α:Type} {lt:Bool} {g h:Nat->PR α} {l:List Tk} (e:∀f,g (f+1)=h f) (H:Tot lt h l):Tot lt g l:=by
 obtain⟨K,h1,h2⟩:=H;exact⟨K,b8 e h1,h2⟩
theorem Rp {α β:Type} {g:Nat->PR α} {k:Nat->α->List Tk->PR β} {r:List Tk} (hg:bD g (.error r)):bD (fun f=>an (g f) (k f)) (.error r):=by
 obtain⟨F,hF⟩:=hg;exact⟨F,fun f hf=>by simp only[hF f hf,an]⟩
theorem cK {α β:Type} {a b:Bool} {g:Nat->PR α} {k:Nat->α->List Tk->PR β} {l:List Tk} (hg:Tot a g l)
  (hk:∀x r,r<:+l->(a=true->r.length<l.length)->Tot b (fun f=>k f x r) r):Tot (a||b) (fun f=>an (g f) (k f)) l:=by
 obtain⟨K,h1,h2⟩:=hg;cases K with
 |error r=>exact⟨.error r,Rp h1,fun x q e=>by(cases e),fun q e=>by cases e;exact h2.er _ rfl⟩
 |ok p=>
  obtain⟨x,r⟩:=p;obtain⟨s1,s2⟩:=h2.ok x r rfl;obtain⟨K2,h3,h4⟩:=hk x r s1 s2;refine⟨K2,dy h1 h3,fun y q e=> ?_,fun q e=>(h4.er q e).trans s1⟩;obtain⟨t1,t2⟩:=h4.ok y q e;refine⟨t1.trans s1,fun LQ=> ?_⟩;have u1:=gI s1;have u2:=gI t1;cases a with
  |true=>have:=s2 rfl;omega
  |false=>
   cases b with
   |true=>have:=t2 rfl;omega
   |false=>cases LQ
theorem lZ {α:Type} {g:Nat->PR α} {l:List Tk} {a:Bool} (b:Bool) (h:Tot a g l) (LQ:b=true->a=true):Tot b g l:=by
 obtain⟨K,h1,h2⟩:=h;exact⟨K,h1,fun x r e=>⟨(h2.ok x r e).1,fun hb=>(h2.ok x r e).2 (LQ hb)⟩,h2.er⟩
theorem rm {α:Type} {g:Nat->PR α} {l r:List Tk} (h1:r<:+l) {a:Bool} (h:Tot a g r):Tot a g l:=by
 obtain⟨K,q1,q2⟩:=h;refine⟨K,q1,fun x s e=> ?_,fun s e=>(q2.er s e).trans h1⟩;obtain⟨t1,t2⟩:=q2.ok x s e;exact⟨t1.trans h1,fun ha=>eM (t2 ha) (gI h1)⟩
theorem kz {α:Type} {g:Nat->PR α} {l r:List Tk} (h1:r<:+l) (h2:r.length<l.length) {a:Bool} (h:Tot a g r):Tot true g l:=by
 obtain⟨K,q1,q2⟩:=h;refine⟨K,q1,fun x s e=> ?_,fun s e=>(q2.er s e).trans h1⟩;obtain⟨t1,t2⟩:=q2.ok x s e;exact⟨t1.trans h1,fun _=>Nat.lt_of_le_of_lt (gI t1) h2⟩
theorem dm {α:Type} {p:Prop} [Decidable p] {g h:Nat->PR α} {l:List Tk} {a:Bool} (h1:p->Tot a g l) (h2:¬p->Tot a h l):Tot a (fun f=>if p then g f else h f) l:=by
 by_cases hp:p
 ·simp only[ah hp];exact h1 hp
 ·simp only[af hp];exact h2 hp
theorem iR {α:Type} {s:List UInt8} {l:List Tk} {k:Nat->List Tk->PR α} {a:Bool} (h:az s l=true->l.tail.length<l.length->Tot a (fun f=>k f l.tail) l.tail):Tot true (fun f=>aV s l (k f)) l:=by
 unfold aV;refine dm (fun hs=> ?_) fun _=>BP (List.suffix_refl _)
 have:=ep (cd hs);exact kz (cW l) this (h hs this)
theorem xm (l:List Tk):Tot true (fun _=>fy l) l:=by
 unfold fy;refine dm (fun h=> ?_) fun _=>BP (List.suffix_refl _)
 simp only[gj,aD,bt] at h;exact iS _ (cW l) fun _=>ep (uG h.1 (by decide))
theorem sR (l:List Tk):Tot true (fun _=>cY l) l:=by
 unfold cY;refine dm (fun h=> ?_) fun _=>BP (List.suffix_refl _)
 simp only[kg,aD,bt] at h;exact iS _ (cW l) fun _=>ep (uG h.1.1 (by decide))
theorem OY (l:List Tk):Tot true (fun _=>jl l) l:=by
 unfold jl;refine dm (fun h=>iS _ (cW l) fun _=>ep (cd h)) fun _=> ?_
 refine dm (fun h=>iS _ (cW l) fun _=>ep (cd h)) fun _=> ?_
 exact cK (b:=false) (xm l) fun x r h1 h2=>iS _ (List.suffix_refl _) fun h=>by cases h
theorem OG:∀(f:Nat) (t:Ty) (l:List Tk),Good false l (jF f t l)
 |0,t,l=>⟨fun x r e=>by cases e;exact⟨List.suffix_refl _,fun h=>by cases h⟩,fun r e=>by cases e⟩
 |f+1,t,l=>by
  rw[jF];by_cases h:az [91] l=true
  ·rw[ah h];unfold aV;by_cases h2:az [93] l.tail=true
   ·rw[ah h2];have ih:=OG f t.up l.tail.tail;have s:l.tail.tail<:+l:=(cW _).trans (cW l);exact⟨fun x r e=>⟨(ih.ok x r e).1.trans s,fun h=>by cases h⟩,fun r e=>(ih.er r e).trans s⟩
   ·rw[af h2];exact⟨fun x r e=>by(cases e),fun r e=>by cases e;exact cW l⟩
  ·rw[af h];exact⟨fun x r e=>by cases e;exact⟨List.suffix_refl _,fun h=>by cases h⟩,fun r e=>by cases e⟩
theorem PN:∀(f:Nat) (t:Ty) (l:List Tk),Good false l (iF f t l)
 |0,t,l=>⟨fun x r e=>by cases e;exact⟨List.suffix_refl _,fun h=>by cases h⟩,fun r e=>by cases e⟩
 |f+1,t,l=>by
  rw[iF];by_cases h:az [93] l=true
  ·rw[ah h];unfold aV;by_cases h2:az [91] l.tail=true
   ·rw[ah h2];have ih:=PN f t.up l.tail.tail;have s:l.tail.tail<:+l:=(cW _).trans (cW l);exact⟨fun x r e=>⟨(ih.ok x r e).1.trans s,fun h=>by cases h⟩,fun r e=>(ih.er r e).trans s⟩
   ·rw[af h2];exact⟨fun x r e=>by(cases e),fun r e=>by cases e;exact cW l⟩
  ·rw[af h];exact⟨fun x r e=>by cases e;exact⟨List.suffix_refl _,fun h=>by cases h⟩,fun r e=>by cases e⟩
theorem NS {α:Type} {K:PR α} {l:List Tk} {a:Bool} (h:Good a l K):Tot a (fun _=>K) l:=⟨K,bb _,h⟩
theorem xl (l:List Tk):Tot true (fun _=>eV l) l:=by
 unfold eV;exact cK (b:=false) (OY l) fun t r _ _=>NS (OG _ _ _)
structure EX (l:List Tk):Prop where
 expr:∀n,n<=10->Tot true (fun f=>cw f n l) l
 loop:∀n e,n<=9->Tot false (fun f=>fR f n e l) l
 unary:Tot true (fun f=>gJ f l) l
 post:∀e,Tot false (fun f=>fY f e l) l
 args:Tot true (fun f=>gB f l) l
 more:∀acc,Tot true (fun f=>kf f acc l) l
 paren:Tot true (fun f=>fj f l) l
 operand:Tot true (fun f=>gZ f l) l
 key:Tot true (fun f=>jo f l) l
theorem TJ {l:List Tk} (ih:∀r:List Tk,r.length<l.length->EX r):EX l:=by
 have rA:Tot true (fun f=>gB f l) l:=by
  refine ky (h:=fun f=>aV [40] l fun r=>if az [41] r=true then .ok ([],r.tail) else an (cw f 0 r) fun e r2=>kf f [e] r2) (fun f=>by rw[gB]) ?_;refine iR (a:=false) fun hs ay=> ?_
  refine dm (fun h=>iS _ (cW _) fun h=>by cases h) fun _=> ?_
  exact lZ false (cK (b:=true) ((ih _ ay).expr 0 (by decide)) fun e r h1 h2=>(ih r (by have:=h2 rfl;omega)).more _) fun h=>by cases h
 have SU:Tot true (fun f=>fj f l) l:=by
  refine ky (h:=fun f=>aV [40] l fun r=>an (cw f 0 r) fun e r2=>aV [41] r2 fun r3=> .ok (e,r3)) (fun f=>by rw[fj]) ?_;refine iR (a:=true) fun hs ay=> ?_
  exact cK (b:=true) ((ih _ ay).expr 0 (by decide)) fun e r h1 h2=>iR (a:=false) fun _ _=>iS _ (List.suffix_refl _) fun h=>by cases h
 have agK:∀acc,Tot true (fun f=>kf f acc l) l:=fun acc=>by
  refine ky (h:=fun f=>if az [44] l=true then an (cw f 0 l.tail) fun e r=>kf f (acc++[e]) r else aV [41] l fun r=> .ok (acc,r)) (fun f=>by rw[kf]) ?_;refine dm (fun h=> ?_) fun _=>iR (a:=false) fun _ _=>iS _ (List.suffix_refl _) fun h=>by cases h
  have ay:=ep (cd h);exact kz (cW l) ay (cK (b:=true) ((ih _ ay).expr 0 (by decide)) fun e r h1 h2=>(ih r (by have:=h2 rfl;omega)).more _)
 have agI:∀e,Tot false (fun f=>fY f e l) l:=fun e=>by
  refine ky (h:=fun f=>if az [46] l=true then an (cY l.tail) fun s r=>
   if az [40] r=true then an (gB f r) fun es r2=>fY f (.mk 10 0 s [] ai (e::es)) r2 else fY f (.mk 7 0 s [] ai [e]) r
   else if az [91] l=true then an (cw f 0 l.tail) fun i r=>aV [93] r fun r2=>fY f (.mk 9 0 [] [] ai [e,i]) r2
   else .ok (e,l)) (fun f=>by rw[fY]) ?_
  refine dm (fun h=> ?_) fun _=>dm (fun h=> ?_) fun _=>iS _ (List.suffix_refl _) fun h=>by cases h
  ·have ay:=ep (cd h);refine rm (cW l) (lZ false (cK (b:=false) (sR l.tail) fun s r h1 h2=> ?_) fun h=>by cases h);have hr:=gI h1;refine dm (fun hp=> ?_) fun _=>(ih r (by omega)).post _
   exact lZ false (cK (b:=false) (ih r (by omega)).args fun es r2 h3 h4=>(ih r2 (by have:=gI h3;omega)).post _) fun h=>by cases h
  ·have ay:=ep (cd h);refine rm (cW l) (lZ false (cK (b:=true) ((ih _ ay).expr 0 (by decide)) fun i r h1 h2=> ?_) fun h=>by cases h);have hr:=gI h1;exact iR (a:=false) fun _ ck=>(ih _ (by omega)).post _
 have agM:∀n e,n<=9->Tot false (fun f=>fR f n e l) l:=fun n e hn=>by
  refine ky (h:=fun f=>if iU n l=true then an (cw f (n+1) l.tail) fun x r=>fR f n (.mk 16 0 (j3 l) [] ai [e,x]) r
   else if n=6/\az [105,115] l=true then an (eV l.tail) fun t r=>fR f n (.mk 18 0 [] [] t [e]) r
   else if n=6/\az [97,115] l=true then an (eV l.tail) fun t r=>fR f n (.mk 17 0 [] [] t [e]) r
   else .ok (e,l)) (fun f=>by rw[fR]) ?_
  refine dm (fun h=> ?_) fun _=>dm (fun h=> ?_) fun _=>dm (fun h=> ?_) fun _=>iS _ (List.suffix_refl _) fun h=>by cases h
  ·simp only[iU,aD,bt] at h;have ay:=ep (uG h.1 (by decide));exact rm (cW l) (lZ false (cK (b:=false) ((ih _ ay).expr (n+1) (by omega)) fun x r h1 h2=>(ih r (by have:=gI h1;omega)).loop n _ hn) fun h=>by cases h)
  ·have ay:=ep (cd h.2);exact rm (cW l) (lZ false (cK (b:=false) (xl l.tail) fun x r h1 h2=>(ih r (by have:=gI h1;omega)).loop n _ hn) fun h=>by cases h)
  ·have ay:=ep (cd h.2);exact rm (cW l) (lZ false (cK (b:=false) (xl l.tail) fun x r h1 h2=>(ih r (by have:=gI h1;omega)).loop n _ hn) fun h=>by cases h)
 have rI:Tot true (fun f=>jo f l) l:=by
  refine ky (h:=fun f=>
   if az [110,117,108,108] l=true then .ok (.mk 4 0 [] [] ai [],l.tail)
   else if az [116,104,105,115] l=true then .ok (.mk 5 0 [] [] ai [],l.tail)
   else if az [115,117,112,101,114] l=true then aV [46] l.tail fun r=>an (cY r) fun s r2=>an (gB f r2) fun es r3=> .ok (.mk 12 0 s [] ai es,r3)
   else if az [110,101,119] l=true then an (jl l.tail) fun t r=>
    if t.base=76/\az [40] r=true then an (gB f r) fun es r2=> .ok (.mk 13 0 [] t.name ai es,r2)
    else aV [91] r fun r2=>an (iF r2.length t r2) fun t2 r3=>an (cw f 0 r3) fun e r4=>aV [93] r4 fun r5=> .ok (.mk 14 0 [] [] t2 [e],r5)
   else if az [108,101,110] l=true then an (fj f l.tail) fun e r=> .ok (.mk 19 0 [] [] ai [e],r)
   else if az iH l=true then an (fj f l.tail) fun e r=> .ok (.mk 20 0 [] [] ai [e],r)
   else if az iE l=true then an (fj f l.tail) fun e r=> .ok (.mk 21 0 [] [] ai [e],r)
   else .error l) (fun f=>by rw[jo]) ?_
  have fin:∀{x:Ex} {r:List Tk},Tot false (fun _=>Except.ok (x,r)) r:=fun{x r}=>iS _ (List.suffix_refl _) fun h=>by cases h
  refine dm (fun h=>iS _ (cW l) fun _=>ep (cd h)) fun _=>dm (fun h=>iS _ (cW l) fun _=>ep (cd h)) fun _=>
   dm (fun h=> ?_) fun _=>dm (fun h=> ?_) fun _=>dm (fun h=> ?_) fun _=>dm (fun h=> ?_) fun _=>dm (fun h=> ?_) fun _=>BP (List.suffix_refl _)
  ·have ay:=ep (cd h);refine kz (cW l) ay (iR (a:=true) fun _ ck=>cK (b:=true) (sR _) fun s r2 h1 h2=> ?_);have:=gI h1;exact cK (b:=false) (ih r2 (by omega)).args fun es r3 _ _=>fin
  ·have ay:=ep (cd h);refine kz (cW l) ay (cK (b:=true) (OY _) fun t r h1 h2=> ?_);have hr:=gI h1;refine dm (fun _=>cK (b:=false) (ih r (by omega)).args fun es r2 _ _=>fin) fun _=> ?_
   refine iR (a:=true) fun _ ck=>cK (a:=false) (b:=true) (NS (PN _ _ _)) fun t2 r3 h3 _=> ?_
   have:=gI h3;exact cK (b:=true) ((ih r3 (by omega)).expr 0 (by decide)) fun e r4 _ _=>iR (a:=false) fun _ _=>fin
  ·have ay:=ep (cd h);exact kz (cW l) ay (cK (b:=false) (ih _ ay).paren fun e r _ _=>fin)
  ·have ay:=ep (cd h);exact kz (cW l) ay (cK (b:=false) (ih _ ay).paren fun e r _ _=>fin)
  ·have ay:=ep (cd h);exact kz (cW l) ay (cK (b:=false) (ih _ ay).paren fun e r _ _=>fin)
 have P9:Tot true (fun f=>gZ f l) l:=by
  refine ky (h:=fun f=>
   if gO l=3 then .ok (.mk 1 (sC l) [] [] ai [],l.tail)
   else if gO l=4 then .ok (.mk 2 (sC l) [] [] ai [],l.tail)
   else if gO l=5 then .ok (.mk 3 0 (j3 l) [] ai [],l.tail)
   else if kg l=true then an (cY l) fun s r=> .ok (.mk 6 0 s [] ai [],r)
   else if gj l=true then an (fy l) fun c r=>aV [46] r fun r2=>an (cY r2) fun s r3=>
    if az [40] r3=true then an (gB f r3) fun es r4=> .ok (.mk 11 0 s c ai es,r4) else .ok (.mk 8 0 s c ai [],r3)
   else if az [40] l=true then fj f l
   else jo f l) (fun f=>by rw[gZ]) ?_
  have fin:∀{x:Ex} {r:List Tk},Tot false (fun _=>Except.ok (x,r)) r:=fun{x r}=>iS _ (List.suffix_refl _) fun h=>by cases h
  refine dm (fun h=>iS _ (cW l) fun _=>ep (uG h (by decide))) fun _=>dm (fun h=>iS _ (cW l) fun _=>ep (uG h (by decide))) fun _=>
   dm (fun h=>iS _ (cW l) fun _=>ep (uG h (by decide))) fun _=>dm (fun h=>cK (b:=false) (sR l) fun _ _ _ _=>fin) fun _=>
   dm (fun h=> ?_) fun _=>dm (fun _=>SU) fun _=>rI
  refine cK (b:=true) (xm l) fun c r h1 h2=>iR (a:=true) fun _ ck=>cK (b:=false) (sR _) fun s r3 h3 h4=> ?_
  have q1:=gI h1;have q3:=gI h3;exact dm (fun _=>lZ false (cK (b:=false) (ih r3 (by have:=h2 rfl;omega)).args fun es r4 _ _=>fin) fun h=>by cases h) fun _=>fin
 have SR:Tot true (fun f=>gJ f l) l:=by
  refine ky (h:=fun f=>
   if az [45] l=true then an (gJ f l.tail) fun x r=> .ok (.mk 15 0 [45] [] ai [x],r)
   else if az [33] l=true then an (gJ f l.tail) fun x r=> .ok (.mk 15 0 [33] [] ai [x],r)
   else an (gZ f l) fun e r=>fY f e r) (fun f=>by rw[gJ]) ?_
  have fin:∀{x:Ex} {r:List Tk},Tot false (fun _=>Except.ok (x,r)) r:=fun{x r}=>iS _ (List.suffix_refl _) fun h=>by cases h
  refine dm (fun h=> ?_) fun _=>dm (fun h=> ?_) fun _=>cK (b:=false) P9 fun e r h1 h2=>(ih r (h2 rfl)).post e
  ·exact kz (cW l) (ep (cd h)) (cK (b:=false) (ih _ (ep (cd h))).unary fun x r _ _=>fin)
  ·exact kz (cW l) (ep (cd h)) (cK (b:=false) (ih _ (ep (cd h))).unary fun x r _ _=>fin)
 have agS:∀k n,n+k=10->Tot true (fun f=>cw f n l) l:=fun k=>by
  induction k with
  |zero=>
   intro n hn;exact ky (h:=fun f=>gJ f l) (fun f=>by rw[cw,ah (by omega)]) SR
  |succ k ihk=>
   intro n hn;refine ky (h:=fun f=>an (cw f (n+1) l) fun e r=>fR f n e r) (fun f=>by rw[cw,af (by omega)]) ?_;exact cK (b:=false) (ihk (n+1) (by omega)) fun e r h1 h2=>(ih r (h2 rfl)).loop n e (by omega)
 exact⟨fun n hn=>agS (10 - n) n (by omega),agM,SR,agI,rA,agK,SU,P9,rI⟩
theorem S1:∀(N:Nat) (l:List Tk),l.length<=N->EX l
 |0,l,h=>TJ fun r hr=>by omega
 |N+1,l,h=>TJ fun r hr=>S1 N r (by omega)
theorem qd (l:List Tk):EX l:=S1 _ l (au _)
/-! The answers as functions, and their equations. -/
noncomputable def dZ (n:Nat) (l:List Tk):PR Ex:=jU fun f=>cw f n l
noncomputable def xN (n:Nat) (e:Ex) (l:List Tk):PR Ex:=jU fun f=>fR f n e l
noncomputable def zI (l:List Tk):PR Ex:=jU fun f=>gJ f l
noncomputable def sX (e:Ex) (l:List Tk):PR Ex:=jU fun f=>fY f e l
noncomputable def oH (l:List Tk):PR (List Ex):=jU fun f=>gB f l
noncomputable def Co (acc:List Ex) (l:List Tk):PR (List Ex):=jU fun f=>kf f acc l
noncomputable def ot (l:List Tk):PR Ex:=jU fun f=>fj f l
noncomputable def xg (l:List Tk):PR Ex:=jU fun f=>gZ f l
noncomputable def Ao (l:List Tk):PR Ex:=jU fun f=>jo f l
theorem cI {α β:Type} {g:Nat->PR α} {k:Nat->α->List Tk->PR β} {K:PR α} {k2:α->List Tk->PR β} (hg:bD g K) (hk:∀x r,bD (fun f=>k f x r) (k2 x r)):bD (fun f=>an (g f) (k f)) (an K k2):=by
 cases K with
 |error r=>exact Rp hg
 |ok p=>obtain⟨x,r⟩:=p;exact dy hg (hk x r)
theorem oe {α:Type} {s:List UInt8} {l:List Tk} {k:Nat->List Tk->PR α} {k2:List Tk->PR α} (hk:bD (fun f=>k f l.tail) (k2 l.tail)):bD (fun f=>aV s l (k f)) (aV s l k2):=by
 unfold aV;by_cases h:az s l=true
 ·simp only[ah h];exact hk
 ·simp only[af h];exact bb _
theorem dC {α:Type} {p:Prop} [Decidable p] {g h:Nat->α} {G H:α} (h1:bD g G) (h2:bD h H):bD (fun f=>if p then g f else h f) (if p then G else H):=by
 by_cases hp:p
 ·simp only[ah hp];exact h1
 ·simp only[af hp];exact h2
theorem uM {n:Nat} (hn:n<=10) (l:List Tk):bD (fun f=>cw f n l) (dZ n l):=((qd l).expr n hn).lim
theorem FI {n:Nat} (hn:n<=9) (e:Ex) (l:List Tk):bD (fun f=>fR f n e l) (xN n e l):=((qd l).loop n e hn).lim
theorem JD (l:List Tk):bD (fun f=>gJ f l) (zI l):=(qd l).unary.lim
theorem FH (e:Ex) (l:List Tk):bD (fun f=>fY f e l) (sX e l):=((qd l).post e).lim
theorem Cq (l:List Tk):bD (fun f=>gB f l) (oH l):=(qd l).args.lim
theorem Tm (acc:List Ex) (l:List Tk):bD (fun f=>kf f acc l) (Co acc l):=((qd l).more acc).lim
theorem xE (l:List Tk):bD (fun f=>fj f l) (ot l):=(qd l).paren.lim
theorem aab (l:List Tk):bD (fun f=>gZ f l) (xg l):=(qd l).operand.lim
theorem ajI (l:List Tk):bD (fun f=>jo f l) (Ao l):=(qd l).key.lim
theorem aaI {n:Nat} (hn:n<=9) (l:List Tk):dZ n l=an (dZ (n+1) l) fun e r=>xN n e r:=
 jP (b8 (h:=fun f=>an (cw f (n+1) l) fun e r=>fR f n e r) (fun f=>by rw[cw,af (by omega)]) (cI (uM (by omega) l) fun e r=>FI hn e r))
theorem YI (l:List Tk):dZ 10 l=zI l:=jP (b8 (h:=fun f=>gJ f l) (fun f=>by rw[cw,ah rfl]) (JD l))
theorem zm {n:Nat} (hn:n<=9) (e:Ex) (l:List Tk):xN n e l=(if iU n l=true then an (dZ (n+1) l.tail) fun x r=>xN n (.mk 16 0 (j3 l) [] ai [e,x]) r
  else if n=6/\az [105,115] l=true then an (eV l.tail) fun t r=>xN n (.mk 18 0 [] [] t [e]) r
  else if n=6/\az [97,115] l=true then an (eV l.tail) fun t r=>xN n (.mk 17 0 [] [] t [e]) r
  else .ok (e,l)):=
 jP (b8 (fun f=>by rw[fR]) (dC (cI (uM (by omega) _) fun x r=>FI hn _ r) (dC (cI (bb _) fun t r=>FI hn _ r) (dC (cI (bb _) fun t r=>FI hn _ r) (bb _)))))
theorem HV (l:List Tk):zI l=(if az [45] l=true then an (zI l.tail) fun x r=> .ok (.mk 15 0 [45] [] ai [x],r)
  else if az [33] l=true then an (zI l.tail) fun x r=> .ok (.mk 15 0 [33] [] ai [x],r)
  else an (xg l) fun e r=>sX e r):=
 jP (b8 (fun f=>by rw[gJ]) (dC (cI (JD _) fun x r=>bb _) (dC (cI (JD _) fun x r=>bb _) (cI (aab l) fun e r=>FH e r))))
theorem Bs (e:Ex) (l:List Tk):sX e l=(if az [46] l=true then an (cY l.tail) fun s r=>
   if az [40] r=true then an (oH r) fun es r2=>sX (.mk 10 0 s [] ai (e::es)) r2
   else sX (.mk 7 0 s [] ai [e]) r
  else if az [91] l=true then an (dZ 0 l.tail) fun i r=>aV [93] r fun r2=>sX (.mk 9 0 [] [] ai [e,i]) r2
  else .ok (e,l)):=
 jP (b8 (fun f=>by rw[fY]) (dC (cI (bb _) fun s r=>dC (cI (Cq r) fun es r2=>FH _ r2) (FH _ r)) (dC (cI (uM (n:=0) (by decide) _) fun i r=>oe (FH _ _)) (bb _))))
theorem Qv (l:List Tk):oH l=aV [40] l fun r=>if az [41] r=true then .ok ([],r.tail) else an (dZ 0 r) fun e r2=>Co [e] r2:=
 jP (b8 (fun f=>by rw[gB]) (oe (dC (bb _) (cI (uM (n:=0) (by decide) _) fun e r=>Tm _ r))))
theorem PO (acc:List Ex) (l:List Tk):Co acc l=(if az [44] l=true then an (dZ 0 l.tail) fun e r=>Co (acc++[e]) r else aV [41] l fun r=> .ok (acc,r)):=
 jP (b8 (fun f=>by rw[kf]) (dC (cI (uM (n:=0) (by decide) _) fun e r=>Tm _ r) (bb _)))
theorem Yr (l:List Tk):ot l=aV [40] l fun r=>an (dZ 0 r) fun e r2=>aV [41] r2 fun r3=> .ok (e,r3):=
 jP (b8 (fun f=>by rw[fj]) (by
  refine oe ?_
  exact cI (uM (n:=0) (by decide) _) fun e r=>bb _))
theorem MX (l:List Tk):xg l=
  (if gO l=3 then .ok (.mk 1 (sC l) [] [] ai [],l.tail)
  else if gO l=4 then .ok (.mk 2 (sC l) [] [] ai [],l.tail)
  else if gO l=5 then .ok (.mk 3 0 (j3 l) [] ai [],l.tail)
  else if kg l=true then an (cY l) fun s r=> .ok (.mk 6 0 s [] ai [],r)
  else if gj l=true then an (fy l) fun c r=>aV [46] r fun r2=>an (cY r2) fun s r3=>
   if az [40] r3=true then an (oH r3) fun es r4=> .ok (.mk 11 0 s c ai es,r4) else .ok (.mk 8 0 s c ai [],r3)
  else if az [40] l=true then ot l
  else Ao l):=
 jP (b8 (fun f=>by rw[gZ]) (by
  refine dC (bb _) (dC (bb _) (dC (bb _) (dC (bb _) (dC ?_ (dC (xE l) (ajI l))))));refine cI (bb _) fun c r=>oe ?_
  refine cI (bb _) fun s r3=> ?_
  exact dC (cI (Cq r3) fun es r4=>bb _) (bb _)))
theorem vF (l:List Tk):Ao l=
  (if az [110,117,108,108] l=true then .ok (.mk 4 0 [] [] ai [],l.tail)
  else if az [116,104,105,115] l=true then .ok (.mk 5 0 [] [] ai [],l.tail)
  else if az [115,117,112,101,114] l=true then aV [46] l.tail fun r=>an (cY r) fun s r2=>an (oH r2) fun es r3=> .ok (.mk 12 0 s [] ai es,r3)
  else if az [110,101,119] l=true then an (jl l.tail) fun t r=>
   if t.base=76/\az [40] r=true then an (oH r) fun es r2=> .ok (.mk 13 0 [] t.name ai es,r2)
   else aV [91] r fun r2=>an (iF r2.length t r2) fun t2 r3=>an (dZ 0 r3) fun e r4=>aV [93] r4 fun r5=> .ok (.mk 14 0 [] [] t2 [e],r5)
  else if az [108,101,110] l=true then an (ot l.tail) fun e r=> .ok (.mk 19 0 [] [] ai [e],r)
  else if az iH l=true then an (ot l.tail) fun e r=> .ok (.mk 20 0 [] [] ai [e],r)
  else if az iE l=true then an (ot l.tail) fun e r=> .ok (.mk 21 0 [] [] ai [e],r)
  else .error l):=
 jP (b8 (fun f=>by rw[jo]) (by
  refine dC (bb _) (dC (bb _) (dC ?_ (dC ?_ (dC (cI (xE _) fun e r=>bb _) (dC (cI (xE _) fun e r=>bb _) (dC (cI (xE _) fun e r=>bb _) (bb _)))))))
  ·refine oe ?_;exact cI (bb _) fun s r2=>cI (Cq r2) fun es r3=>bb _
  ·refine cI (bb _) fun t r=> ?_
   refine dC (cI (Cq r) fun es r2=>bb _) (oe ?_);refine cI (bb _) fun t2 r3=> ?_
   exact cI (uM (n:=0) (by decide) r3) fun e r4=>bb _))
theorem Ou:∀{s:List UInt8},Lib.indexByte s 47<0->s.contains 47=false
 |[],_=>rfl
 |b::l,h=>by
  unfold Lib.indexByte at h;have cg:=Lib.indexByte_ge l 47;split at h
  ·omega
  ·rename_i hb;split at h
   ·rename_i hl;have hl:Lib.indexByte l 47= -1:=by simpa using hl
    rw[List.contains_cons,Ou (by omega),Bool.or_false];cases hc:(47==b) with
    |false=>rfl
    |true=>exact absurd (beq_iff_eq.2 (beq_iff_eq.1 hc).symm) hb
   ·rename_i hl;have hl:Lib.indexByte l 47≠ -1:=by simpa using hl
    omega
theorem aao {s:List UInt8} (h:dn s=true):dd s=false/\s.contains 47=false:=by
 simp only[dn,py,aD,Bool.or_eq_true,Bool.not_eq_true',bt] at h;obtain⟨⟨⟨h1,h2⟩,h3⟩,h4⟩:=h;refine⟨h3,?_⟩;rcases h1 with (h1 |h1) |h1
 ·subst h1;exact absurd rfl h2
 ·subst h1;exact absurd rfl h2
 ·exact Ou h1.2
theorem pz {s:List UInt8} (h:dn s=true) (r:List Tk):kg (aM s::r)=true/\gj (aM s::r)=false/\cY (aM s::r)= .ok (s,r):=by
 obtain⟨h1,h2⟩:=aao h;have e:kg (aM s::r)=true:=by
  show(decide ((1:Int)=1)&& !dd s&& !s.contains 47)=true;rw[h1,h2];rfl
 refine⟨e,?_,by rw[cY,ah e];rfl⟩;show(decide ((1:Int)=1)&&dd s)=false;rw[h1];rfl
theorem vM {s:List UInt8} (h:dd s=true) (r:List Tk):gj (aM s::r)=true/\kg (aM s::r)=false/\fy (aM s::r)= .ok (s,r):=by
 have e:gj (aM s::r)=true:=by
  show(decide ((1:Int)=1)&&dd s)=true;rw[h];rfl
 refine⟨e,?_,by rw[fy,ah e];rfl⟩;show(decide ((1:Int)=1)&& !dd s&& !s.contains 47)=false;rw[h];rfl
def U3 (t:Tk):Bool:=decide (t.k=3)||decide (t.k=4)||decide (t.k=5)||decide (t.k=1)||
 (decide (t.k=2)&&[[110,117,108,108],[116,104,105,115],[115,117,112,101,114],[110,101,119],[108,101,110],iH,iE].contains t.s)||(decide (t.k=6)&&[[40],[45],[33]].contains t.s)
def pY (l:List Tk):Prop:=∃t r,l=t::r/\U3 t=true
theorem kL {a b:List Tk} (h:pY a):pY (a++b):=by
 obtain⟨t,r,rfl,h⟩:=h;exact⟨t,r++b,rfl,h⟩
theorem qm {l:List Tk} {w:List UInt8} (h:pY l) (hw:([[110,117,108,108],[116,104,105,115],[115,117,112,101,114],[110,101,119],[108,101,110],iH,iE,[40],[45],[33]]:List (List UInt8)).contains w=false):az w l=false:=by
 obtain⟨t,r,rfl,h⟩:=h;cases hb:az w (t::r) with
 |false=>rfl
 |true=>
  exfalso;simp only[az,aD,Bool.or_eq_true,bt] at hb;obtain⟨hk,rfl⟩:=hb;simp only[U3,Bool.or_eq_true,aD,bt] at h;rcases h with ((((h |h) |h) |h) |h) |h
  ·omega
  ·omega
  ·omega
  ·omega
  ·simp only[List.contains_cons,List.contains_nil,Bool.or_false,Bool.or_eq_false_iff] at hw;have:=h.2;simp only[List.contains_cons,List.contains_nil,Bool.or_false,hw,Bool.or_self] at this;cases this
  ·simp only[List.contains_cons,List.contains_nil,Bool.or_false,Bool.or_eq_false_iff] at hw;have:=h.2;simp only[List.contains_cons,List.contains_nil,Bool.or_false,hw,Bool.or_self] at this;cases this
theorem acg (l:List (List Tk)):pY (bj l):=⟨sg [40],_,rfl,rfl⟩
theorem ad2 {b:Bool} {t:List Tk} (h:pY t):pY (gl b t):=by
 cases b
 ·exact h
 ·exact acg _
mutual
theorem E8:∀(e:Ex),bG e=true->pY (aC e)
 | .mk k n s c ty args,hv=>by
  simp only[bG,aD] at hv;obtain⟨hn,gu⟩:=hv;have hx:=EH args gu;obtain⟨hk,har,_⟩:=zf hn;simp only[aC];simp only[mu,aD,bt] at hn;have hi:=hn.1.1.2;have o0:1<=args.length->pY (dR (aS args) 0):=fun h=>by rw[rq (by omega)];exact ad2 (hx _ (List.getElem_mem _))
  rcases kinds hk with h |h |h |h |h |h |h |h |h |h |h |h |h |h |h |h |h |h |h |h |h<;>subst h
  ·exact⟨_,_,rfl,rfl⟩
  ·exact⟨_,_,rfl,rfl⟩
  ·exact⟨_,_,rfl,rfl⟩
  ·exact⟨_,_,rfl,rfl⟩
  ·exact⟨_,_,rfl,rfl⟩
  ·exact⟨_,_,rfl,rfl⟩
  ·exact kL (kL (o0 (by simp [eP] at har;omega)))
  ·exact⟨_,_,rfl,rfl⟩
  ·exact kL (kL (kL (o0 (by simp [eP] at har;omega))))
  ·exact kL (kL (kL (o0 (by simp [eP] at har;omega))))
  ·exact⟨_,_,rfl,rfl⟩
  ·exact⟨_,_,rfl,rfl⟩
  ·exact⟨_,_,rfl,rfl⟩
  ·exact⟨_,_,rfl,rfl⟩
  ·have hi:(decide (n=0)&&(decide (s=[45])||decide (s=[33])))=true:=hi;simp only[aD,Bool.or_eq_true,bt] at hi;rcases hi.2 with rfl |rfl<;>exact⟨_,_,rfl,rfl⟩
  ·exact kL (kL (o0 (by simp [eP] at har;omega)))
  ·exact kL (kL (o0 (by simp [eP] at har;omega)))
  ·exact kL (kL (o0 (by simp [eP] at har;omega)))
  ·exact⟨_,_,rfl,rfl⟩
  ·exact⟨_,_,rfl,rfl⟩
  ·exact⟨_,_,rfl,rfl⟩
theorem EH:∀(l:List Ex),gg l=true->∀x∈l,pY (aC x)
 |[],_,x,hx=>by cases hx
 |e::r,hv,x,hx=>by
  simp only[gg,aD] at hv;rcases List.mem_cons.1 hx with hx |hx
  ·rw[hx];exact E8 e hv.1
  ·exact EH r hv.2 x hx
end
def yL (e:Ex):Prop:=∀r,Fol 0 r->bD (fun f=>cw f 0 (aC e++r)) (.ok (e,r))
structure RT (e:Ex):Prop where
 o:∀r K,az [40] r=false->bD (fun f=>fY f e r) K->bD (fun f=>gJ f (gl (iG e.k) (aC e)++r)) K
 z:yL e
theorem nz {l r:List Tk} {e:Ex} {K:PR Ex} (h1:az [45] l=false) (h2:az [33] l=false) (ho:bD (fun f=>gZ f l) (.ok (e,r))) (hp:bD (fun f=>fY f e r) K):bD (fun f=>gJ f l) K:=
 b8 (h:=fun f=>an (gZ f l) fun e r=>fY f e r) (fun f=>by rw[gJ,h1,h2];rfl) (dy ho hp)
theorem mb {e:Ex} (hk:iG e.k=false) (h:∀r K,az [40] r=false->bD (fun f=>fY f e r) K->bD (fun f=>gJ f (aC e++r)) K):RT e:=by
 refine⟨fun r K h1 h2=> ?_,fun r hf=> ?_⟩
 ·rw[hk];exact h r K h1 h2
 ·exact zg (k:=10) (n:=0) (by omega) (HP (h r _ hf.lp (IH hf.dot hf.lb))) hf
theorem vC {e:Ex} (h:yL e) (r:List Tk):bD (fun f=>fj f (bj [aC e]++r)) (.ok (e,r)):=by
 have e1:bj [aC e]++r=sg [40]::(aC e++(sg [41]::r)):=by simp [bj,bF]
 rw[e1];refine b8 (h:=fun f=>an (cw f 0 (aC e++(sg [41]::r))) fun e r2=>aV [41] r2 fun r3=> .ok (e,r3)) (fun f=>by rw[fj];rfl) ?_;exact dy (h _ (mY (by decide) _)) (bb _)
theorem FB {e:Ex} (hk:iG e.k=true) (h:yL e):RT e:=by
 refine⟨fun r K h1 h2=> ?_,h⟩;rw[hk];have e1:gl true (aC e)++r=sg [40]::(aC e++(sg [41]::r)):=by simp [gl,bj,bF]
 refine nz (e:=e) (r:=r) (by rw[e1];rfl) (by rw[e1];rfl) ?_ h2;exact b8 (h:=fun f=>fj f (gl true (aC e)++r)) (fun f=>by rw[e1,gZ];rfl) (vC h r)
theorem FD {e:Ex} (h:RT e) {n:Nat} (hn:n<=10) {r:List Tk} (hf:Fol n r):bD (fun f=>cw f n (gl (iG e.k) (aC e)++r)) (.ok (e,r)):=by
 have h1:=HP (h.o r _ hf.lp (IH hf.dot hf.lb));have:n+(10 - n)=10:=by omega
 exact zg (k:=10 - n) (n:=n) (by omega) (by rw[this];exact h1) hf
theorem Ri:∀(l acc:List Ex) (r:List Tk),(∀e∈l,yL e)->bD (fun f=>kf f acc (bF false (l.map aC)++(sg [41]::r))) (.ok (acc++l,r))
 |[],acc,r,_=>b8 (h:=fun _=> .ok (acc++[],r)) (fun f=>by rw[kf];simp [bF,az,sg,aV]) (bb _)
 |e::l,acc,r,h=>by
  have ih:=Ri l (acc++[e]) r fun x hx=>h x (bR _ hx)
  have e1:bF false ((e::l).map aC)++(sg [41]::r)=sg [44]::(aC e++(bF false (l.map aC)++(sg [41]::r))):=by simp [bF]
  rw[e1];refine b8 (h:=fun f=>an (cw f 0 (aC e++(bF false (l.map aC)++(sg [41]::r)))) fun e r=>kf f (acc++[e]) r) (fun f=>by rw[kf];rfl) (dy (h e (bY ..) _ ?_) ?_)
  ·cases l with
   |nil=>exact mY (by decide) _
   |cons x l=>exact mY (by decide) _
  ·simpa using ih
theorem BK {l:List Ex} (h:∀e∈l,yL e) (hv:gg l=true) (r:List Tk):bD (fun f=>gB f (bj (l.map aC)++r)) (.ok (l,r)):=by
 cases l with
 |nil=>exact b8 (h:=fun _=> .ok ([],r)) (fun f=>by rw[gB];rfl) (bb _)
 |cons e l=>
  have hh:pY (aC e++(bF false (l.map aC)++(sg [41]::r))):=kL (EH _ hv e (bY ..));have e1:bj ((e::l).map aC)++r=sg [40]::(aC e++(bF false (l.map aC)++(sg [41]::r))):=by simp [bj,bF]
  rw[e1];refine b8 (h:=fun f=>an (cw f 0 (aC e++(bF false (l.map aC)++(sg [41]::r)))) fun e r=>kf f [e] r) (fun f=> ?_) (dy (h e (bY ..) _ ?_) ?_)
  ·rw[gB];show(if az [41] (aC e++(bF false (l.map aC)++(sg [41]::r)))=true then _ else _)=_;rw[qm hh (by decide)];rfl
  ·cases l with
   |nil=>exact mY (by decide) _
   |cons x l=>exact mY (by decide) _
  ·exact Ri l [e] r fun x hx=>h x (bR _ hx)
theorem vK {w:List UInt8} {l:List Tk} {K:PR Ex} (hw:w≠[40]) (h:bD (fun f=>jo f (kw w::l)) K):bD (fun f=>gZ f (kw w::l)) K:=
 b8 (h:=fun f=>jo f (kw w::l)) (fun f=>by
  rw[gZ]
  simp [gO,kw,kg,gj,az,hw]) h
theorem Sp:∀(k f:Nat) (t:Ty) (r:List Tk),k<=f->az [93] r=false->iF f t ((List.replicate k [sg [93],sg [91]]).flatten++r)= .ok (⟨t.dim+k,t.base,t.name⟩,r)
 |0,f,t,r,_,h=>by
  cases f with
  |zero=>simp [iF]
  |succ f=>simp [iF,h]
 |k+1,0,_,_,hk,_=>by omega
 |k+1,f+1,t,r,hk,h=>by
  have ih:=Sp k f t.up r (by omega) h;simp only[List.replicate_succ,List.flatten_cons,dW,List.nil_append];rw[iF];simp only[az,sg,List.tail_cons,aV];simp only[sg] at ih;rw[ah (by decide),ah (by decide),ih];simp only[Ty.up];congr 2
  simp only[Ty.mk.injEq,and_true];omega
theorem OH:∀(k:Nat) (r:List Tk),(List.replicate k [sg [91],sg [93]]).flatten++(sg [91]::r)=sg [91]::((List.replicate k [sg [93],sg [91]]).flatten++r)
 |0,r=>rfl
 |k+1,r=>by simp only[List.replicate_succ,List.flatten_cons,dW,List.nil_append,OH k r]
theorem lL {ty:Ty} (h:(decide (ty.dim=0)&&decide (ty.base=0)&&decide (ty.name=[]))=true):ty=ai:=by
 simp only[aD,bt] at h;cases ty;simp only at h;obtain⟨⟨rfl,rfl⟩,rfl⟩:=h;rfl
theorem vz {l:List Ex} (h1:(1:Int)<=l.length) (h2:(l.length:Int)<=1):∃x,l=[x]:=by
 match l,h1,h2 with
 |[x],_,_=>exact⟨x,rfl⟩
 |_::_::r,_,h2=>simp at h2;omega
theorem Q3 {l:List Ex} (h1:(2:Int)<=l.length) (h2:(l.length:Int)<=2):∃x y,l=[x,y]:=by
 match l,h1,h2 with
 |[x,y],_,_=>exact⟨x,y,rfl⟩
 |_::_::_::r,_,h2=>simp at h2;omega
theorem xD {l:List Ex} (h2:(l.length:Int)<=0):l=[]:=List.length_eq_zero_iff.1 (by omega)
theorem RF:∀(h:Nat) (e:Ex),b6 e<=h->bG e=true->RT e
 |0,.mk k n s c ty args,hd,_=>by simp [b6] at hd
 |h+1,.mk k n s c ty args,hd,hv=>by
  simp only[b6] at hd;simp only[bG,aD] at hv;obtain⟨hn,gu⟩:=hv;have ih:∀e∈args,RT e:=fun e he=>RF h e (by have:=A8 he;omega) (xa gu e he)
  have GA:∀e∈args,yL e:=fun e he=>(ih e he).z
  have LI:=EH args gu;obtain⟨hk,har,_⟩:=zf hn;simp only[mu,aD,bt] at hn;obtain⟨⟨⟨⟨⟨_,h1⟩,h2⟩,hi⟩,hc⟩,ht⟩:=hn;rcases kinds hk with h |h |h |h |h |h |h |h |h |h |h |h |h |h |h |h |h |h |h |h |h<;>subst h
  ·have hi:(decide (0<=n)&&decide (n<=2147483647)&&decide (s=[]))=true:=hi;simp only[aD,bt] at hi;obtain⟨lU,rfl⟩:=hi;have hc:decide (c=[])=true:=hc;simp only[bt] at hc;subst hc;obtain rfl:=lL ht;obtain rfl:=xD h2;refine mb rfl fun r K h1 h2=>nz (r:=r) rfl rfl ?_ h2
   exact b8 (h:=fun _=> .ok (.mk 1 n [] [] ai [],r)) (fun f=>by rw[gZ];rfl) (bb _)
  ·have hi:(decide (0<=n)&&decide (s=[]))=true:=hi;simp only[aD,bt] at hi;obtain⟨lU,rfl⟩:=hi;have hc:decide (c=[])=true:=hc;simp only[bt] at hc;subst hc;obtain rfl:=lL ht;obtain rfl:=xD h2;refine mb rfl fun r K h1 h2=>nz (r:=r) rfl rfl ?_ h2
   exact b8 (h:=fun _=> .ok (.mk 2 n [] [] ai [],r)) (fun f=>by rw[gZ];rfl) (bb _)
  ·have hi:(decide (n=0)&&nC s)=true:=hi;simp only[aD,bt] at hi;obtain⟨rfl,lU⟩:=hi;have hc:decide (c=[])=true:=hc;simp only[bt] at hc;subst hc;obtain rfl:=lL ht;obtain rfl:=xD h2;refine mb rfl fun r K h1 h2=>nz (r:=r) rfl rfl ?_ h2
   exact b8 (h:=fun _=> .ok (.mk 3 0 s [] ai [],r)) (fun f=>by rw[gZ];rfl) (bb _)
  ·have hi:(decide (n=0)&&decide (s=[]))=true:=hi;simp only[aD,bt] at hi;obtain⟨rfl,rfl⟩:=hi;have hc:decide (c=[])=true:=hc;simp only[bt] at hc;subst hc;obtain rfl:=lL ht;obtain rfl:=xD h2;refine mb rfl fun r K h1 h2=>nz (r:=r) rfl rfl ?_ h2
   exact vK (by decide) (b8 (h:=fun _=> .ok (.mk 4 0 [] [] ai [],r)) (fun f=>by rw[jo];rfl) (bb _))
  ·have hi:(decide (n=0)&&decide (s=[]))=true:=hi;simp only[aD,bt] at hi;obtain⟨rfl,rfl⟩:=hi;have hc:decide (c=[])=true:=hc;simp only[bt] at hc;subst hc;obtain rfl:=lL ht;obtain rfl:=xD h2;refine mb rfl fun r K h1 h2=>nz (r:=r) rfl rfl ?_ h2
   exact vK (by decide) (b8 (h:=fun _=> .ok (.mk 5 0 [] [] ai [],r)) (fun f=>by rw[jo];rfl) (bb _))
  ·have hi:(dn s&&decide (n=0))=true:=hi;simp only[aD,bt] at hi;obtain⟨lU,rfl⟩:=hi;have hc:decide (c=[])=true:=hc;simp only[bt] at hc;subst hc;obtain rfl:=lL ht;obtain rfl:=xD h2;refine mb rfl fun r K h1 h2=>nz (r:=r) rfl rfl ?_ h2
   have hid:=pz lU r;refine b8 (h:=fun _=> .ok (.mk 6 0 s [] ai [],r)) (fun f=> ?_) (bb _);show gZ (f+1) (aM s::r)=_;rw[gZ,af (by simp [gO,aM]),af (by simp [gO,aM]),af (by simp [gO,aM]),ah hid.1,hid.2.2];rfl
  ·have hi:(dn s&&decide (n=0))=true:=hi;simp only[aD,bt] at hi;obtain⟨lU,rfl⟩:=hi;have hc:decide (c=[])=true:=hc;simp only[bt] at hc;subst hc;obtain rfl:=lL ht;obtain⟨x,rfl⟩:=vz h1 h2;have hx:=ih x (by simp);refine mb rfl fun r K h1 h2=> ?_
   have hid:=pz lU r;have e1:aC (.mk 7 0 s [] ai [x])++r=gl (iG x.k) (aC x)++(sg [46]::aM s::r):=by
    show(dR (aS [x]) 0++[sg [46]]++[aM s])++r=_;rw[rq (by simp)];simp
   rw[e1];refine hx.o _ K rfl (b8 (h:=fun f=>fY f (.mk 7 0 s [] ai [x]) r) (fun f=> ?_) h2);rw[fY];show an (cY (aM s::r)) _=_;rw[hid.2.2];simp only[an,h1];rfl
  ·have hi:(dn s&&decide (n=0))=true:=hi;simp only[aD,bt] at hi;obtain⟨lU,rfl⟩:=hi;have hc:dd c=true:=hc;obtain rfl:=lL ht;obtain rfl:=xD h2;refine mb rfl fun r K h1 h2=>nz (r:=r) rfl rfl ?_ h2
   have hid:=pz lU r;have cH:=vM hc (sg [46]::aM s::r);refine b8 (h:=fun _=> .ok (.mk 8 0 s c ai [],r)) (fun f=> ?_) (bb _);show gZ (f+1) (aM c::sg [46]::aM s::r)=_;rw[gZ,af (by simp [gO,aM]),af (by simp [gO,aM]),af (by simp [gO,aM]),af (by rw[cH.2.1];decide),ah cH.1,cH.2.2];show an (cY (aM s::r)) _=_;rw[hid.2.2];simp only[an,h1];rfl
  ·have hi:(decide (n=0)&&decide (s=[]))=true:=hi;simp only[aD,bt] at hi;obtain⟨rfl,rfl⟩:=hi;have hc:decide (c=[])=true:=hc;simp only[bt] at hc;subst hc;obtain rfl:=lL ht;obtain⟨x,y,rfl⟩:=Q3 h1 h2;have hx:=ih x (by simp);have hy:=ih y (by simp);refine mb rfl fun r K h1 h2=> ?_
   have e1:aC (.mk 9 0 [] [] ai [x,y])++r=gl (iG x.k) (aC x)++(sg [91]::(aC y++(sg [93]::r))):=by
    show(dR (aS [x,y]) 0++[sg [91]]++fN (aS [x,y]) 1++[sg [93]])++r=_;rw[rq (by simp),zM (by simp)];simp
   rw[e1];refine hx.o _ K rfl (b8 (h:=fun f=>an (cw f 0 (aC y++(sg [93]::r))) fun i r=>aV [93] r fun r2=>fY f (.mk 9 0 [] [] ai [x,i]) r2) (fun f=>by rw[fY];rfl) (dy (hy.z _ (mY (by decide) _)) h2))
  ·have hi:(dn s&&decide (n=0))=true:=hi;simp only[aD,bt] at hi;obtain⟨lU,rfl⟩:=hi;have hc:decide (c=[])=true:=hc;simp only[bt] at hc;subst hc;obtain rfl:=lL ht;have h1:(1:Int)<=args.length:=h1;cases args with
   |nil=>exact absurd h1 (by decide)
   |cons x es=>
    have hx:=ih x (by simp);have ajN:gg es=true:=by simp only[gg,aD] at gu;exact gu.2
    refine mb rfl fun r K h1 h2=> ?_
    have hid:=pz lU (bj (es.map aC)++r);have e1:aC (.mk 10 0 s [] ai (x::es))++r=gl (iG x.k) (aC x)++(sg [46]::aM s::(bj (es.map aC)++r)):=by
     show(dR (aS (x::es)) 0++[sg [46]]++[aM s]++bj (((aS (x::es)).drop 1).map (·.2)))++r=_;rw[rq (by simp),QD];simp
    rw[e1];refine hx.o _ K rfl (b8 (h:=fun f=>an (gB f (bj (es.map aC)++r)) fun es r2=>fY f (.mk 10 0 s [] ai (x::es)) r2) (fun f=> ?_) (dy (BK (fun e he=>GA e (bR _ he)) ajN r) h2));rw[fY];show an (cY (aM s::(bj (es.map aC)++r))) _=_;rw[hid.2.2];rfl
  ·have hi:(dn s&&decide (n=0))=true:=hi;simp only[aD,bt] at hi;obtain⟨lU,rfl⟩:=hi;have hc:dd c=true:=hc;obtain rfl:=lL ht;refine mb rfl fun r K h1 h2=>nz (r:=r) rfl rfl ?_ h2
   have hid:=pz lU (bj (args.map aC)++r);have cH:=vM hc (sg [46]::aM s::(bj (args.map aC)++r));have e1:aC (.mk 11 0 s c ai args)++r=aM c::sg [46]::aM s::(bj (args.map aC)++r):=by
    show([aM c]++[sg [46]]++[aM s]++bj ((aS args).map (·.2)))++r=_;rw[BO];simp
   rw[e1];refine b8 (h:=fun f=>an (gB f (bj (args.map aC)++r)) fun es r4=> .ok (.mk 11 0 s c ai es,r4)) (fun f=> ?_) (dy (BK GA gu r) (bb _));rw[gZ,af (by simp [gO,aM]),af (by simp [gO,aM]),af (by simp [gO,aM]),af (by rw[cH.2.1];decide),ah cH.1,cH.2.2];show an (cY (aM s::(bj (args.map aC)++r))) _=_;rw[hid.2.2];rfl
  ·have hi:(dn s&&decide (n=0))=true:=hi;simp only[aD,bt] at hi;obtain⟨lU,rfl⟩:=hi;have hc:decide (c=[])=true:=hc;simp only[bt] at hc;subst hc;obtain rfl:=lL ht;refine mb rfl fun r K h1 h2=>nz (r:=r) rfl rfl ?_ h2
   have hid:=pz lU (bj (args.map aC)++r);have e1:aC (.mk 12 0 s [] ai args)++r=kw [115,117,112,101,114]::sg [46]::aM s::(bj (args.map aC)++r):=by
    show([kw [115,117,112,101,114]]++[sg [46]]++[aM s]++bj ((aS args).map (·.2)))++r=_;rw[BO];simp
   rw[e1];refine vK (by decide) (b8 (h:=fun f=>an (gB f (bj (args.map aC)++r)) fun es r3=> .ok (.mk 12 0 s [] ai es,r3)) (fun f=> ?_) (dy (BK GA gu r) (bb _)));rw[jo];show an (cY (aM s::(bj (args.map aC)++r))) _=_;rw[hid.2.2];rfl
  ·have hi:(decide (n=0)&&decide (s=[]))=true:=hi;simp only[aD,bt] at hi;obtain⟨rfl,rfl⟩:=hi;have hc:dd c=true:=hc;obtain rfl:=lL ht;refine mb rfl fun r K h1 h2=>nz (r:=r) rfl rfl ?_ h2
   have e1:aC (.mk 13 0 [] c ai args)++r=kw [110,101,119]::aM c::(bj (args.map aC)++r):=by
    show([kw [110,101,119]]++[aM c]++bj ((aS args).map (·.2)))++r=_;rw[BO];simp
   rw[e1];have hb:jl (aM c::(bj (args.map aC)++r))= .ok (⟨0,76,c⟩,bj (args.map aC)++r):=by
    have cH:=vM hc (bj (args.map aC)++r);simp only[jl,cH.2.2,an];rfl
   refine vK (by decide) (b8 (h:=fun f=>an (gB f (bj (args.map aC)++r)) fun es r2=> .ok (.mk 13 0 [] c ai es,r2)) (fun f=> ?_) (dy (BK GA gu r) (bb _)));rw[jo];show an (jl (aM c::(bj (args.map aC)++r))) _=_;rw[hb];rfl
  ·have hi:(decide (n=0)&&decide (s=[]))=true:=hi;simp only[aD,bt] at hi;obtain⟨rfl,rfl⟩:=hi;have hc:decide (c=[])=true:=hc;simp only[bt] at hc;subst hc;have ht:(dw ty.dim ty.base ty.name&&(decide ((14:Int)≠14)||decide (ty.dim<8)))=true:=ht;rw[aD] at ht;obtain⟨x,rfl⟩:=vz h1 h2;have hx:=ih x (by simp);refine mb rfl fun r K h1 h2=>nz (r:=r) rfl rfl ?_ h2
   have GM:=yU ht.1;have hdx:=LI x (by simp);have e1:aC (.mk 14 0 [] [] ty [x])++r=kw [110,101,119]::iW ty.base ty.name::(sg [91]::((List.replicate ty.dim.toNat [sg [93],sg [91]]).flatten++(aC x++(sg [93]::r)))):=by
    show([kw [110,101,119]]++b5 ty.dim ty.base ty.name++[sg [91]]++fN (aS [x]) 0++[sg [93]])++r=_;rw[zM (by simp),<- OH];simp [b5,gU]
   rw[e1];have hb:=RZ ht.1 (sg [91]::((List.replicate ty.dim.toNat [sg [93],sg [91]]).flatten++(aC x++(sg [93]::r))));refine vK (by decide) (b8 (h:=fun f=>an (cw f 0 (aC x++(sg [93]::r))) fun e r4=>aV [93] r4 fun r5=> .ok (.mk 14 0 [] [] ty [e],r5)) (fun f=> ?_) (dy (hx.z _ (mY (by decide) _)) (bb _)));rw[jo];show an (jl (iW ty.base ty.name::(sg [91]::((List.replicate ty.dim.toNat [sg [93],sg [91]]).flatten++(aC x++(sg [93]::r)))))) _=_;rw[hb];have UU:=Sp ty.dim.toNat ((List.replicate ty.dim.toNat [sg [93],sg [91]]).flatten++(aC x++(sg [93]::r))).length ⟨0,ty.base,ty.name⟩ (aC x++(sg [93]::r)) (by rw[aI,List.length_flatten];simp;omega) (qm (kL hdx) (by decide));have bL:(⟨0+(ty.dim.toNat:Int),ty.base,ty.name⟩:Ty)=ty:=by
    cases ty;simp only at GM ⊢;simp only[Ty.mk.injEq,and_true];omega
   rw[bL] at UU;show(if ty.base=76/\az [40] (sg [91]::((List.replicate ty.dim.toNat [sg [93],sg [91]]).flatten++(aC x++(sg [93]::r))))=true then _ else _)=_;rw[af (by simp [az,sg])];show an (iF ((List.replicate ty.dim.toNat [sg [93],sg [91]]).flatten++(aC x++(sg [93]::r))).length ⟨0,ty.base,ty.name⟩ ((List.replicate ty.dim.toNat [sg [93],sg [91]]).flatten++(aC x++(sg [93]::r)))) _=_;rw[UU];rfl
  ·have hi:(decide (n=0)&&(decide (s=[45])||decide (s=[33])))=true:=hi;simp only[aD,Bool.or_eq_true,bt] at hi;obtain⟨rfl,lU⟩:=hi;have hc:decide (c=[])=true:=hc;simp only[bt] at hc;subst hc;obtain rfl:=lL ht;obtain⟨x,rfl⟩:=vz h1 h2;have hx:=ih x (by simp);refine FB rfl fun r hf=> ?_
   have e1:aC (.mk 15 0 s [] ai [x])++r=sg s::(gl (iG x.k) (aC x)++r):=by
    show([sg s]++dR (aS [x]) 0)++r=_;rw[rq (by simp)];simp
   rw[e1];refine zg (k:=10) (n:=0) (by omega) (HP ?_) hf;have hu:=hx.o r _ hf.lp (IH hf.dot hf.lb);rcases lU with rfl |rfl
   ·exact b8 (h:=fun f=>an (gJ f (gl (iG x.k) (aC x)++r)) fun x r=> .ok (.mk 15 0 [45] [] ai [x],r)) (fun f=>by rw[gJ];rfl) (dy hu (bb _))
   ·exact b8 (h:=fun f=>an (gJ f (gl (iG x.k) (aC x)++r)) fun x r=> .ok (.mk 15 0 [33] [] ai [x],r)) (fun f=>by rw[gJ];rfl) (dy hu (bb _))
  ·have hi:(decide (n=0)&&opsL.contains s)=true:=hi;simp only[aD,bt,List.contains_iff_mem] at hi;obtain⟨rfl,lU⟩:=hi;have hc:decide (c=[])=true:=hc;simp only[bt] at hc;subst hc;obtain rfl:=lL ht;obtain⟨x,y,rfl⟩:=Q3 h1 h2;have hx:=ih x (by simp);have hy:=ih y (by simp);refine FB rfl fun r hf=> ?_
   obtain⟨m,hm,hs,hfo⟩:=abX s lU;have e1:aC (.mk 16 0 s [] ai [x,y])++r=gl (iG x.k) (aC x)++(sg s::(gl (iG y.k) (aC y)++r)):=by
    show(dR (aS [x,y]) 0++[sg s]++dR (aS [x,y]) 1)++r=_;rw[rq (by simp),rq (by simp)];simp
   rw[e1];refine zg (k:=m) (n:=0) (by omega) ?_ hf;rw[Nat.zero_add];refine b8 (h:=fun f=>an (cw f (m+1) (gl (iG x.k) (aC x)++(sg s::(gl (iG y.k) (aC y)++r)))) fun e r=>fR f m e r) (fun f=>by rw[cw,af (by omega)]) (dy (FD hx (by omega) (mY hfo _)) ?_);refine b8 (h:=fun f=>an (cw f (m+1) (gl (iG y.k) (aC y)++r)) fun z r=>fR f m (.mk 16 0 s [] ai [x,z]) r) (fun f=> ?_) (dy (FD hy (by omega) (hf.up (by omega))) (EF (by omega) (hf.up (by omega))));rw[fR,ah]
   ·rfl
   ·simp [iU,gO,j3,sg,hs]
  ·have hi:(decide (n=0)&&decide (s=[]))=true:=hi;simp only[aD,bt] at hi;obtain⟨rfl,rfl⟩:=hi;have hc:decide (c=[])=true:=hc;simp only[bt] at hc;subst hc;have ht:(dw ty.dim ty.base ty.name&&(decide ((17:Int)≠14)||decide (ty.dim<8)))=true:=ht;rw[aD] at ht;obtain⟨x,rfl⟩:=vz h1 h2;have hx:=ih x (by simp);refine FB rfl fun r hf=> ?_
   have e1:aC (.mk 17 0 [] [] ty [x])++r=gl (iG x.k) (aC x)++(kw [97,115]::(b5 ty.dim ty.base ty.name++r)):=by
    show(dR (aS [x]) 0++[kw [97,115]]++b5 ty.dim ty.base ty.name)++r=_;rw[rq (by simp)];simp
   rw[e1];refine zg (k:=6) (n:=0) (by omega) ?_ hf;rw[Nat.zero_add];refine b8 (h:=fun f=>an (cw f 7 (gl (iG x.k) (aC x)++(kw [97,115]::(b5 ty.dim ty.base ty.name++r)))) fun e r=>fR f 6 e r) (fun f=>by rw[cw,af (by omega)]) (dy (FD hx (by omega) (mY (by decide) _)) ?_);refine b8 (h:=fun f=>fR f 6 (.mk 17 0 [] [] ty [x]) r) (fun f=> ?_) (EF (by omega) (hf.up (by omega)));rw[fR];show an (eV (b5 ty.dim ty.base ty.name++r)) _=_;rw[xy ht.1 r hf.lb];rfl
  ·have hi:(decide (n=0)&&decide (s=[]))=true:=hi;simp only[aD,bt] at hi;obtain⟨rfl,rfl⟩:=hi;have hc:decide (c=[])=true:=hc;simp only[bt] at hc;subst hc;have ht:(dw ty.dim ty.base ty.name&&(decide ((18:Int)≠14)||decide (ty.dim<8)))=true:=ht;rw[aD] at ht;obtain⟨x,rfl⟩:=vz h1 h2;have hx:=ih x (by simp);refine FB rfl fun r hf=> ?_
   have e1:aC (.mk 18 0 [] [] ty [x])++r=gl (iG x.k) (aC x)++(kw [105,115]::(b5 ty.dim ty.base ty.name++r)):=by
    show(dR (aS [x]) 0++[kw [105,115]]++b5 ty.dim ty.base ty.name)++r=_;rw[rq (by simp)];simp
   rw[e1];refine zg (k:=6) (n:=0) (by omega) ?_ hf;rw[Nat.zero_add];refine b8 (h:=fun f=>an (cw f 7 (gl (iG x.k) (aC x)++(kw [105,115]::(b5 ty.dim ty.base ty.name++r)))) fun e r=>fR f 6 e r) (fun f=>by rw[cw,af (by omega)]) (dy (FD hx (by omega) (mY (by decide) _)) ?_);refine b8 (h:=fun f=>fR f 6 (.mk 18 0 [] [] ty [x]) r) (fun f=> ?_) (EF (by omega) (hf.up (by omega)));rw[fR];show an (eV (b5 ty.dim ty.base ty.name++r)) _=_;rw[xy ht.1 r hf.lb];rfl
  ·have hi:(decide (n=0)&&decide (s=[]))=true:=hi;simp only[aD,bt] at hi;obtain⟨rfl,rfl⟩:=hi;have hc:decide (c=[])=true:=hc;simp only[bt] at hc;subst hc;obtain rfl:=lL ht;obtain⟨x,rfl⟩:=vz h1 h2;have hx:=ih x (by simp);refine mb rfl fun r K h1 h2=>nz (r:=r) rfl rfl ?_ h2
   have e1:aC (.mk 19 0 [] [] ai [x])++r=kw [108,101,110]::(bj [aC x]++r):=by
    show([kw [108,101,110]]++bj [fN (aS [x]) 0])++r=_;rw[zM (by simp)];simp
   rw[e1];exact vK (by decide) (b8 (h:=fun f=>an (fj f (bj [aC x]++r)) fun e r=> .ok (.mk 19 0 [] [] ai [e],r)) (fun f=>by rw[jo];rfl) (dy (vC hx.z r) (bb _)))
  ·have hi:(decide (n=0)&&decide (s=[]))=true:=hi;simp only[aD,bt] at hi;obtain⟨rfl,rfl⟩:=hi;have hc:decide (c=[])=true:=hc;simp only[bt] at hc;subst hc;obtain rfl:=lL ht;obtain⟨x,rfl⟩:=vz h1 h2;have hx:=ih x (by simp);refine mb rfl fun r K h1 h2=>nz (r:=r) rfl rfl ?_ h2
   have e1:aC (.mk 20 0 [] [] ai [x])++r=kw iH::(bj [aC x]++r):=by
    show([kw iH]++bj [fN (aS [x]) 0])++r=_;rw[zM (by simp)];simp
   rw[e1];exact vK (by decide) (b8 (h:=fun f=>an (fj f (bj [aC x]++r)) fun e r=> .ok (.mk 20 0 [] [] ai [e],r)) (fun f=>by rw[jo];rfl) (dy (vC hx.z r) (bb _)))
  ·have hi:(decide (n=0)&&decide (s=[]))=true:=hi;simp only[aD,bt] at hi;obtain⟨rfl,rfl⟩:=hi;have hc:decide (c=[])=true:=hc;simp only[bt] at hc;subst hc;obtain rfl:=lL ht;obtain⟨x,rfl⟩:=vz h1 h2;have hx:=ih x (by simp);refine mb rfl fun r K h1 h2=>nz (r:=r) rfl rfl ?_ h2
   have e1:aC (.mk 21 0 [] [] ai [x])++r=kw iE::(bj [aC x]++r):=by
    show([kw iE]++bj [fN (aS [x]) 0])++r=_;rw[zM (by simp)];simp
   rw[e1];exact vK (by decide) (b8 (h:=fun f=>an (fj f (bj [aC x]++r)) fun e r=> .ok (.mk 21 0 [] [] ai [e],r)) (fun f=>by rw[jo];rfl) (dy (vC hx.z r) (bb _)))
/-! Equal is the same. -/
theorem Ty.of_eq {x y:Ty} (h:Ty.eq x y=true):x=y:=by
 cases x;cases y;simp only[Ty.eq,aD,bt] at h;obtain⟨rfl,rfl,rfl⟩:=h;rfl
mutual
theorem Jz:∀(a b:Ex),iA a b=true->a=b
 | .mk k n s c ty args,.mk k' n' s' c' dQ jT,h=>by
  simp only[iA,aD,bt] at h;have h1:=Re args jT (by grind);have h2:ty=dQ:=Ty.of_eq (by grind);subst h1 h2;congr 1<;>grind
theorem Re:∀(a b:List Ex),ly a b=true->a=b
 |[],[],_=>rfl
 |[],_::_,h=>by simp only[ly] at h;cases h
 |_::_,[],h=>by simp only[ly] at h;cases h
 |x::r,y::t,h=>by
  simp only[ly,aD] at h;rw[Jz x y h.1,Re r t h.2]
end
mutual
theorem Sk:∀(a b:St),dh a b=true->a=b
 | .mk k nm ty tg ex body alt,.mk k' fP dQ yk yF pF yh,h=>by
  simp only[dh,aD,bt] at h;have h1:=Je body pF (by grind);have h2:=Je alt yh (by grind);have h3:=Jz tg yk (by grind);have h4:=Jz ex yF (by grind);have h5:ty=dQ:=Ty.of_eq (by grind);subst h1 h2 h3 h4 h5;congr 1<;>grind
theorem Je:∀(a b:List St),gn a b=true->a=b
 |[],[],_=>rfl
 |[],_::_,h=>by simp only[gn] at h;cases h
 |_::_,[],h=>by simp only[gn] at h;cases h
 |x::r,y::t,h=>by
  simp only[gn,aD] at h;rw[Sk x y h.1,Je r t h.2]
end
def sd:List UInt8:=[105,102]
def pD:List UInt8:=[101,108,115,101]
def uB:List UInt8:=[119,104,105,108,101]
def tj:List UInt8:=[114,101,116,117,114,110]
def uC:List UInt8:=[116,104,114,111,119]
def uO:List UInt8:=[116,114,121]
def na:List UInt8:=[99,97,116,99,104]
def uJ:List UInt8:=[115,121,110,99]
def rn:List UInt8:=[115,117,112,101,114]
def lq (l:List Tk):Bool:=if(az iH l||az iE l)=true then !az [40] l.tail else gj l&& !az [46] l.tail
mutual
def dL:Nat->List Tk->PR (List St)
 |0,l=> .error l
 |f+1,l=>aV [123] l fun r=>j6 f [] r
def j6:Nat->List St->List Tk->PR (List St)
 |0,_,l=> .error l
 |f+1,acc,l=>if az [125] l=true then .ok (acc,l.tail) else an (gk f l) fun s r=>j6 f (acc++[s]) r
def gk:Nat->List Tk->PR St
 |0,l=> .error l
 |f+1,l=>
  if az sd l=true then an (fj f l.tail) fun e r=>an (dL f r) fun b r2=>
   if az pD r2=true then an (dL f r2.tail) fun a r3=> .ok (.mk 4 [] ai zE e b a,r3) else .ok (.mk 4 [] ai zE e b [],r2)
  else if az uB l=true then an (fj f l.tail) fun e r=>an (dL f r) fun b r2=> .ok (.mk 5 [] ai zE e b [],r2)
  else if az tj l=true then
   if az [59] l.tail=true then .ok (.mk 6 [] ai zE zE [] [],l.tail.tail) else an (cw f 0 l.tail) fun e r=>aV [59] r fun r2=> .ok (.mk 6 [] ai zE e [] [],r2)
  else if az uC l=true then an (cw f 0 l.tail) fun e r=>aV [59] r fun r2=> .ok (.mk 7 [] ai zE e [] [],r2)
  else if az uO l=true then an (dL f l.tail) fun b r=>aV na r fun r2=>aV [40] r2 fun r3=>an (eV r3) fun t r4=>an (cY r4) fun s r5=>aV [41] r5 fun r6=>an (dL f r6) fun a r7=> .ok (.mk 8 s t zE zE b a,r7)
  else if az uJ l=true then an (fj f l.tail) fun e r=>an (dL f r) fun b r2=> .ok (.mk 9 [] ai zE e b [],r2)
  else if az [123] l=true then an (dL f l) fun b r=> .ok (.mk 10 [] ai zE zE b [],r)
  else if az rn l=true/\az [40] l.tail=true then an (gB f l.tail) fun es r=>aV [59] r fun r2=> .ok (.mk 11 [] ai zE (.mk 0 0 [] [] ai es) [] [],r2)
  else if lq l=true then an (eV l) fun t r=>an (cY r) fun s r2=>aV [61] r2 fun r3=>an (cw f 0 r3) fun e r4=>aV [59] r4 fun r5=> .ok (.mk 1 s t zE e [] [],r5)
  else an (cw f 0 l) fun e r=>
   if az [61] r=true then an (cw f 0 r.tail) fun x r2=>aV [59] r2 fun r3=> .ok (.mk 2 [] ai e x [] [],r3)
   else aV [59] r fun r2=> .ok (.mk 3 [] ai zE e [] [],r2)
end
def RS (s:St):Prop:=∀r,az pD r=false->bD (fun f=>gk f (cS s++r)) (.ok (s,r))
def AR (l:List Tk):Prop:=∀r,az [125] (l++r)=false/\az pD (l++r)=false
theorem xA {w:List UInt8} {l:List Tk} (h1:w≠[125]) (h2:w≠pD):AR (kw w::l):=fun r=>by simp [az,kw,h1,h2]
theorem Se {e:Ex} (h:bG e=true) (l:List Tk):AR (aC e++l):=fun r=>by
 have hh:pY (aC e++l++r):=kL (kL (E8 e h));exact⟨qm hh (by decide),qm hh (by decide)⟩
theorem adP {t:Ty} (h:dw t.dim t.base t.name=true) (l:List Tk):AR (b5 t.dim t.base t.name++l):=fun r=>by
 obtain⟨_,_,h3⟩:=yU h;have e:∀w,az w (b5 t.dim t.base t.name++l++r)=az w [iW t.base t.name]:=fun w=>rfl
 rw[e,e];rcases h3 with ⟨h1,_⟩ |⟨h1,_⟩ |⟨h1,_⟩
 ·rw[h1];exact⟨rfl,rfl⟩
 ·rw[h1];exact⟨rfl,rfl⟩
 ·rw[h1];have:iW 76 t.name=aM t.name:=rfl;rw[this];exact⟨rfl,rfl⟩
theorem Jx {s:St} (hv:fv s=true):AR (cS s):=by
 cases s with
 |mk k nm ty tg ex body alt=>
  simp only[fv,aD] at hv;have aW:=hv.1;rcases A4 aW with rfl |rfl |rfl |rfl |rfl |rfl |rfl |rfl |rfl |rfl |rfl
  ·have aA:(dn nm&&dw ty.dim ty.base ty.name&&bG ex)=true:=aW;simp only[aD] at aA;have e:cS (.mk 1 nm ty tg ex body alt)=b5 ty.dim ty.base ty.name++(aM nm::sg [61]::(aC ex++[sg [59]])):=by
    show(b5 ty.dim ty.base ty.name++[aM nm]++[sg [61]]++aC ex)++[sg [59]]=_;simp
   rw[e];exact adP aA.1.2 _
  ·have aA:(mR tg&&bG ex)=true:=aW;simp only[aD] at aA;have e:cS (.mk 2 nm ty tg ex body alt)=aC tg++(sg [61]::(aC ex++[sg [59]])):=by
    show(aC tg++[sg [61]]++aC ex)++[sg [59]]=_;simp
   rw[e];exact Se (yQ aA.1) _
  ·have aA:nh ex=true:=aW;exact Se (za aA) [sg [59]]
  ·exact xA (by decide) (by decide)
  ·exact xA (by decide) (by decide)
  ·exact xA (by decide) (by decide)
  ·exact xA (by decide) (by decide)
  ·exact xA (by decide) (by decide)
  ·exact xA (by decide) (by decide)
  ·exact fun r=>⟨rfl,rfl⟩
  ·exact xA (by decide) (by decide)
theorem O5:∀(l acc:List St) (r:List Tk),(∀s∈l,RS s/\AR (cS s))->bD (fun f=>j6 f acc (be l++(sg [125]::r))) (.ok (acc++l,r))
 |[],acc,r,_=>b8 (h:=fun _=> .ok (acc++[],r)) (fun f=>by rw[j6];simp [be,az,sg]) (bb _)
 |s::l,acc,r,h=>by
  have ih:=O5 l (acc++[s]) r fun x hx=>h x (bR _ hx)
  have hs:=h s (bY ..);have e1:be (s::l)++(sg [125]::r)=cS s++(be l++(sg [125]::r)):=by simp [be]
  rw[e1];refine b8 (h:=fun f=>an (gk f (cS s++(be l++(sg [125]::r)))) fun s r=>j6 f (acc++[s]) r) (fun f=>by rw[j6,(hs.2 _).1];rfl) (dy (hs.1 _ ?_) ?_)
  ·cases l with
   |nil=>rfl
   |cons x l=>
    have:=((h x (by simp)).2 (be l++(sg [125]::r))).2;simpa [be] using this
  ·simpa using ih
theorem I0 {l:List St} (h:∀s∈l,RS s/\AR (cS s)) (r:List Tk):bD (fun f=>dL f (bl (be l)++r)) (.ok (l,r)):=by
 have e1:bl (be l)++r=sg [123]::(be l++(sg [125]::r)):=by simp [bl]
 rw[e1];exact b8 (h:=fun f=>j6 f [] (be l++(sg [125]::r))) (fun f=>by rw[dL];rfl) (by simpa using O5 l [] r h)
theorem aff {e:Ex} (h:jj e=true):e=zE:=by
 cases e with
 |mk k n s c ty args=>
  simp only[jj,ji,aD,bt] at h;obtain⟨⟨⟨⟨⟨h0,rfl⟩,rfl⟩,rfl⟩,rfl⟩,h1⟩:=h;rw[Ty.of_eq h1,List.length_eq_zero_iff.1 h0];rfl
theorem Zz {e:Ex} (h:mW e=true):e= .mk 0 0 [] [] ai e.args:=by
 cases e with
 |mk k n s c ty args=>
  simp only[mW,ji,aD,bt] at h;obtain⟨⟨⟨⟨⟨⟨⟨_,rfl⟩,rfl⟩,rfl⟩,rfl⟩,h1⟩,_⟩,_⟩:=h;rw[Ty.of_eq h1];rfl
theorem sW {e:Ex} (h:bG e=true):yL e:=(RF _ e (au _) h).z
def sH (l:List Tk):Prop:=∀r,lq (l++r)=false/\¬(az rn (l++r)=true/\az [40] (l++r).tail=true)
theorem ou {a b:List Tk} (h:sH a):sH (a++b):=fun r=>by
 rw[List.append_assoc];exact h (b++r)
theorem rr {t:Tk} (l:List Tk) (h1:az iH [t]=false) (h2:az iE [t]=false) (h3:gj [t]=false) (h4:az rn [t]=false):sH (t::l):=fun r=>by
 have e:∀w,az w (t::l++r)=az w [t]:=fun w=>rfl
 have e2:gj (t::l++r)=gj [t]:=rfl;refine⟨?_,?_⟩
 ·rw[lq,e,e,e2,h1,h2,h3];rfl
 ·rw[e,h4];simp
theorem ab7 (l:List (List Tk)):sH (bj l):=rr (t:=sg [40]) _ rfl rfl rfl rfl
theorem aeb {b:Bool} {t:List Tk} (h:sH t):sH (gl b t):=by
 cases b
 ·exact h
 ·exact ab7 _
theorem age {s:List UInt8} (h:dn s=true) (l:List Tk):sH (aM s::l):=rr _ rfl rfl (pz h []).2.1 rfl
theorem Sq {s:List UInt8} (l:List Tk):sH (aM s::sg [46]::l):=fun r=>by
 have h1:az iH (aM s::sg [46]::l++r)=false:=rfl;have h2:az iE (aM s::sg [46]::l++r)=false:=rfl;have h3:az [46] (aM s::sg [46]::l++r).tail=true:=rfl;have h4:az rn (aM s::sg [46]::l++r)=false:=rfl;refine⟨?_,?_⟩
 ·rw[lq,h1,h2,h3];simp
 ·rw[h4];simp
mutual
theorem RG:∀(e:Ex),bG e=true->sH (aC e)
 | .mk k n s c ty args,hv=>by
  simp only[bG,aD] at hv;obtain⟨hn,gu⟩:=hv;have hx:=Qg args gu;obtain⟨hk,har,_⟩:=zf hn;simp only[aC];simp only[mu,aD,bt] at hn;have hi:=hn.1.1.2;have o0:1<=args.length->sH (dR (aS args) 0):=fun h=>by rw[rq (by omega)];exact aeb (hx _ (List.getElem_mem _))
  rcases kinds hk with h |h |h |h |h |h |h |h |h |h |h |h |h |h |h |h |h |h |h |h |h<;>subst h
  ·exact rr _ rfl rfl rfl rfl
  ·exact rr _ rfl rfl rfl rfl
  ·exact rr _ rfl rfl rfl rfl
  ·exact rr _ rfl rfl rfl rfl
  ·exact rr _ rfl rfl rfl rfl
  ·have hi:(dn s&&decide (n=0))=true:=hi;simp only[aD,bt] at hi;exact age hi.1 []
  ·exact ou (ou (o0 (by simp [eP] at har;omega)))
  ·exact Sq _
  ·exact ou (ou (ou (o0 (by simp [eP] at har;omega))))
  ·exact ou (ou (ou (o0 (by simp [eP] at har;omega))))
  ·exact Sq _
  ·exact fun r=>⟨rfl,fun h=>by have h2:false=true:=h.2;cases h2⟩
  ·exact rr _ rfl rfl rfl rfl
  ·exact rr _ rfl rfl rfl rfl
  ·have hi:(decide (n=0)&&(decide (s=[45])||decide (s=[33])))=true:=hi;simp only[aD,Bool.or_eq_true,bt] at hi;rcases hi.2 with rfl |rfl<;>exact rr _ rfl rfl rfl rfl
  ·exact ou (ou (o0 (by simp [eP] at har;omega)))
  ·exact ou (ou (o0 (by simp [eP] at har;omega)))
  ·exact ou (ou (o0 (by simp [eP] at har;omega)))
  ·exact rr _ rfl rfl rfl rfl
  ·exact fun r=>⟨rfl,by intro h;cases h.1⟩
  ·exact fun r=>⟨rfl,by intro h;cases h.1⟩
theorem Qg:∀(l:List Ex),gg l=true->∀x∈l,sH (aC x)
 |[],_,x,hx=>by cases hx
 |e::r,hv,x,hx=>by
  simp only[gg,aD] at hv;rcases List.mem_cons.1 hx with hx |hx
  ·rw[hx];exact RG e hv.1
  ·exact Qg r hv.2 x hx
end
theorem QH {e:Ex} (h:bG e=true) (r:List Tk) (f:Nat):gk (f+1) (aC e++r)=an (cw f 0 (aC e++r)) fun e r=>
  if az [61] r=true then an (cw f 0 r.tail) fun x r2=>aV [59] r2 fun r3=> .ok (.mk 2 [] ai e x [] [],r3) else aV [59] r fun r2=> .ok (.mk 3 [] ai zE e [] [],r2):=by
 have hh:pY (aC e++r):=kL (E8 e h);have hn:=RG e h r;rw[gk,qm (w:=sd) hh (by decide),qm (w:=uB) hh (by decide),qm (w:=tj) hh (by decide),qm (w:=uC) hh (by decide),qm (w:=uO) hh (by decide),qm (w:=uJ) hh (by decide),qm (w:=[123]) hh (by decide),af hn.2,hn.1];rfl
theorem ov {α:Type} {g h:Nat->α} {K:α} (e:∀f,g f=h f) (H:bD h K):bD g K:=by
 have:g=h:=funext e;rw[this];exact H
theorem Jw:∀(h:Nat) (s:St),eQ s<=h->fv s=true->RS s
 |0,.mk k nm ty tg ex body alt,hd,_=>by simp [eQ] at hd
 |h+1,.mk k nm ty tg ex body alt,hd,hv=>by
  simp only[eQ] at hd;have dr:=hv;simp only[fv,aD] at hv;obtain⟨aW,hq⟩:=hv;have hq:=Sk _ _ hq;have AO:∀{q:Bool},(decide (body.length<=32)&&b9 false body&&q)=true->∀r,bD (fun f=>dL f (bl (be body)++r)) (.ok (body,r)):=fun iJ r=>by
   simp only[aD] at iJ;exact I0 (fun s hs=>⟨Jw h s (by have:=lY hs;omega) (qT iJ.1.2 s hs),Jx (qT iJ.1.2 s hs)⟩) r
  have LX:∀{q:Bool},(q&&(decide (alt.length<=32)&&b9 false alt))=true->∀r,bD (fun f=>dL f (bl (be alt)++r)) (.ok (alt,r)):=fun iJ r=>by
   simp only[aD] at iJ;exact I0 (fun s hs=>⟨Jw h s (by have:=lY hs;omega) (qT iJ.2.2 s hs),Jx (qT iJ.2.2 s hs)⟩) r
  intro r hr;rcases A4 aW with rfl |rfl |rfl |rfl |rfl |rfl |rfl |rfl |rfl |rfl |rfl
  ·have aA:(dn nm&&dw ty.dim ty.base ty.name&&bG ex)=true:=aW;simp only[aD] at aA;have hq:St.mk 1 nm ty tg ex body alt= .mk 1 nm ty zE ex [] []:=hq;simp only[St.mk.injEq,true_and] at hq;obtain⟨rfl,rfl,rfl⟩:=hq;have e1:cS (.mk 1 nm ty zE ex [] [])++r=b5 ty.dim ty.base ty.name++(aM nm::sg [61]::(aC ex++(sg [59]::r))):=by
    show((b5 ty.dim ty.base ty.name++[aM nm]++[sg [61]]++aC ex)++[sg [59]])++r=_;simp
   have hid:=pz aA.1.1 (sg [61]::(aC ex++(sg [59]::r)));have bL:=xy aA.1.2 (aM nm::sg [61]::(aC ex++(sg [59]::r))) rfl;obtain⟨GM,_,hb3⟩:=yU aA.1.2;rw[e1];have tP:∀w,az w (b5 ty.dim ty.base ty.name++(aM nm::sg [61]::(aC ex++(sg [59]::r))))=az w [iW ty.base ty.name]:=fun w=>rfl
   have h2:∀w,w=[40]\/w=[46]->az w (b5 ty.dim ty.base ty.name++(aM nm::sg [61]::(aC ex++(sg [59]::r)))).tail=false:=fun w hw=>by
    show az w (gU ty.dim++(aM nm::sg [61]::(aC ex++(sg [59]::r))))=false;unfold gU;cases ty.dim.toNat with
    |zero=>rcases hw with rfl |rfl<;>rfl
    |succ n=>rcases hw with rfl |rfl<;>rfl
   refine b8 (h:=fun f=>an (cw f 0 (aC ex++(sg [59]::r))) fun e r4=>aV [59] r4 fun r5=> .ok (.mk 1 nm ty zE e [] [],r5)) (fun f=> ?_) (dy (sW aA.2 _ (mY (by decide) _)) (bb _));have aj2:lq (b5 ty.dim ty.base ty.name++(aM nm::sg [61]::(aC ex++(sg [59]::r))))=true:=by
    rw[lq,tP,tP,h2 _ (.inl rfl),h2 _ (.inr rfl)];rcases hb3 with ⟨g1,_⟩ |⟨g1,_⟩ |⟨g1,g2⟩
    ·rw[g1];rfl
    ·rw[g1];rfl
    ·have hc:gj (b5 ty.dim ty.base ty.name++(aM nm::sg [61]::(aC ex++(sg [59]::r))))=true:=by
      show(decide ((iW ty.base ty.name).k=1)&&dd (iW ty.base ty.name).s)=true;rw[g1];show(decide ((1:Int)=1)&&dd ty.name)=true;rw[g2];rfl
     rw[hc];split<;>rfl
   have mN:∀w,w≠iH->w≠iE->az w [iW ty.base ty.name]=false:=fun w w1 w2=>by
    rcases hb3 with ⟨g1,_⟩ |⟨g1,_⟩ |⟨g1,_⟩
    ·rw[g1];simp [iW,az,kw,Ne.symm w1]
    ·rw[g1];simp [iW,az,kw,Ne.symm w2]
    ·rw[g1];simp [iW,az,aM]
   rw[gk,tP,tP,tP,tP,tP,tP,tP,tP,mN sd (by decide) (by decide),mN uB (by decide) (by decide),mN tj (by decide) (by decide),mN uC (by decide) (by decide),mN uO (by decide) (by decide),mN uJ (by decide) (by decide),mN [123] (by decide) (by decide),mN rn (by decide) (by decide),aj2,bL];show an (cY (aM nm::sg [61]::(aC ex++(sg [59]::r)))) _=_;rw[hid.2.2];rfl
  ·have aA:(mR tg&&bG ex)=true:=aW;simp only[aD] at aA;have hq:St.mk 2 nm ty tg ex body alt= .mk 2 [] ai tg ex [] []:=hq;simp only[St.mk.injEq,true_and] at hq;obtain⟨rfl,rfl,rfl,rfl⟩:=hq;have e1:cS (.mk 2 [] ai tg ex [] [])++r=aC tg++(sg [61]::(aC ex++(sg [59]::r))):=by
    show((aC tg++[sg [61]]++aC ex)++[sg [59]])++r=_;simp
   rw[e1];have hs:=QH (yQ aA.1) (sg [61]::(aC ex++(sg [59]::r)));refine b8 (h:=fun f=>an (cw f 0 (aC tg++(sg [61]::(aC ex++(sg [59]::r))))) fun e r=>if az [61] r=true then an (cw f 0 r.tail) fun x r2=>aV [59] r2 fun r3=> .ok (.mk 2 [] ai e x [] [],r3) else aV [59] r fun r2=> .ok (.mk 3 [] ai zE e [] [],r2)) hs (dy (sW (yQ aA.1) _ (mY (by decide) _)) ?_);exact dy (g:=fun f=>cw f 0 (aC ex++(sg [59]::r))) (sW aA.2 _ (mY (by decide) _)) (bb _)
  ·have aA:nh ex=true:=aW;have hq:St.mk 3 nm ty tg ex body alt= .mk 3 [] ai zE ex [] []:=hq;simp only[St.mk.injEq,true_and] at hq;obtain⟨rfl,rfl,rfl,rfl,rfl⟩:=hq;have e1:cS (.mk 3 [] ai zE ex [] [])++r=aC ex++(sg [59]::r):=by
    show(aC ex++[sg [59]])++r=_;simp
   rw[e1];exact b8 (QH (za aA) (sg [59]::r)) (dy (sW (za aA) _ (mY (by decide) _)) (bb _))
  ·have aA:((decide (body.length<=32)&&b9 false body&&(decide (alt.length<=32)&&b9 false alt))&&bG ex)=true:=aW;rw[aD] at aA;have hq:St.mk 4 nm ty tg ex body alt= .mk 4 [] ai zE ex body alt:=hq;simp only[St.mk.injEq,true_and] at hq;obtain⟨rfl,rfl,rfl,-⟩:=hq;have hB:=AO aA.1;have hA:=LX aA.1;have hx:=sW aA.2;clear AO LX aW dr aA;cases alt with
   |nil=>
    have e1:cS (.mk 4 [] ai zE ex body [])++r=kw sd::(bj [aC ex]++(bl (be body)++r)):=by
     show([kw sd]++bj [aC ex]++bl (be body)++[])++r=_;simp
    rw[e1];refine b8 (h:=fun f=>an (fj f (bj [aC ex]++(bl (be body)++r))) fun e r=>an (dL f r) fun b r2=>if az pD r2=true then an (dL f r2.tail) fun a r3=> .ok (.mk 4 [] ai zE e b a,r3) else .ok (.mk 4 [] ai zE e b [],r2)) (fun f=>by rw[gk];rfl) (dy (vC hx _) (dy (hB r) ?_));rw[hr];exact bb _
   |cons x l=>
    have e1:cS (.mk 4 [] ai zE ex body (x::l))++r=kw sd::(bj [aC ex]++(bl (be body)++(kw pD::(bl (be (x::l))++r)))):=by
     show([kw sd]++bj [aC ex]++bl (be body)++([kw pD]++bl (be (x::l))))++r=_;simp
    rw[e1];refine b8 (h:=fun f=>an (fj f (bj [aC ex]++(bl (be body)++(kw pD::(bl (be (x::l))++r))))) fun e r=>an (dL f r) fun b r2=>if az pD r2=true then an (dL f r2.tail) fun a r3=> .ok (.mk 4 [] ai zE e b a,r3) else .ok (.mk 4 [] ai zE e b [],r2)) (fun f=>by rw[gk];rfl) (dy (vC hx _) (dy (hB _) ?_));exact dy (hA r) (bb _)
  ·have aA:((decide (body.length<=32)&&b9 false body&&(decide (alt.length<=32)&&b9 false alt))&&bG ex)=true:=aW;rw[aD] at aA;have hq:St.mk 5 nm ty tg ex body alt= .mk 5 [] ai zE ex body []:=hq;simp only[St.mk.injEq,true_and] at hq;obtain⟨rfl,rfl,rfl,rfl⟩:=hq;have e1:cS (.mk 5 [] ai zE ex body [])++r=kw uB::(bj [aC ex]++(bl (be body)++r)):=by
    show([kw uB]++bj [aC ex]++bl (be body))++r=_;simp
   rw[e1];exact b8 (h:=fun f=>an (fj f (bj [aC ex]++(bl (be body)++r))) fun e r=>an (dL f r) fun b r2=> .ok (.mk 5 [] ai zE e b [],r2)) (fun f=>by rw[gk];rfl) (dy (vC (sW aA.2) _) (dy (AO aA.1 r) (bb _)))
  ·have aA:(jj ex||bG ex)=true:=aW;have hq:St.mk 6 nm ty tg ex body alt= .mk 6 [] ai zE ex [] []:=hq;simp only[St.mk.injEq,true_and] at hq;obtain⟨rfl,rfl,rfl,rfl,rfl⟩:=hq;rw[Bool.or_eq_true] at aA;rcases aA with aA |aA
   ·obtain rfl:=aff aA;have e1:cS (.mk 6 [] ai zE zE [] [])++r=kw tj::sg [59]::r:=rfl;rw[e1];exact b8 (h:=fun f=> .ok (.mk 6 [] ai zE zE [] [],r)) (fun f=>by rw[gk];rfl) (bb _)
   ·have e1:cS (.mk 6 [] ai zE ex [] [])++r=kw tj::(aC ex++(sg [59]::r)):=by
     show(([kw tj]++(if ex.k≠0 then aC ex else[]))++[sg [59]])++r=_;rw[ah (QC aA)];simp
    have hh:pY (aC ex++(sg [59]::r)):=kL (E8 ex aA);rw[e1];refine b8 (h:=fun f=>an (cw f 0 (aC ex++(sg [59]::r))) fun e r=>aV [59] r fun r2=> .ok (.mk 6 [] ai zE e [] [],r2)) (fun f=> ?_) (dy (sW aA _ (mY (by decide) _)) (bb _));rw[gk];show(if az [59] (aC ex++(sg [59]::r))=true then _ else _)=_;rw[qm (w:=[59]) hh (by decide)];rfl
  ·have aA:bG ex=true:=aW;have hq:St.mk 7 nm ty tg ex body alt= .mk 7 [] ai zE ex [] []:=hq;simp only[St.mk.injEq,true_and] at hq;obtain⟨rfl,rfl,rfl,rfl,rfl⟩:=hq;have e1:cS (.mk 7 [] ai zE ex [] [])++r=kw uC::(aC ex++(sg [59]::r)):=by
    show(([kw uC]++aC ex)++[sg [59]])++r=_;simp
   rw[e1];exact b8 (h:=fun f=>an (cw f 0 (aC ex++(sg [59]::r))) fun e r=>aV [59] r fun r2=> .ok (.mk 7 [] ai zE e [] [],r2)) (fun f=>by rw[gk];rfl) (dy (sW aA _ (mY (by decide) _)) (bb _))
  ·have aA:((decide (body.length<=32)&&b9 false body&&(decide (alt.length<=32)&&b9 false alt))&&dn nm&&dw ty.dim ty.base ty.name)=true:=aW;rw[aD,aD] at aA;have hq:St.mk 8 nm ty tg ex body alt= .mk 8 nm ty zE zE body alt:=hq;simp only[St.mk.injEq,true_and] at hq;obtain⟨rfl,rfl,-⟩:=hq;have e1:cS (.mk 8 nm ty zE zE body alt)++r=kw uO::(bl (be body)++(kw na::sg [40]::(b5 ty.dim ty.base ty.name++(aM nm::sg [41]::(bl (be alt)++r))))):=by
    show([kw uO]++bl (be body)++[kw na]++[sg [40]]++b5 ty.dim ty.base ty.name++[aM nm]++[sg [41]]++bl (be alt))++r=_;simp
   have hid:=pz aA.1.2 (sg [41]::(bl (be alt)++r));have bL:=xy aA.2 (aM nm::sg [41]::(bl (be alt)++r)) rfl;rw[e1];refine b8 (h:=fun f=>an (dL f (bl (be body)++(kw na::sg [40]::(b5 ty.dim ty.base ty.name++(aM nm::sg [41]::(bl (be alt)++r)))))) fun b r=>aV na r fun r2=>aV [40] r2 fun r3=>an (eV r3) fun t r4=>an (cY r4) fun s r5=>aV [41] r5 fun r6=>an (dL f r6) fun a r7=> .ok (.mk 8 s t zE zE b a,r7)) (fun f=>by rw[gk];rfl) (dy (AO aA.1.1 _) ?_);refine ov (h:=fun f=>an (dL f (bl (be alt)++r)) fun a r7=> .ok (.mk 8 nm ty zE zE body a,r7)) (fun f=> ?_) (dy (LX aA.1.1 r) (bb _));show an (eV (b5 ty.dim ty.base ty.name++(aM nm::sg [41]::(bl (be alt)++r)))) _=_;rw[bL];show an (cY (aM nm::sg [41]::(bl (be alt)++r))) _=_;rw[hid.2.2];rfl
  ·have aA:((decide (body.length<=32)&&b9 false body&&(decide (alt.length<=32)&&b9 false alt))&&bG ex)=true:=aW;rw[aD] at aA;have hq:St.mk 9 nm ty tg ex body alt= .mk 9 [] ai zE ex body []:=hq;simp only[St.mk.injEq,true_and] at hq;obtain⟨rfl,rfl,rfl,rfl⟩:=hq;have e1:cS (.mk 9 [] ai zE ex body [])++r=kw uJ::(bj [aC ex]++(bl (be body)++r)):=by
    show([kw uJ]++bj [aC ex]++bl (be body))++r=_;simp
   rw[e1];exact b8 (h:=fun f=>an (fj f (bj [aC ex]++(bl (be body)++r))) fun e r=>an (dL f r) fun b r2=> .ok (.mk 9 [] ai zE e b [],r2)) (fun f=>by rw[gk];rfl) (dy (vC (sW aA.2) _) (dy (AO aA.1 r) (bb _)))
  ·have aA:(decide (body.length<=32)&&b9 false body&&(decide (alt.length<=32)&&b9 false alt))=true:=aW;have hq:St.mk 10 nm ty tg ex body alt= .mk 10 [] ai zE zE body []:=hq;simp only[St.mk.injEq,true_and] at hq;obtain⟨rfl,rfl,rfl,rfl,rfl⟩:=hq;have e1:cS (.mk 10 [] ai zE zE body [])++r=bl (be body)++r:=rfl;rw[e1];exact b8 (h:=fun f=>an (dL f (bl (be body)++r)) fun b r=> .ok (.mk 10 [] ai zE zE b [],r)) (fun f=>by rw[gk];rfl) (dy (AO aA r) (bb _))
  ·have aA:mW ex=true:=aW;have hq:St.mk 11 nm ty tg ex body alt= .mk 11 [] ai zE ex [] []:=hq;simp only[St.mk.injEq,true_and] at hq;obtain⟨rfl,rfl,rfl,rfl,rfl⟩:=hq;have e1:cS (.mk 11 [] ai zE ex [] [])++r=kw rn::(bj (ex.args.map aC)++(sg [59]::r)):=by
    show(([kw rn]++bj (ex.args.map aC))++[sg [59]])++r=_;simp
   have UM:=DZ aA;have hK:(Except.ok (St.mk 11 [] ai zE ex [] [],r):PR St)= .ok (.mk 11 [] ai zE (.mk 0 0 [] [] ai ex.args) [] [],r):=by rw[<- Zz aA]
   rw[e1,hK];exact b8 (h:=fun f=>an (gB f (bj (ex.args.map aC)++(sg [59]::r))) fun es r=>aV [59] r fun r2=> .ok (.mk 11 [] ai zE (.mk 0 0 [] [] ai es) [] [],r2)) (fun f=>by rw[gk];rfl) (dy (BK (fun e he=>sW (xa UM e he)) UM _) (bb _))
theorem ae1 {a b:BitVec 64} (h:a&&& ~~~b=0#64):a.toNat<=b.toNat:=by
 have e:a=a&&& b:=by
  apply BitVec.eq_of_getLsbD_eq
  intro i hi;have h2:=congrArg (fun x=>x.getLsbD i) h;simp only[BitVec.getLsbD_and,BitVec.getLsbD_not,hi,ao,Bool.true_and,BitVec.getLsbD_zero] at h2;rw[BitVec.getLsbD_and];cases ha:a.getLsbD i<;>cases hb:b.getLsbD i<;>simp_all
 rw[e,BitVec.toNat_and];exact Nat.and_le_right
theorem vy {fl:Int} {al:Nat} (hI:aF fl) (ha:al<=4095) (h:fx fl al=true):0<=fl/\fl<=al:=by
 have h2:(BitVec.ofInt 64 fl&&& ~~~BitVec.ofInt 64 (al:Int)).toNat=0:=by
  have ay:=(BitVec.ofInt 64 fl&&& ~~~BitVec.ofInt 64 (al:Int)).isLt;have h3:IntKind.wrap .i64 ((BitVec.ofInt 64 fl&&& ~~~BitVec.ofInt 64 (al:Int)).toNat:Int)=0:=of_decide_eq_true (p:=bits .andNot .i64 fl al=0) h;generalize (BitVec.ofInt 64 fl&&& ~~~BitVec.ofInt 64 (al:Int)).toNat=n at *
  simp [IntKind.wrap,IntKind.bits,IntKind.signed] at h3;omega
 have h4:=ae1 (BitVec.eq_of_toNat_eq (by rw[h2];rfl));rw[BitVec.toNat_ofInt,BitVec.toNat_ofInt] at h4;obtain⟨i1,i2⟩:=hI;omega
def lh (fl al:Int):Bool:=decide (0<=fl)&&fx fl al
theorem Br {fl:Int} {al:Nat} (hI:aF fl) (ha:al<=4095):lh fl al=fx fl al:=by
 cases h:fx fl al with
 |false=>rw[lh,h,Bool.and_false]
 |true=>rw[lh,h,eF (vy hI ha h).1];rfl
theorem aeR {fl:Int} (hI:aF fl) (h:fx fl 7=true):om fl=kS fl/\hasB fl 1024=false:=by
 have hr:=vy (al:=7) hI (by decide) h;have gm:∀n:Fin 8,om (n.val:Int)=kS (n.val:Int)/\hasB (n.val:Int) 1024=false:=by decide+kernel
 have e:fl=(fl.toNat:Int):=by omega
 have:=gm ⟨fl.toNat,by omega⟩;simp only at this;rw[<- e] at this;exact this
/-! Flags. -/
def JB (fl:Int):Int:=((bH.filter fun p=>hasB fl p.1).map (·.1)).sum
theorem aca {fl:Int} (hI:aF fl) (h:fx fl 1087=true):JB fl=fl:=by
 have hr:=vy (al:=1087) hI (by decide) h;have gm:∀n:Fin 1088,fx (n.val:Int) 1087=true->JB (n.val:Int)=(n.val:Int):=by decide+kernel
 have e:fl=(fl.toNat:Int):=by omega
 have:=gm ⟨fl.toNat,by omega⟩;simp only at this;rw[<- e] at this;exact this h
theorem abZ {fl:Int} {al:Nat} (hI:aF fl) (ha:al=31\/al=7) (h:fx fl al=true):fx fl 1087=true:=by
 have hr:=vy (al:=al) hI (by omega) h;have gm:∀n:Fin 32,fx (n.val:Int) 1087=true:=by decide+kernel
 have e:fl=(fl.toNat:Int):=by omega
 have:=gm ⟨fl.toNat,by omega⟩;simp only at this;rw[<- e] at this;exact this
def bM:List (Int×List UInt8)->Int->List Tk->Int×List Tk
 |[],fl,l=>(fl,l)
 |p::q,fl,l=>if az p.2 l=true then bM q (fl+p.1) l.tail else bM q fl l
theorem Fm (w s:List UInt8) (l:List Tk):az w (kw s::l)=decide (s=w):=rfl
theorem Ss {fl:Int} {w:List UInt8} {q:List (Int×List UInt8)} {X:List Tk} (hw:∀p∈q,p.2≠w) (hX:az w X=false):az w ((q.filter fun p=>hasB fl p.1).map (fun p=>kw p.2)++X)=false:=by
 cases hq:(q.filter fun p=>hasB fl p.1) with
 |nil=>exact hX
 |cons p t=>
  have hp:p∈q:=(List.mem_filter.1 (show p∈q.filter fun p=>hasB fl p.1 by rw[hq];exact bY ..)).1;show az w (kw p.2::_)=false;rw[Fm];simp [hw p hp]
theorem IK {fl:Int} {X:List Tk}:∀(q:List (Int×List UInt8)) (a:Int),(q.map (·.2)).Nodup->(∀p∈q,az p.2 X=false)->bM q a ((q.filter fun p=>hasB fl p.1).map (fun p=>kw p.2)++X)=(a+((q.filter fun p=>hasB fl p.1).map (·.1)).sum,X)
 |[],a,_,_=>by simp [bM]
 |p::q,a,hd,hX=>by
  have qK:(∀x∈q,x.2≠p.2)/\(q.map (·.2)).Nodup:=by
   simp only[bN,List.nodup_cons] at hd;exact⟨fun x hx h=>hd.1 (h▸List.mem_map_of_mem hx),hd.2⟩
  have qO:∀p∈q,az p.2 X=false:=fun x hx=>hX x (bR _ hx)
  cases hb:hasB fl p.1 with
  |true=>
   simp only[List.filter_cons,hb,if_true,bN,dW];rw[bM,Fm];simp only[ao,if_true,List.tail_cons];rw[IK q _ qK.2 qO];simp only[List.sum_cons];congr 1
   omega
  |false=>
   simp only[List.filter_cons,hb,Bool.false_eq_true,if_false];rw[bM,Ss qK.1 (hX p (bY ..))];simp only[Bool.false_eq_true,if_false];exact IK q a qK.2 qO
def FU (X:List Tk):Prop:=∀p∈bH,az p.2 X=false
theorem ab9 {fl:Int} {X:List Tk} (hI:aF fl) (h:fx fl 1087=true) (hX:FU X):bM bH 0 (cP fl++X)=(fl,X):=by
 have:=IK (fl:=fl) bH 0 (by decide) hX;rw[Int.zero_add] at this;have e:=aca hI h;rw[JB] at e;rw[cP,this,e]
/-! Parameters. -/
def jg:Nat->List Pc->List Tk->PR (List Pc)
 |0,_,l=> .error l
 |f+1,acc,l=>if az [44] l=true then an (eV l.tail) fun t r=>an (cY r) fun s r2=>jg f (acc++[⟨t,s⟩]) r2 else aV [41] l fun r=> .ok (acc,r)
def o9 (f:Nat) (l:List Tk):PR (List Pc):=
 aV [40] l fun r=>if az [41] r=true then .ok ([],r.tail) else an (eV r) fun t r2=>an (cY r2) fun s r3=>jg f [⟨t,s⟩] r3
theorem Px {p:Pc} (h:gR p=true) {β:Type} (k:Ty->List UInt8->List Tk->PR β) (r:List Tk):(an (eV (cR p++r)) fun t r2=>an (cY r2) fun s r3=>k t s r3)=k p.ty p.name r:=by
 simp only[gR,aD] at h;have e:cR p++r=b5 p.ty.dim p.ty.base p.ty.name++(aM p.name::r):=by simp [cR]
 rw[e,xy h.1 _ rfl];show an (cY (aM p.name::r)) _=_;rw[(pz h.2 r).2.2];rfl
theorem Pu:∀(l acc:List Pc) (r:List Tk),(∀p∈l,gR p=true)->bD (fun f=>jg f acc (bF false (l.map cR)++(sg [41]::r))) (.ok (acc++l,r))
 |[],acc,r,_=>b8 (h:=fun _=> .ok (acc++[],r)) (fun f=>by rw[jg];simp [bF,az,sg,aV]) (bb _)
 |p::l,acc,r,h=>by
  have ih:=Pu l (acc++[p]) r fun x hx=>h x (bR _ hx)
  have e1:bF false ((p::l).map cR)++(sg [41]::r)=sg [44]::(cR p++(bF false (l.map cR)++(sg [41]::r))):=by simp [bF]
  rw[e1];refine b8 (h:=fun f=>jg f (acc++[p]) (bF false (l.map cR)++(sg [41]::r))) (fun f=> ?_) (by simpa using ih);rw[jg];show(an (eV (cR p++(bF false (l.map cR)++(sg [41]::r)))) fun t r2=>an (cY r2) fun s r3=>jg f (acc++[⟨t,s⟩]) r3)=_;exact Px (h p (bY ..)) (fun t s r3=>jg f (acc++[(⟨t,s⟩:Pc)]) r3) _
theorem sO {t:Ty} (h:dw t.dim t.base t.name=true) {w:List UInt8} (h1:w≠iH) (h2:w≠iE) (l:List Tk):az w (b5 t.dim t.base t.name++l)=false:=by
 obtain⟨_,_,hb3⟩:=yU h;have e:az w (b5 t.dim t.base t.name++l)=az w [iW t.base t.name]:=rfl;rw[e];rcases hb3 with ⟨g1,_⟩ |⟨g1,_⟩ |⟨g1,_⟩
 ·rw[g1];simp [iW,az,kw,Ne.symm h1]
 ·rw[g1];simp [iW,az,kw,Ne.symm h2]
 ·rw[g1];simp [iW,az,aM]
theorem Ob {l:List Pc} (h:∀p∈l,gR p=true) (r:List Tk):bD (fun f=>o9 f (bj (l.map cR)++r)) (.ok (l,r)):=by
 cases l with
 |nil=>exact ov (h:=fun _=> .ok ([],r)) (fun f=>rfl) (bb _)
 |cons p l=>
  have e1:bj ((p::l).map cR)++r=sg [40]::(cR p++(bF false (l.map cR)++(sg [41]::r))):=by simp [bj,bF]
  have hp:=h p (bY ..);have oU:=hp;simp only[gR,aD] at oU;have mN:az [41] (cR p++(bF false (l.map cR)++(sg [41]::r)))=false:=by
   rw[cR,List.append_assoc];exact sO oU.1 (by decide) (by decide) _
  rw[e1];refine ov (h:=fun f=>jg f [p] (bF false (l.map cR)++(sg [41]::r))) (fun f=> ?_) (Pu l [p] r fun x hx=>h x (bR _ hx));show(if az [41] (cR p++(bF false (l.map cR)++(sg [41]::r)))=true then _ else(an (eV (cR p++(bF false (l.map cR)++(sg [41]::r)))) fun t r2=>an (cY r2) fun s r3=>jg f [⟨t,s⟩] r3))=_;rw[mN];exact Px hp (fun t s r3=>jg f [(⟨t,s⟩:Pc)] r3) _
/-! Members. -/
def wi:List UInt8:=[110,101,119]
def eW:Ty:=⟨0,86,[]⟩
def Cd.addF (d:Cd) (x:Fc):Cd:={d with fields:=d.fields++[x]}
def Cd.addM (d:Cd) (x:Md):Cd:={d with methods:=d.methods++[x]}
def Cd.addI (d:Cd) (x:List St):Cd:={d with init:=d.init++x}
def oA (f:Nat) (d:Cd) (fl:Int) (t:Ty) (s:List UInt8) (l:List Tk):PR Cd:=
 an (o9 f l) fun ps r=>if az [59] r=true then .ok (d.addM ⟨fl,t,s,ps,false,[]⟩,r.tail) else an (dL f r) fun b r2=> .ok (d.addM ⟨fl,t,s,ps,true,b⟩,r2)
def lJ (f:Nat) (d:Cd) (fl:Int) (l:List Tk):PR Cd:=
 if fl=8/\az [123] l=true then an (dL f l) fun b r=> .ok (d.addI b,r)
 else if az wi l=true then an (o9 f l.tail) fun ps r=>an (dL f r) fun b r2=> .ok (d.addM ⟨fl,eW,eI,ps,true,b⟩,r2)
 else if az qh l=true then an (cY l.tail) fun s r=>oA f d fl eW s r
 else an (eV l) fun t r=>an (cY r) fun s r2=>if az [59] r2=true then .ok (d.addF ⟨fl,t,s⟩,r2.tail) else oA f d fl t s r2
def fZ:Nat->Cd->List Tk->PR Cd
 |0,_,l=> .error l
 |f+1,d,l=>if az [125] l=true then .ok (d,l.tail) else an (lJ f d (bM bH 0 l).1 (bM bH 0 l).2) fun e r=>fZ f e r
theorem PK {t:Ty} (h:dw t.dim t.base t.name=true) (l:List Tk):FU (b5 t.dim t.base t.name++l):=fun p hp=>by
 refine sO h ?_ ?_ l
 ·have:∀p∈bH,p.2≠iH:=by decide
  exact this p hp
 ·have:∀p∈bH,p.2≠iE:=by decide
  exact this p hp
theorem PL {w:List UInt8} (h:∀p∈bH,w≠p.2) (l:List Tk):FU (kw w::l):=fun p hp=>by
 rw[Fm];simp [h p hp]
theorem Bc {d e:Cd} {fl:Int} {X r:List Tk} {K:PR Cd} (hI:aF fl) (ho:fx fl 1087=true) (hX:FU X) (h0:az [125] X=false) (h1:bD (fun f=>lJ f d fl X) (.ok (e,r))) (h2:bD (fun f=>fZ f e r) K):bD (fun f=>fZ f d (cP fl++X)) K:=by
 refine b8 (h:=fun f=>an (lJ f d fl X) fun e r=>fZ f e r) (fun f=> ?_) (dy h1 h2);rw[fZ,ab9 hI ho hX];have:az [125] (cP fl++X)=false:=Ss (q:=bH) (by decide) h0;rw[this];rfl
theorem I1 {q:Bool} {l:List St} (h:eB q l=true) (r:List Tk):bD (fun f=>dL f (bl (be l)++r)) (.ok (l,r)):=by
 simp only[eB,aD] at h;exact I0 (fun s hs=>⟨Jw _ s (au _) (qT h.2 s hs),Jx (qT h.2 s hs)⟩) r
theorem aaD {d:Cd} {x:Fc} (hI:aF x.fl) (h:jQ x=true) {r:List Tk} {K:PR Cd} (hK:bD (fun f=>fZ f (d.addF x) r) K):bD (fun f=>fZ f d (pr x++r)) K:=by
 simp only[jQ,aD] at h;have e1:pr x++r=cP x.fl++(b5 x.ty.dim x.ty.base x.ty.name++(aM x.name::sg [59]::r)):=by simp [pr]
 rw[e1];refine Bc hI (abZ (al:=31) hI (.inl rfl) h.2) (PK h.1.1.1 _) (sO h.1.1.1 (by decide) (by decide) _) (ov (h:=fun _=> .ok (d.addF x,r)) (fun f=> ?_) (bb _)) hK;rw[lJ,sO (w:=[123]) h.1.1.1 (by decide) (by decide),sO (w:=wi) h.1.1.1 (by decide) (by decide),sO (w:=qh) h.1.1.1 (by decide) (by decide),xy h.1.1.1 _ rfl];simp only[Bool.false_eq_true,and_false,if_false,an];rw[(pz h.1.1.2 _).2.2];rfl
theorem OB:∀(l:List Fc) (d:Cd) (r:List Tk) (K:PR Cd),(∀x∈l,aF x.fl/\jQ x=true)->bD (fun f=>fZ f {d with fields:=d.fields++l} r) K->bD (fun f=>fZ f d ((l.map pr).flatten++r)) K
 |[],d,r,K,_,hK=>by simpa using hK
 |x::l,d,r,K,h,hK=>by
  have e1:((x::l).map pr).flatten++r=pr x++((l.map pr).flatten++r):=by simp
  rw[e1];have hx:=h x (bY ..);refine aaD hx.1 hx.2 (OB l _ r K (fun y hy=>h y (bR _ hy)) ?_);simpa [Cd.addF] using hK
theorem acm {d:Cd} {l:List St} (h:eB false l=true) {r:List Tk} {K:PR Cd} (hK:bD (fun f=>fZ f (d.addI l) r) K):bD (fun f=>fZ f d ((if 0<l.length then[kw [115,116,97,116,105,99]]++bl (be l) else[])++r)) K:=by
 by_cases h0:0<l.length
 ·rw[ah h0];have e1:[kw [115,116,97,116,105,99]]++bl (be l)++r=cP 8++(bl (be l)++r):=by
   have:cP 8=[kw [115,116,97,116,105,99]]:=by kernel_rfl
   rw[this];simp
  rw[e1];refine Bc (fl:=8) (by unfold aF;omega) (by decide+kernel) (fun p hp=> ?_) rfl (ov (h:=fun f=>an (dL f (bl (be l)++r)) fun b r=> .ok (d.addI b,r)) (fun f=>by rw[lJ];rfl) (dy (I1 h r) (bb _))) hK;have:∀p∈bH,az p.2 [sg [123]]=false:=by decide
  exact this p hp
 ·rw[af h0];have e:l=[]:=List.length_eq_zero_iff.1 (by omega);subst e;simpa [Cd.addI] using hK
theorem abJ {d:Cd} {fl:Int} {t:Ty} {s:List UInt8} {ps:List Pc} {hb q:Bool} {body:List St} (hp:∀p∈ps,gR p=true) (hq:eB q body=true) (h0:hb=true\/body=[]) (r:List Tk):
  bD (fun f=>oA f d fl t s (bj (ps.map cR)++((if hb=true then bl (be body) else[sg [59]])++r))) (.ok (d.addM ⟨fl,t,s,ps,hb,body⟩,r)):=by
 refine dy (Ob hp _) ?_;cases hb with
 |true=>exact ov (h:=fun f=>an (dL f (bl (be body)++r)) fun b r2=> .ok (d.addM ⟨fl,t,s,ps,true,b⟩,r2)) (fun f=>rfl) (dy (I1 hq r) (bb _))
 |false=>
  rcases h0 with h0 |h0
  ·cases h0
  ·subst h0;exact ov (h:=fun _=> .ok (d.addM ⟨fl,t,s,ps,false,[]⟩,r)) (fun f=>rfl) (bb _)
theorem QB {t:Ty} (h:mU t=true):t=eW:=by
 simp only[mU,aD,bt] at h;cases t;simp only at h;obtain⟨rfl,rfl,rfl⟩:=h;rfl
theorem Yv {d:Cd} {x:Md} (hI:aF x.fl) (h:gh x=true) {r:List Tk} {K:PR Cd} (hK:bD (fun f=>fZ f (d.addM x) r) K):bD (fun f=>fZ f d (eO x++r)) K:=by
 obtain⟨fl,res,name,ps,hb,body⟩:=x;simp only[gh,aD,Bool.not_eq_true',List.any_eq_false] at h;obtain⟨⟨⟨hh,hm⟩,pR⟩,iO⟩:=h;have pR:∀p∈ps,gR p=true:=fun p hp=>by have:=pR p hp;simpa using this
 simp only[rF,aD,Bool.or_eq_true,bt] at hm;obtain⟨⟨⟨hf,_⟩,sE⟩,_⟩:=hm;have sE:hb=true\/body=[]:=sE.elim .inl fun h=> .inr (List.length_eq_zero_iff.1 h)
 simp only[om,aD] at hf;have ho:fx fl 1087=true:=hf.1.1.2;by_cases hn:name=eI
 ·subst hn;simp only[nf,if_true,aD] at hh;obtain⟨⟨hv,oa⟩,_⟩:=hh;obtain rfl:=QB hv;subst oa;have e1:eO ⟨fl,eW,eI,ps,true,body⟩++r=cP fl++(kw wi::(bj (ps.map cR)++(bl (be body)++r))):=by
   show(cP fl++[kw wi]++bj (ps.map cR)++bl (be body))++r=_;simp
  rw[e1];refine Bc hI ho (PL (by decide) _) rfl (ov (h:=fun f=>an (o9 f (bj (ps.map cR)++(bl (be body)++r))) fun ps r=>an (dL f r) fun b r2=> .ok (d.addM ⟨fl,eW,eI,ps,true,b⟩,r2)) (fun f=> ?_) (dy (Ob pR _) (dy (I1 iO r) (bb _)))) hK;rw[lJ,af (by intro h;cases h.2)];rfl
 ·simp only[nf,af hn,aD,Bool.or_eq_true] at hh;obtain⟨hid,bL⟩:=hh;have e1:eO ⟨fl,res,name,ps,hb,body⟩++r=cP fl++(b5 res.dim res.base res.name++(aM name::(bj (ps.map cR)++((if hb=true then bl (be body) else[sg [59]])++r)))):=by
   simp only[eO,af hn];simp
  rw[e1];have vY:=fun(t:Ty)=>abJ (d:=d) (fl:=fl) (t:=t) (s:=name) pR iO sE r
  rcases bL with hv |hv
  ·obtain rfl:=QB hv;refine Bc hI ho (PL (w:=qh) (by decide) _) rfl (ov (h:=fun f=>oA f d fl eW name (bj (ps.map cR)++((if hb=true then bl (be body) else[sg [59]])++r))) (fun f=> ?_) (vY eW)) hK;rw[lJ,af (by intro h;cases h.2)];show an (cY (aM name::(bj (ps.map cR)++((if hb=true then bl (be body) else[sg [59]])++r)))) _=_;rw[(pz hid _).2.2];rfl
  ·refine Bc hI ho (PK hv _) (sO hv (by decide) (by decide) _) (ov (h:=fun f=>oA f d fl res name (bj (ps.map cR)++((if hb=true then bl (be body) else[sg [59]])++r))) (fun f=> ?_) (vY res)) hK;rw[lJ,sO (w:=[123]) hv (by decide) (by decide),sO (w:=wi) hv (by decide) (by decide),sO (w:=qh) hv (by decide) (by decide),xy hv _ rfl];simp only[Bool.false_eq_true,and_false,if_false,an];rw[(pz hid _).2.2];rfl
theorem Nx:∀(l:List Md) (d:Cd) (r:List Tk) (K:PR Cd),(∀x∈l,aF x.fl/\gh x=true)->bD (fun f=>fZ f {d with methods:=d.methods++l} r) K->bD (fun f=>fZ f d ((l.map eO).flatten++r)) K
 |[],d,r,K,_,hK=>by simpa using hK
 |x::l,d,r,K,h,hK=>by
  have e1:((x::l).map eO).flatten++r=eO x++((l.map eO).flatten++r):=by simp
  rw[e1];have hx:=h x (bY ..);refine Yv hx.1 hx.2 (Nx l _ r K (fun y hy=>h y (bR _ hy)) ?_);simpa [Cd.addM] using hK
theorem Z9 {d:Cd} {r:List Tk}:bD (fun f=>fZ f d (sg [125]::r)) (.ok (d,r)):=
 b8 (h:=fun _=> .ok (d,r)) (fun f=>by rw[fZ];rfl) (bb _)
/-! Classes. -/
def Ai:List UInt8:=[112,117,98,108,105,99]
def Gm:List UInt8:=[102,105,110,97,108]
def CW:List UInt8:=[97,98,115,116,114,97,99,116]
def wm:List UInt8:=[105,110,116,101,114,102,97,99,101]
def ga:List UInt8:=[101,120,116,101,110,100,115]
def kj:List UInt8:=[105,109,112,108,101,109,101,110,116,115]
def jN:List UInt8:=[99,108,97,115,115]
def iI:List (Int×List UInt8):=[(1,Ai)]
def j1:List (Int×List UInt8):=[(16,Gm),(1024,CW)]
def j8:Nat->List (List UInt8)->List Tk->PR (List (List UInt8))
 |0,_,l=> .error l
 |f+1,acc,l=>if az [44] l=true then an (fy l.tail) fun s r=>j8 f (acc++[s]) r else .ok (acc,l)
def nq (f:Nat) (w:List UInt8) (l:List Tk):PR (List (List UInt8)):=if az w l=true then an (fy l.tail) fun s r=>j8 f [s] r else .ok ([],l)
def pB (f:Nat) (l:List Tk):PR Cd:=
 if az wm (bM iI 0 l).2=true then an (fy (bM iI 0 l).2.tail) fun n r=>an (nq f ga r) fun is r2=>aV [123] r2 fun r3=> .ok (⟨(bM iI 0 l).1+1536,n,lv,is,[],[],[]⟩,r3)
 else aV jN (bM j1 (bM iI 0 l).1 (bM iI 0 l).2).2 fun r=>an (fy r) fun n r2=>aV ga r2 fun r3=>an (fy r3) fun sp r4=>an (nq f kj r4) fun is r5=>aV [123] r5 fun r6=>
  .ok (⟨(bM j1 (bM iI 0 l).1 (bM iI 0 l).2).1,n,sp,is,[],[],[]⟩,r6)
def tZ (f:Nat) (l:List Tk):PR Cd:=an (pB f l) fun d r=>fZ f d r
def kQ:Nat->List Cd->List Tk->PR (List Cd)
 |0,_,l=> .error l
 |f+1,acc,l=>if l=[] then .ok (acc,[]) else an (tZ f l) fun d r=>kQ f (acc++[d]) r
theorem Qr:∀(l acc:List (List UInt8)) (r:List Tk),(∀s∈l,dd s=true)->az [44] r=false->bD (fun f=>j8 f acc ((l.map fun t=>[sg [44],aM t]).flatten++r)) (.ok (acc++l,r))
 |[],acc,r,_,h=>b8 (h:=fun _=> .ok (acc++[],r)) (fun f=>by rw[j8];simp [h]) (bb _)
 |s::l,acc,r,hs,h=>by
  have ih:=Qr l (acc++[s]) r (fun x hx=>hs x (bR _ hx)) h;have e1:((s::l).map fun t=>[sg [44],aM t]).flatten++r=sg [44]::aM s::((l.map fun t=>[sg [44],aM t]).flatten++r):=by simp
  rw[e1];refine b8 (h:=fun f=>j8 f (acc++[s]) ((l.map fun t=>[sg [44],aM t]).flatten++r)) (fun f=> ?_) (by simpa using ih);rw[j8];show an (fy (aM s::((l.map fun t=>[sg [44],aM t]).flatten++r))) _=_;rw[(vM (hs s (bY ..)) _).2.2];rfl
theorem SK {w:List UInt8} (l:List (List UInt8)) (r:List Tk) (hs:∀s∈l,dd s=true) (h:az [44] r=false) (hw:az w r=false):bD (fun f=>nq f w (gD w l++r)) (.ok (l,r)):=by
 cases l with
 |nil=>exact ov (h:=fun _=> .ok ([],r)) (fun f=>by rw[nq];show(if az w r=true then _ else _)=_;rw[hw];rfl) (bb _)
 |cons s l=>
  have e1:gD w (s::l)++r=kw w::aM s::((l.map fun t=>[sg [44],aM t]).flatten++r):=by simp [gD]
  rw[e1];refine ov (h:=fun f=>j8 f [s] ((l.map fun t=>[sg [44],aM t]).flatten++r)) (fun f=> ?_) (Qr l [s] r (fun x hx=>hs x (bR _ hx)) h);rw[nq,Fm];simp only[ao,if_true,List.tail_cons];rw[(vM (hs s (bY ..)) _).2.2];rfl
theorem aej {fl:Int} (hI:aF fl) (h1:fx fl 1537=true) (h2:hasB fl 512=true) (h3:hasB fl 1024=true):fl=1536\/fl=1537:=by
 have hr:=vy (al:=1537) hI (by decide) h1;have gm:∀n:Fin 1538,hasB (n.val:Int) 512=true->hasB (n.val:Int) 1024=true->n.val=1536\/n.val=1537:=by decide+kernel
 have e:fl=(fl.toNat:Int):=by omega
 have:=gm ⟨fl.toNat,by omega⟩;simp only at this;rw[<- e] at this;have:=this h2 h3;omega
theorem ae0 {fl:Int} (hI:aF fl) (h1:fx fl 1041=true) (h2:(hasB fl 16&&hasB fl 1024)=false):fl=0\/fl=1\/fl=16\/fl=17\/fl=1024\/fl=1025:=by
 have hr:=vy (al:=1041) hI (by decide) h1;have gm:∀n:Fin 1042,fx (n.val:Int) 1041=true->(hasB (n.val:Int) 16&&hasB (n.val:Int) 1024)=false->n.val=0\/n.val=1\/n.val=16\/n.val=17\/n.val=1024\/n.val=1025:=by decide+kernel
 have e:fl=(fl.toNat:Int):=by omega
 have:=gm ⟨fl.toNat,by omega⟩;simp only at this;rw[<- e] at this;have:=this h1 h2;omega
theorem aaW {fl:Int} (h:fl=0\/fl=1\/fl=16\/fl=17\/fl=1024\/fl=1025) (X:List Tk):az wm (bM iI 0 (cP fl++kw jN::X)).2=false/\bM j1 (bM iI 0 (cP fl++kw jN::X)).1 (bM iI 0 (cP fl++kw jN::X)).2=(fl,kw jN::X):=by
 have m0:cP 0=[]:=by kernel_rfl
 have m1:cP 1=[kw Ai]:=by kernel_rfl
 have m2:cP 16=[kw Gm]:=by kernel_rfl
 have m3:cP 17=[kw Ai,kw Gm]:=by kernel_rfl
 have m4:cP 1024=[kw CW]:=by kernel_rfl
 have m5:cP 1025=[kw Ai,kw CW]:=by kernel_rfl
 rcases h with rfl |rfl |rfl |rfl |rfl |rfl
 ·rw[m0];exact⟨rfl,rfl⟩
 ·rw[m1];exact⟨rfl,rfl⟩
 ·rw[m2];exact⟨rfl,rfl⟩
 ·rw[m3];exact⟨rfl,rfl⟩
 ·rw[m4];exact⟨rfl,rfl⟩
 ·rw[m5];exact⟨rfl,rfl⟩
theorem aan {fl:Int} (h:fl=1536\/fl=1537) (X:List Tk):bM iI 0 (cP (bits .andNot .i64 fl 1024)++kw wm::X)=(fl - 1536,kw wm::X):=by
 have m0:cP (bits .andNot .i64 1536 1024)=[]:=by kernel_rfl
 have m1:cP (bits .andNot .i64 1537 1024)=[kw Ai]:=by kernel_rfl
 rcases h with rfl |rfl
 ·rw[m0];rfl
 ·rw[m1];rfl
theorem acr {d:Cd} (hI:aF d.fl) (h:im d=true) (r:List Tk):bD (fun f=>pB f (pA d++(sg [123]::r))) (.ok (⟨d.fl,d.name,d.super,d.ifs,[],[],[]⟩,r)):=by
 simp only[im,mg,aD,Bool.not_eq_true',List.any_eq_false] at h;obtain⟨hh,⟨⟨⟨⟨⟨⟨hn,hs⟩,_⟩,wP⟩,_⟩,_⟩,_⟩,_⟩:=h;have wP:∀s∈d.ifs,dd s=true:=fun s hs=>by have:=wP s hs;simpa using this
 by_cases hb:hasB d.fl 512=true
 ·simp only[oF,ah hb,zO,aD,bt] at hh;obtain⟨⟨⟨⟨h1,h2⟩,h3⟩,_⟩,_⟩:=hh;have la:=aej hI h1 hb h2;have e1:pA d++(sg [123]::r)=cP (bits .andNot .i64 d.fl 1024)++kw wm::(aM d.name::(gD ga d.ifs++(sg [123]::r))):=by
   rw[pA,ah hb];show(cP (bits .andNot .i64 d.fl 1024)++[kw wm]++[aM d.name]++gD ga d.ifs)++(sg [123]::r)=_;simp
  rw[e1,h3];refine ov (h:=fun f=>an (nq f ga (gD ga d.ifs++(sg [123]::r))) fun is r2=>aV [123] r2 fun r3=> .ok (⟨d.fl,d.name,lv,is,[],[],[]⟩,r3)) (fun f=> ?_) (dy (SK d.ifs _ wP rfl rfl) (bb _));rw[pB,aan la];show an (fy (aM d.name::(gD ga d.ifs++(sg [123]::r)))) _=_;rw[(vM hn _).2.2];simp only[an];have:d.fl - 1536+1536=d.fl:=by omega
  rw[this]
 ·simp only[oF,af hb,aD,Bool.not_eq_true'] at hh;have la:=ae0 hI hh.1 hh.2;have e1:pA d++(sg [123]::r)=cP d.fl++kw jN::(aM d.name::kw ga::aM d.super::(gD kj d.ifs++(sg [123]::r))):=by
   rw[pA,af hb];show(cP d.fl++[kw jN]++[aM d.name]++[kw ga]++[aM d.super]++gD kj d.ifs)++(sg [123]::r)=_;simp
  have hm:=aaW la (aM d.name::kw ga::aM d.super::(gD kj d.ifs++(sg [123]::r)));rw[e1];refine ov (h:=fun f=>an (nq f kj (gD kj d.ifs++(sg [123]::r))) fun is r2=>aV [123] r2 fun r3=> .ok (⟨d.fl,d.name,d.super,is,[],[],[]⟩,r3)) (fun f=> ?_) (dy (SK d.ifs _ wP rfl rfl) (bb _));rw[pB,hm.1,hm.2];show an (fy (aM d.name::kw ga::aM d.super::(gD kj d.ifs++(sg [123]::r)))) _=_;rw[(vM hn _).2.2];show an (fy (aM d.super::(gD kj d.ifs++(sg [123]::r)))) _=_;rw[(vM hs _).2.2];rfl
theorem aaX {d:Cd} (hw:wA d) (h:im d=true) (r:List Tk):bD (fun f=>tZ f (jt d++r)) (.ok (d,r)):=by
 have e1:jt d++r=pA d++(sg [123]::((d.fields.map pr).flatten++((if 0<d.init.length then[kw [115,116,97,116,105,99]]++bl (be d.init) else[])++((d.methods.map eO).flatten++(sg [125]::r))))):=by
  simp [jt,Fw]
 rw[e1];refine dy (acr hw.1.fl h _) ?_;simp only[im,aD,Bool.not_eq_true',List.any_eq_false] at h;obtain⟨_,⟨⟨_,hf⟩,hm⟩,hi⟩:=h;refine OB d.fields _ _ _ (fun x hx=>⟨(hw.1.fs x hx).fl,by have:=hf x hx;simpa using this⟩) ?_;refine acm hi ?_;refine Nx d.methods _ _ _ (fun x hx=>⟨(hw.2.2 x hx).1.fl,by have:=hm x hx;simpa using this⟩) ?_;simp only[Cd.addI,List.nil_append];exact Z9
theorem aaY (d:Cd) (r:List Tk):jt d++r≠[]:=by
 simp [jt,Fw]
theorem Q2:∀(l acc:List Cd),(∀d∈l,wA d)->(∀d∈l,im d=true)->bD (fun f=>kQ f acc (mh l)) (.ok (acc++l,[]))
 |[],acc,_,_=>b8 (h:=fun _=> .ok (acc++[],[])) (fun f=>by rw[kQ];simp [mh]) (bb _)
 |d::l,acc,hw,hv=>by
  have ih:=Q2 l (acc++[d]) (fun x hx=>hw x (bR _ hx)) (fun x hx=>hv x (bR _ hx));have e1:mh (d::l)=jt d++mh l:=by simp [mh]
  rw[e1];refine b8 (h:=fun f=>an (tZ f (jt d++mh l)) fun d r=>kQ f (acc++[d]) r) (fun f=>by rw[kQ,af (aaY d _)]) (dy (aaX (hw d (bY ..)) (hv d (bY ..)) _) (by simpa using ih))
structure SXs (l:List Tk):Prop where
 block:Tot true (fun f=>dL f l) l
 stmt:Tot true (fun f=>gk f l) l
 stmts:∀acc,Tot true (fun f=>j6 f acc l) l
theorem j4 {α:Type} {x:α} {r:List Tk}:Tot false (fun _=>Except.ok (x,r)) r:=iS _ (List.suffix_refl _) fun h=>by cases h
theorem BQ (l:List Tk):Tot true (fun f=>cw f 0 l) l:=(qd l).expr 0 (by decide)
theorem Td {l:List Tk} (ih:∀r:List Tk,r.length<l.length->SXs r):SXs l:=by
 have SY:Tot true (fun f=>dL f l) l:=by
  refine ky (h:=fun f=>aV [123] l fun r=>j6 f [] r) (fun f=>by rw[dL]) ?_;exact iR (a:=true) fun _ ay=>(ih _ ay).stmts _
 have Lw:∀(l2:List Tk) (k:Nat->Ex->List St->List Tk->PR St),l2.length<l.length->(∀e b r,r.length<l.length->Tot false (fun f=>k f e b r) r)->Tot true (fun f=>an (fj f l2) fun e r=>an (dL f r) fun b r2=>k f e b r2) l2:=fun l2 k h1 h2=>
  cK (b:=true) (qd l2).paren fun e r _ h3=>by
   have:=h3 rfl;exact lZ true (cK (b:=false) (ih r (by omega)).block fun b r2 h4 _=>h2 e b r2 (by have q:=gI h4;omega)) fun _=>rfl
 have TC:Tot true (fun f=>gk f l) l:=by
  refine ky (h:=fun f=>
   if az sd l=true then an (fj f l.tail) fun e r=>an (dL f r) fun b r2=>
    if az pD r2=true then an (dL f r2.tail) fun a r3=> .ok (.mk 4 [] ai zE e b a,r3) else .ok (.mk 4 [] ai zE e b [],r2)
   else if az uB l=true then an (fj f l.tail) fun e r=>an (dL f r) fun b r2=> .ok (.mk 5 [] ai zE e b [],r2)
   else if az tj l=true then
    if az [59] l.tail=true then .ok (.mk 6 [] ai zE zE [] [],l.tail.tail) else an (cw f 0 l.tail) fun e r=>aV [59] r fun r2=> .ok (.mk 6 [] ai zE e [] [],r2)
   else if az uC l=true then an (cw f 0 l.tail) fun e r=>aV [59] r fun r2=> .ok (.mk 7 [] ai zE e [] [],r2)
   else if az uO l=true then an (dL f l.tail) fun b r=>aV na r fun r2=>aV [40] r2 fun r3=>an (eV r3) fun t r4=>an (cY r4) fun s r5=>aV [41] r5 fun r6=>an (dL f r6) fun a r7=> .ok (.mk 8 s t zE zE b a,r7)
   else if az uJ l=true then an (fj f l.tail) fun e r=>an (dL f r) fun b r2=> .ok (.mk 9 [] ai zE e b [],r2)
   else if az [123] l=true then an (dL f l) fun b r=> .ok (.mk 10 [] ai zE zE b [],r)
   else if az rn l=true/\az [40] l.tail=true then an (gB f l.tail) fun es r=>aV [59] r fun r2=> .ok (.mk 11 [] ai zE (.mk 0 0 [] [] ai es) [] [],r2)
   else if lq l=true then an (eV l) fun t r=>an (cY r) fun s r2=>aV [61] r2 fun r3=>an (cw f 0 r3) fun e r4=>aV [59] r4 fun r5=> .ok (.mk 1 s t zE e [] [],r5)
   else an (cw f 0 l) fun e r=>
    if az [61] r=true then an (cw f 0 r.tail) fun x r2=>aV [59] r2 fun r3=> .ok (.mk 2 [] ai e x [] [],r3)
    else aV [59] r fun r2=> .ok (.mk 3 [] ai zE e [] [],r2)) (fun f=>by rw[gk]) ?_
  refine dm (fun h=> ?_) fun _=>dm (fun h=> ?_) fun _=>dm (fun h=> ?_) fun _=>dm (fun h=> ?_) fun _=>dm (fun h=> ?_) fun _=>dm (fun h=> ?_) fun _=>
   dm (fun h=> ?_) fun _=>dm (fun h=> ?_) fun _=>dm (fun h=> ?_) fun _=> ?_
  ·have ay:=ep (cd h);refine kz (cW l) ay (Lw l.tail _ ay fun e b r hr=> ?_);exact dm (fun h2=>rm (cW r) (lZ false (cK (b:=false) (ih _ (by have:=ep (cd h2);omega)).block fun a r3 _ _=>j4) fun h=>by cases h)) fun _=>j4
  ·have ay:=ep (cd h);exact kz (cW l) ay (Lw l.tail _ ay fun e b r hr=>j4)
  ·have ay:=ep (cd h);refine dm (fun h2=>iS _ ((cW _).trans (cW l)) fun _=>by have:=gI (cW l.tail);omega) fun _=> ?_
   exact kz (cW l) ay (cK (b:=true) (BQ _) fun e r _ _=>iR (a:=false) fun _ _=>j4)
  ·have ay:=ep (cd h);exact kz (cW l) ay (cK (b:=true) (BQ _) fun e r _ _=>iR (a:=false) fun _ _=>j4)
  ·have ay:=ep (cd h);refine kz (cW l) ay (cK (b:=true) (ih _ ay).block fun b r h1 _=> ?_);have q1:=gI h1;refine iR (a:=true) fun _ oV=>iR (a:=true) fun _ ck=>cK (b:=true) (xl _) fun t r4 h2 _=> ?_
   have q2:=gI h2;refine cK (b:=true) (sR _) fun s r5 h3 _=> ?_
   have q3:=gI h3;refine iR (a:=true) fun _ hl3=> ?_
   exact cK (b:=false) (ih _ (by omega)).block fun a r7 _ _=>j4
  ·have ay:=ep (cd h);exact kz (cW l) ay (Lw l.tail _ ay fun e b r hr=>j4)
  ·exact cK (b:=false) SY fun b r _ _=>j4
  ·have ay:=ep (cd h.1);exact kz (cW l) ay (cK (b:=true) (qd _).args fun es r _ _=>iR (a:=false) fun _ _=>j4)
  ·refine cK (b:=true) (xl l) fun t r _ _=>cK (b:=true) (sR r) fun s r2 _ _=>iR (a:=true) fun _ _=>cK (b:=true) (BQ _) fun e r4 _ _=>iR (a:=false) fun _ _=>j4
  ·refine cK (b:=true) (BQ l) fun e r _ _=>dm (fun h=> ?_) fun _=>iR (a:=false) fun _ _=>j4
   exact kz (cW r) (ep (cd h)) (cK (b:=true) (BQ _) fun x r2 _ _=>iR (a:=false) fun _ _=>j4)
 have aeo:∀acc,Tot true (fun f=>j6 f acc l) l:=fun acc=>by
  refine ky (h:=fun f=>if az [125] l=true then .ok (acc,l.tail) else an (gk f l) fun s r=>j6 f (acc++[s]) r) (fun f=>by rw[j6]) ?_;refine dm (fun h=>iS _ (cW l) fun _=>ep (cd h)) fun _=> ?_
  exact cK (b:=true) TC fun s r h1 h2=>(ih r (h2 rfl)).stmts _
 exact⟨SY,TC,aeo⟩
theorem R8:∀(N:Nat) (l:List Tk),l.length<=N->SXs l
 |0,l,h=>Td fun r hr=>by omega
 |N+1,l,h=>Td fun r hr=>R8 N r (by omega)
theorem vH (l:List Tk):SXs l:=R8 _ l (au _)
noncomputable def kO (l:List Tk):PR (List St):=jU fun f=>dL f l
noncomputable def zW (l:List Tk):PR St:=jU fun f=>gk f l
noncomputable def BS (acc:List St) (l:List Tk):PR (List St):=jU fun f=>j6 f acc l
theorem sV (l:List Tk):bD (fun f=>dL f l) (kO l):=(vH l).block.lim
theorem Tj (l:List Tk):bD (fun f=>gk f l) (zW l):=(vH l).stmt.lim
theorem Sw (acc:List St) (l:List Tk):bD (fun f=>j6 f acc l) (BS acc l):=((vH l).stmts acc).lim
theorem le0 (l:List Tk):bD (fun f=>cw f 0 l) (dZ 0 l):=uM (n:=0) (by decide) l
theorem YS (l:List Tk):kO l=aV [123] l fun r=>BS [] r:=
 jP (b8 (fun f=>by rw[dL]) (oe (Sw _ _)))
theorem NV (acc:List St) (l:List Tk):BS acc l=(if az [125] l=true then .ok (acc,l.tail) else an (zW l) fun s r=>BS (acc++[s]) r):=
 jP (b8 (fun f=>by rw[j6]) (dC (bb _) (cI (Tj l) fun s r=>Sw _ _)))
theorem p7 (l:List Tk):zW l=
  (if az sd l=true then an (ot l.tail) fun e r=>an (kO r) fun b r2=>
   if az pD r2=true then an (kO r2.tail) fun a r3=> .ok (.mk 4 [] ai zE e b a,r3) else .ok (.mk 4 [] ai zE e b [],r2)
  else if az uB l=true then an (ot l.tail) fun e r=>an (kO r) fun b r2=> .ok (.mk 5 [] ai zE e b [],r2)
  else if az tj l=true then
   if az [59] l.tail=true then .ok (.mk 6 [] ai zE zE [] [],l.tail.tail) else an (dZ 0 l.tail) fun e r=>aV [59] r fun r2=> .ok (.mk 6 [] ai zE e [] [],r2)
  else if az uC l=true then an (dZ 0 l.tail) fun e r=>aV [59] r fun r2=> .ok (.mk 7 [] ai zE e [] [],r2)
  else if az uO l=true then an (kO l.tail) fun b r=>aV na r fun r2=>aV [40] r2 fun r3=>an (eV r3) fun t r4=>an (cY r4) fun s r5=>aV [41] r5 fun r6=>an (kO r6) fun a r7=> .ok (.mk 8 s t zE zE b a,r7)
  else if az uJ l=true then an (ot l.tail) fun e r=>an (kO r) fun b r2=> .ok (.mk 9 [] ai zE e b [],r2)
  else if az [123] l=true then an (kO l) fun b r=> .ok (.mk 10 [] ai zE zE b [],r)
  else if az rn l=true/\az [40] l.tail=true then an (oH l.tail) fun es r=>aV [59] r fun r2=> .ok (.mk 11 [] ai zE (.mk 0 0 [] [] ai es) [] [],r2)
  else if lq l=true then an (eV l) fun t r=>an (cY r) fun s r2=>aV [61] r2 fun r3=>an (dZ 0 r3) fun e r4=>aV [59] r4 fun r5=> .ok (.mk 1 s t zE e [] [],r5)
  else an (dZ 0 l) fun e r=>
   if az [61] r=true then an (dZ 0 r.tail) fun x r2=>aV [59] r2 fun r3=> .ok (.mk 2 [] ai e x [] [],r3)
   else aV [59] r fun r2=> .ok (.mk 3 [] ai zE e [] [],r2)):=
 jP (b8 (fun f=>by rw[gk]) (by
  refine dC ?_ (dC ?_ (dC (dC (bb _) ?_) (dC ?_ (dC ?_ (dC ?_ (dC ?_ (dC ?_ (dC ?_ ?_))))))))
  ·refine cI (xE _) fun e r=>cI (sV _) fun b r2=> ?_
   exact dC (cI (sV _) fun a r3=>bb _) (bb _)
  ·exact cI (xE _) fun e r=>cI (sV _) fun b r2=>bb _
  ·exact cI (le0 _) fun e r=>bb _
  ·exact cI (le0 _) fun e r=>bb _
  ·refine cI (sV _) fun b r=>oe (oe ?_)
   refine cI (bb _) fun t r4=> ?_
   refine cI (bb _) fun s r5=>oe ?_
   exact cI (sV _) fun a r7=>bb _
  ·exact cI (xE _) fun e r=>cI (sV _) fun b r2=>bb _
  ·exact cI (sV _) fun b r=>bb _
  ·exact cI (Cq _) fun es r=>bb _
  ·refine cI (bb _) fun t r=> ?_
   refine cI (bb _) fun s r2=>oe ?_
   exact cI (le0 _) fun e r4=>bb _
  ·refine cI (le0 _) fun e r=> ?_
   exact dC (cI (le0 _) fun x r2=>bb _) (bb _)))
/-! Parameters, members, classes. -/
theorem N6:∀(N:Nat) (acc:List Pc) (l:List Tk),l.length<=N->Tot true (fun f=>jg f acc l) l:=fun N=>by
 induction N with
 |zero=>
  intro acc l h;have hl:l=[]:=List.length_eq_zero_iff.1 (by omega);subst hl;refine ky (h:=fun _=> .error []) (fun f=>by rw[jg];rfl) (BP (List.suffix_refl _))
 |succ N ih=>
  intro acc l h;refine ky (h:=fun f=>if az [44] l=true then an (eV l.tail) fun t r=>an (cY r) fun s r2=>jg f (acc++[⟨t,s⟩]) r2 else aV [41] l fun r=> .ok (acc,r)) (fun f=>by rw[jg]) ?_;refine dm (fun hp=> ?_) fun _=>iR (a:=false) fun _ _=>j4
  have ay:=ep (cd hp);refine kz (cW l) ay (cK (b:=true) (xl _) fun t r h1 _=> ?_);have q1:=gI h1;refine cK (b:=true) (sR _) fun s r2 h2 _=> ?_
  have q2:=gI h2;exact ih _ r2 (by omega)
noncomputable def BY (acc:List Pc) (l:List Tk):PR (List Pc):=jU fun f=>jg f acc l
theorem Sx (acc:List Pc) (l:List Tk):bD (fun f=>jg f acc l) (BY acc l):=(N6 _ acc l (au _)).lim
theorem N7 (acc:List Pc) (l:List Tk):BY acc l=(if az [44] l=true then an (eV l.tail) fun t r=>an (cY r) fun s r2=>BY (acc++[⟨t,s⟩]) r2 else aV [41] l fun r=> .ok (acc,r)):=
 jP (b8 (fun f=>by rw[jg]) (by
  refine dC ?_ (bb _);refine cI (bb _) fun t r=> ?_
  exact cI (bb _) fun s r2=>Sx _ _))
theorem Nw (l:List Tk):Tot true (fun f=>o9 f l) l:=by
 unfold o9;refine iR (a:=false) fun _ _=>dm (fun _=>iS _ (cW _) fun h=>by cases h) fun _=> ?_
 refine lZ false (cK (b:=true) (xl _) fun t r _ _=>cK (b:=true) (sR _) fun s r3 _ _=>N6 _ _ r3 (au _)) fun h=>by cases h
noncomputable def uv (l:List Tk):PR (List Pc):=aV [40] l fun r=>if az [41] r=true then .ok ([],r.tail) else an (eV r) fun t r2=>an (cY r2) fun s r3=>BY [⟨t,s⟩] r3
theorem lparams (l:List Tk):bD (fun f=>o9 f l) (uv l):=by
 unfold o9 uv;refine oe (dC (bb _) ?_);refine cI (bb _) fun t r=> ?_
 exact cI (bb _) fun s r3=>Sx _ _
noncomputable def qi (d:Cd) (fl:Int) (t:Ty) (s:List UInt8) (l:List Tk):PR Cd:=
 an (uv l) fun ps r=>if az [59] r=true then .ok (d.addM ⟨fl,t,s,ps,false,[]⟩,r.tail) else an (kO r) fun b r2=> .ok (d.addM ⟨fl,t,s,ps,true,b⟩,r2)
noncomputable def gz (d:Cd) (fl:Int) (l:List Tk):PR Cd:=
 if fl=8/\az [123] l=true then an (kO l) fun b r=> .ok (d.addI b,r)
 else if az wi l=true then an (uv l.tail) fun ps r=>an (kO r) fun b r2=> .ok (d.addM ⟨fl,eW,eI,ps,true,b⟩,r2)
 else if az qh l=true then an (cY l.tail) fun s r=>qi d fl eW s r
 else an (eV l) fun t r=>an (cY r) fun s r2=>if az [59] r2=true then .ok (d.addF ⟨fl,t,s⟩,r2.tail) else qi d fl t s r2
theorem Tl (d:Cd) (fl:Int) (t:Ty) (s:List UInt8) (l:List Tk):bD (fun f=>oA f d fl t s l) (qi d fl t s l):=by
 unfold oA qi;refine cI (lparams _) fun ps r=>dC (bb _) ?_
 exact cI (sV _) fun b r2=>bb _
theorem Rn (d:Cd) (fl:Int) (l:List Tk):bD (fun f=>lJ f d fl l) (gz d fl l):=by
 unfold lJ gz;refine dC (cI (sV _) fun b r=>bb _) (dC ?_ (dC ?_ ?_))
 ·exact cI (lparams _) fun ps r=>cI (sV _) fun b r2=>bb _
 ·exact cI (bb _) fun s r=>Tl _ _ _ _ _
 ·refine cI (bb _) fun t r=> ?_
  refine cI (bb _) fun s r2=> ?_
  exact dC (bb _) (Tl _ _ _ _ _)
theorem Pe (d:Cd) (fl:Int) (t:Ty) (s:List UInt8) (l:List Tk):Tot true (fun f=>oA f d fl t s l) l:=by
 unfold oA;refine cK (b:=false) (Nw _) fun ps r _ _=>dm (fun _=>iS _ (cW _) fun h=>by cases h) fun _=> ?_
 exact lZ false (cK (b:=false) (vH r).block fun b r2 _ _=>j4) fun h=>by cases h
theorem Nz (d:Cd) (fl:Int) (l:List Tk):Tot true (fun f=>lJ f d fl l) l:=by
 unfold lJ;refine dm (fun _=>cK (b:=false) (vH l).block fun b r _ _=>j4) fun _=>dm (fun h=> ?_) fun _=>dm (fun h=> ?_) fun _=> ?_
 ·exact kz (cW l) (ep (cd h)) (cK (b:=true) (Nw _) fun ps r _ _=>cK (b:=false) (vH r).block fun b r2 _ _=>j4)
 ·exact kz (cW l) (ep (cd h)) (cK (b:=true) (sR _) fun s r _ _=>Pe _ _ _ _ _)
 ·refine cK (b:=true) (xl _) fun t r _ _=>cK (b:=false) (sR _) fun s r2 _ _=> ?_
  exact dm (fun _=>iS _ (cW _) fun h=>by cases h) fun _=>lZ false (Pe _ _ _ _ _) fun h=>by cases h
theorem uk:∀(q:List (Int×List UInt8)) (fl:Int) (l:List Tk),(bM q fl l).2<:+l
 |[],fl,l=>List.suffix_refl _
 |p::q,fl,l=>by
  rw[bM];split
  ·exact(uk q _ _).trans (cW l)
  ·exact uk q _ _
theorem PS:∀(N:Nat) (d:Cd) (l:List Tk),l.length<=N->Tot true (fun f=>fZ f d l) l:=fun N=>by
 have step:∀(d:Cd) (l:List Tk),(∀e (r:List Tk),r.length<l.length->Tot true (fun f=>fZ f e r) r)->Tot true (fun f=>fZ f d l) l:=fun d l ih=>by
  refine ky (h:=fun f=>if az [125] l=true then .ok (d,l.tail) else an (lJ f d (bM bH 0 l).1 (bM bH 0 l).2) fun e r=>fZ f e r) (fun f=>by rw[fZ]) ?_;refine dm (fun h=>iS _ (cW l) fun _=>ep (cd h)) fun _=> ?_
  have hs:=uk bH 0 l;have q:=gI hs;exact rm hs (cK (b:=true) (Nz _ _ _) fun e r _ h2=>ih e r (by have:=h2 rfl;omega))
 induction N with
 |zero=>intro d l h;exact step d l fun e r hr=>by omega
 |succ N ih=>intro d l h;exact step d l fun e r hr=>ih e r (by omega)
noncomputable def Cp (d:Cd) (l:List Tk):PR Cd:=jU fun f=>fZ f d l
theorem Tn (d:Cd) (l:List Tk):bD (fun f=>fZ f d l) (Cp d l):=(PS _ d l (au _)).lim
theorem PT (d:Cd) (l:List Tk):Cp d l=(if az [125] l=true then .ok (d,l.tail) else an (gz d (bM bH 0 l).1 (bM bH 0 l).2) fun e r=>Cp e r):=
 jP (b8 (fun f=>by rw[fZ]) (dC (bb _) (cI (Rn _ _ _) fun e r=>Tn _ _)))
theorem OL:∀(N:Nat) (acc:List (List UInt8)) (l:List Tk),l.length<=N->Tot false (fun f=>j8 f acc l) l:=fun N=>by
 have step:∀(acc:List (List UInt8)) (l:List Tk),(∀a (r:List Tk),r.length<l.length->Tot false (fun f=>j8 f a r) r)->Tot false (fun f=>j8 f acc l) l:=fun acc l ih=>by
  refine ky (h:=fun f=>if az [44] l=true then an (fy l.tail) fun s r=>j8 f (acc++[s]) r else .ok (acc,l)) (fun f=>by rw[j8]) ?_;refine dm (fun h=> ?_) fun _=>j4
  have ay:=ep (cd h);exact rm (cW l) (lZ false (cK (b:=false) (xm _) fun s r h1 _=>ih _ r (by have:=gI h1;omega)) fun h=>by cases h)
 induction N with
 |zero=>intro acc l h;exact step acc l fun a r hr=>by omega
 |succ N ih=>intro acc l h;exact step acc l fun a r hr=>ih a r (by omega)
noncomputable def zP (acc:List (List UInt8)) (l:List Tk):PR (List (List UInt8)):=jU fun f=>j8 f acc l
theorem SC (acc:List (List UInt8)) (l:List Tk):bD (fun f=>j8 f acc l) (zP acc l):=(OL _ acc l (au _)).lim
theorem OM (acc:List (List UInt8)) (l:List Tk):zP acc l=(if az [44] l=true then an (fy l.tail) fun s r=>zP (acc++[s]) r else .ok (acc,l)):=
 jP (b8 (fun f=>by rw[j8]) (by
  refine dC ?_ (bb _)
  exact cI (bb _) fun s r=>SC _ _))
noncomputable def jI (w:List UInt8) (l:List Tk):PR (List (List UInt8)):=if az w l=true then an (fy l.tail) fun s r=>zP [s] r else .ok ([],l)
theorem TV (w:List UInt8) (l:List Tk):bD (fun f=>nq f w l) (jI w l):=by
 unfold nq jI;refine dC ?_ (bb _);exact cI (bb _) fun s r=>SC _ _
theorem Rv (w:List UInt8) (l:List Tk):Tot false (fun f=>nq f w l) l:=by
 unfold nq;refine dm (fun h=> ?_) fun _=>j4
 exact rm (cW l) (lZ false (cK (b:=false) (xm _) fun s r _ _=>OL _ _ r (au _)) fun h=>by cases h)
noncomputable def nL (l:List Tk):PR Cd:=
 if az wm (bM iI 0 l).2=true then an (fy (bM iI 0 l).2.tail) fun n r=>an (jI ga r) fun is r2=>aV [123] r2 fun r3=> .ok (⟨(bM iI 0 l).1+1536,n,lv,is,[],[],[]⟩,r3)
 else aV jN (bM j1 (bM iI 0 l).1 (bM iI 0 l).2).2 fun r=>an (fy r) fun n r2=>aV ga r2 fun r3=>an (fy r3) fun sp r4=>an (jI kj r4) fun is r5=>aV [123] r5 fun r6=>
  .ok (⟨(bM j1 (bM iI 0 l).1 (bM iI 0 l).2).1,n,sp,is,[],[],[]⟩,r6)
theorem agf (l:List Tk):bD (fun f=>pB f l) (nL l):=by
 unfold pB nL;refine dC ?_ (oe ?_)
 ·refine cI (bb _) fun n r=> ?_
  exact cI (TV _ _) fun is r2=>bb _
 ·refine cI (bb _) fun n r2=>oe ?_
  refine cI (bb _) fun sp r4=> ?_
  exact cI (TV _ _) fun is r5=>bb _
theorem aaq (l:List Tk):Tot true (fun f=>pB f l) l:=by
 unfold pB;have s1:=uk iI 0 l;have s2:=(uk j1 (bM iI 0 l).1 (bM iI 0 l).2).trans s1;refine dm (fun h=>rm s1 ?_) fun _=>rm s2 ?_
 ·exact kz (cW _) (ep (cd h)) (cK (b:=true) (xm _) fun n r _ _=>cK (a:=false) (b:=true) (Rv _ _) fun is r2 _ _=>iR (a:=false) fun _ _=>j4)
 ·exact iR (a:=true) fun _ _=>cK (b:=true) (xm _) fun n r2 _ _=>iR (a:=true) fun _ _=>cK (b:=true) (xm _) fun sp r4 _ _=>cK (a:=false) (b:=true) (Rv _ _) fun is r5 _ _=>iR (a:=false) fun _ _=>j4
noncomputable def DE (l:List Tk):PR Cd:=an (nL l) fun d r=>Cp d r
theorem UC (l:List Tk):bD (fun f=>tZ f l) (DE l):=cI (agf l) fun d r=>Tn d r
theorem S5 (l:List Tk):Tot true (fun f=>tZ f l) l:=cK (b:=true) (aaq l) fun d r _ _=>PS _ d r (au _)
theorem Pm:∀(N:Nat) (acc:List Cd) (l:List Tk),l.length<=N->Tot false (fun f=>kQ f acc l) l:=fun N=>by
 have step:∀(acc:List Cd) (l:List Tk),(∀a (r:List Tk),r.length<l.length->Tot false (fun f=>kQ f a r) r)->Tot false (fun f=>kQ f acc l) l:=fun acc l ih=>by
  refine ky (h:=fun f=>if l=[] then .ok (acc,[]) else an (tZ f l) fun d r=>kQ f (acc++[d]) r) (fun f=>by rw[kQ]) ?_;refine dm (fun h=>iS _ (by rw[h];exact List.suffix_refl _) fun h=>by cases h) fun _=> ?_
  exact lZ false (cK (b:=false) (S5 l) fun d r _ h2=>ih _ r (h2 rfl)) fun h=>by cases h
 induction N with
 |zero=>intro acc l h;exact step acc l fun a r hr=>by omega
 |succ N ih=>intro acc l h;exact step acc l fun a r hr=>ih a r (by omega)
noncomputable def kR (acc:List Cd) (l:List Tk):PR (List Cd):=jU fun f=>kQ f acc l
theorem FG (acc:List Cd) (l:List Tk):bD (fun f=>kQ f acc l) (kR acc l):=(Pm _ acc l (au _)).lim
theorem Pq (acc:List Cd) (l:List Tk):kR acc l=(if l=[] then .ok (acc,[]) else an (DE l) fun d r=>kR (acc++[d]) r):=
 jP (b8 (fun f=>by rw[kQ]) (dC (bb _) (cI (UC l) fun d r=>FG _ _)))
theorem Fv (ts:List Tk) (i:Nat):fD ts i=(ts.drop i).headD zT:=by
 rw[fD,List.getD_eq_getElem?_getD,List.headD_eq_head?_getD,List.head?_drop]
theorem xr (ts:List Tk) (i:Nat):gO (ts.drop i)=(fD ts i).k:=by
 rw[Fv];cases ts.drop i<;>rfl
theorem uA (ts:List Tk) (i:Nat):j3 (ts.drop i)=(fD ts i).s:=by
 rw[Fv];cases ts.drop i<;>rfl
theorem acs (ts:List Tk) (i:Nat):sC (ts.drop i)=(fD ts i).n:=by
 rw[Fv];cases ts.drop i<;>rfl
theorem aw (ts:List Tk) (i:Nat) (w:List UInt8):bu ts i w=az w (ts.drop i):=by
 rw[bu,Fv];cases ts.drop i with
 |nil=>simp [zT,az]
 |cons t r=>rfl
def tu (en:Int):List Tk->Int
 |[]=>en
 |t::_=>t.at_
structure Inv (ts:List Tk) (s:PSt):Prop where
 le:s.i<=ts.length
 fl:s.fl=true->s.i=ts.length
structure Res {α:Type} (ts:List Tk) (en:Int) (s:PSt) (K:PR α) (a:α) (s' :PSt):Prop where
 inv:Inv ts s'
 mono:s.i<=s'.i
 fl:s.fl=true->s' =s
 ok:s.fl=false->∀x r,K= .ok (x,r)->a=x/\s'.fl=false/\r=ts.drop s'.i
 er:s.fl=false->∀r,K= .error r->s'.fl=true/\s'.off=tu en r
def ba (ts:List Tk) (en:Int) (s:PSt) (w:List UInt8):PSt:=if bu ts s.i w=true then s.next else kA ts en s
section
variable {ts:List Tk} {en:Int} {s s1 s' :PSt} {α β:Type}
theorem Js {i:Nat} (h:ts.length<=i):fD ts i=zT:=by rw[fD,List.getD_eq_getElem?_getD,List.getElem?_eq_none h];rfl
theorem Jr {i:Nat} (h:i<ts.length):fD ts i=ts[i]:=by rw[fD,List.getD_eq_getElem?_getD,List.getElem?_eq_getElem h];rfl
theorem Inv.nfl (h:Inv ts s) (hi:s.i<ts.length):s.fl=false:=by
 cases e:s.fl with
 |false=>rfl
 |true=>have:=h.fl e;omega
theorem Inv.next (h:Inv ts s) (hi:s.i<ts.length):Inv ts s.next:=⟨hi,fun e=>by
 have:=h.nfl hi;have e:s.fl=true:=e
 rw[this] at e;cases e⟩
theorem Ot (h:Inv ts s):Inv ts (kA ts en s):=by
 unfold kA;split
 ·exact h
 ·exact⟨au _,fun _=>rfl⟩
theorem IV (h:Inv ts s):s.i<=(kA ts en s).i:=by
 unfold kA;split
 ·exact au _
 ·exact h.le
theorem Bv (s:PSt):(kA ts en s).fl=true:=by
 unfold kA;split
 ·assumption
 ·rfl
theorem NF (h:s.fl=true):kA ts en s=s:=by rw[kA,ah h]
theorem OC (h:s.fl=false):(kA ts en s).off=tu en (ts.drop s.i):=by
 rw[kA,af (by rw[h];decide)];show(if _ then _ else _)=_;split
 ·rename_i hi;rw[Jr hi,List.drop_eq_getElem_cons hi];rfl
 ·rename_i hi;rw[List.drop_eq_nil_of_le (by omega)];rfl
theorem cJ (a:α) (hs:Inv ts s):Res ts en s (.ok (a,ts.drop s.i)) a s:=
 ⟨hs,au _,fun _=>rfl,fun h x r e=>by cases e;exact⟨rfl,h,rfl⟩,fun _ r e=>by cases e⟩
theorem EB (a:α) (hs:Inv ts s):Res ts en s (.error (ts.drop s.i)) a (kA ts en s):=
 ⟨Ot hs,IV hs,NF,fun _ x r e=>by(cases e),fun h r e=>by cases e;exact⟨Bv s,OC h⟩⟩
theorem aX {K1:PR α} {K2:α->List Tk->PR β} {a:α} {b:β} (h1:Res ts en s K1 a s1) (h2:Res ts en s1 (K2 a (ts.drop s1.i)) b s'):Res ts en s (an K1 K2) b s' :=by
 refine⟨h2.inv,cZ h1.mono h2.mono,fun h=> ?_,fun h x r e=> ?_,fun h r e=> ?_⟩
 ·have:=h1.fl h;subst this;exact h2.fl h
 ·cases hK:K1 with
  |error r1=>rw[hK] at e;cases e
  |ok p=>
   obtain⟨x1,r1⟩:=p;obtain⟨rfl,q2,rfl⟩:=h1.ok h x1 r1 hK;rw[hK] at e;exact h2.ok q2 x r e
 ·cases hK:K1 with
  |error r1=>
   rw[hK] at e;cases e;obtain⟨q1,q2⟩:=h1.er h _ hK;have:=h2.fl q1;subst this;exact⟨q1,q2⟩
  |ok p=>
   obtain⟨x1,r1⟩:=p;obtain⟨rfl,q2,rfl⟩:=h1.ok h x1 r1 hK;rw[hK] at e;exact h2.er q2 r e
theorem fA {w:List UInt8} (h:Inv ts s):Inv ts (ba ts en s w):=by
 unfold ba;split
 ·rename_i e;exact h.next (bC e)
 ·exact Ot h
theorem gQ {w:List UInt8} (h:Inv ts s):s.i<=(ba ts en s w).i:=by
 unfold ba;split
 ·exact Nat.le_succ _
 ·exact IV h
theorem ct {K:PR α} {a:α} (hs:Inv ts s) (hi:s.i<ts.length) (h:Res ts en s.next K a s'):Res ts en s K a s' :=by
 have hf:=hs.nfl hi;exact⟨h.inv,cZ (Nat.le_succ _) h.mono,fun e=>(by rw[hf] at e;cases e),fun e=>h.ok e,fun e=>h.er e⟩
theorem b7 (ts:List Tk) (s:PSt):ts.drop s.next.i=(ts.drop s.i).tail:=by
 rw[List.tail_drop];rfl
theorem abK {k:List Tk->PR α} {a:α} (hs:Inv ts s) (hi:s.i<ts.length) (h:Res ts en s.next (k (ts.drop s.next.i)) a s'):Res ts en s (k (ts.drop s.i).tail) a s' :=by
 rw[<- b7];exact ct hs hi h
theorem dX {k:List Tk->PR α} {a:α} {w:List UInt8} (hs:Inv ts s) (h:Res ts en (ba ts en s w) (k (ts.drop (ba ts en s w).i)) a s'):Res ts en s (aV w (ts.drop s.i) k) a s' :=by
 unfold aV;rw[<- aw];unfold ba at h;by_cases hc:bu ts s.i w=true
 ·rw[ah hc] at h ⊢;exact abK hs (bC hc) h
 ·rw[af hc] at h ⊢;refine⟨h.inv,cZ (IV hs) h.mono,fun e=> ?_,fun _ x r e=>by(cases e),fun e r e2=> ?_⟩
  ·rw[NF e] at h;exact h.fl e
  ·cases e2;have:=h.fl (Bv s);rw[this];exact⟨Bv s,OC e⟩
end
theorem Io:∀(f g:Nat) (t:Ty) (l:List Tk),l.length<=f->l.length<=g->jF f t l=jF g t l
 |0,0,_,_,_,_=>rfl
 |0,g+1,t,l,h,_=>by
  have hl:l=[]:=List.length_eq_zero_iff.1 (by omega);subst hl;rw[jF,jF];rfl
 |f+1,0,t,l,_,h=>by
  have hl:l=[]:=List.length_eq_zero_iff.1 (by omega);subst hl;rw[jF,jF];rfl
 |f+1,g+1,t,l,h1,h2=>by
  rw[jF,jF];by_cases h:az [91] l=true
  ·rw[ah h,ah h];unfold aV;have q1:=ep (cd h);have q2:=gI (cW l.tail);dsimp only;rw[Io f g t.up l.tail.tail (by omega) (by omega)]
  ·rw[af h,af h]
theorem IJ:∀(f g:Nat) (t:Ty) (l:List Tk),l.length<=f->l.length<=g->iF f t l=iF g t l
 |0,0,_,_,_,_=>rfl
 |0,g+1,t,l,h,_=>by
  have hl:l=[]:=List.length_eq_zero_iff.1 (by omega);subst hl;rw[iF,iF];rfl
 |f+1,0,t,l,_,h=>by
  have hl:l=[]:=List.length_eq_zero_iff.1 (by omega);subst hl;rw[iF,iF];rfl
 |f+1,g+1,t,l,h1,h2=>by
  rw[iF,iF];by_cases h:az [93] l=true
  ·rw[ah h,ah h];unfold aV;have q1:=ep (cd h);have q2:=gI (cW l.tail);dsimp only;rw[IJ f g t.up l.tail.tail (by omega) (by omega)]
  ·rw[af h,af h]
def Af (t:Ty) (l:List Tk):PR Ty:=jF l.length t l
def xW (t:Ty) (l:List Tk):PR Ty:=iF l.length t l
theorem Ql (t:Ty) (l:List Tk):Af t l=(if az [91] l=true then aV [93] l.tail fun r=>Af t.up r else .ok (t,l)):=by
 rw[Af,Io l.length (l.length+1) t l (au _) (by omega),jF];by_cases h:az [91] l=true
 ·rw[ah h,ah h];unfold aV;have q1:=gI (cW l);have q2:=gI (cW l.tail);dsimp only;rw[Af,Io l.length l.tail.tail.length t.up l.tail.tail (by omega) (au _)]
 ·rw[af h,af h]
theorem E4 (t:Ty) (l:List Tk):xW t l=(if az [93] l=true then aV [91] l.tail fun r=>xW t.up r else .ok (t,l)):=by
 rw[xW,IJ l.length (l.length+1) t l (au _) (by omega),iF];by_cases h:az [93] l=true
 ·rw[ah h,ah h];unfold aV;have q1:=gI (cW l);have q2:=gI (cW l.tail);dsimp only;rw[xW,IJ l.length l.tail.tail.length t.up l.tail.tail (by omega) (au _)]
 ·rw[af h,af h]
section
variable {t:Tk} {a b:List Tk}
def Sf {α:Type} (g:List Tk->PR α):Prop:=∀l,Good false l (g l)
end
theorem adF (l:List Tk):eV l=an (jl l) fun t r=>Af t r:=rfl
end Go.Proofs.YtimddhkipjedcaaGreatDoor.E
namespace Go.Proofs.YtimddhkipjedcaaGreatDoor.E
open Go Go.RowKit
theorem Yp (s:List UInt8) (c:UInt8) (m:Mem):FnH Tryz.prog 228 [.v (.string (bs s)),.v (.string (bs [c]))] ⟨[],[]⟩ m fun r H' _=>r= .v (.bool (s.contains c))/\H' =⟨[],[]⟩:=by
 refine(FA (args:=[.string (bs s),.string (bs [c])]) (R:=fun y=>y= .bool (s.contains c)) fun w D kI hle=> ?_).mono ?_
 ·refine(Tryz.strings_Contains_one (bs s) c w).mono ?_;rintro e w' ⟨rfl,rfl⟩;refine⟨_,rfl,?_,Below.refl _ _⟩;rw[Lib.contains_iff_indexByte];rfl
 ·rintro r H' m' hm ⟨⟨y,rfl,rfl⟩,h1,h2⟩;exact⟨rfl,h1⟩
section
variable {P:Program} {cfg:Cfg}
def uH (V:Vl) (b:Bx):Bx:=⟨b.id,b.ty,b.cs.map fun s=> .v (bK V s)⟩
theorem Qc (V:Vl) (l:List SV):(l.map fun s=>SV.v (bK V s)).map (bK V)=l.map (bK V):=by
 induction l with
 |nil=>rfl
 |cons s r ih=>simp only[bN,ih];rfl
theorem PG {nid:Nat} {vc:List Vc} {V:Vl}:∀l:List SV,fO nid vc (l.map fun s=>SV.v (bK V s))
 |[]=>trivial
 |s::r=>⟨trivial,PG r⟩
theorem Qb (V:Vl):∀l:List Bx,(l.map (uH V)).map (fun b=>V.β b.id)=l.map (fun b=>V.β b.id)
 |[]=>rfl
 |b::r=>by simp only[bN,Qb V r];rfl
theorem It (V:Vl) (H:Hp):bq V ⟨H.bx.map (uH V),H.vc⟩=bq V H:=by
 unfold bq;rw[Qb]
theorem Y5 {V:Vl} {D:Nat->Nat} {w:World} {H:Hp} (h:HSat V D w H):HSat V D w ⟨H.bx.map (uH V),H.vc⟩:=by
 refine⟨fun b hb=> ?_,h.vc,?_,h.uniq⟩
 ·obtain⟨b0,h0,rfl⟩:=List.mem_map.1 hb;obtain⟨⟨o,h1,h2⟩,h3⟩:=h.bx b0 h0;refine⟨⟨o,h1,?_⟩,h3⟩;show ni b0.ty ((b0.cs.map fun s=>SV.v (bK V s)).map (bK V)) o;rw[Qc];exact h2
 ·rw[It];exact h.apart
theorem WJ {V:Vl} {D:Nat->Nat} {w:World} {H:Hp} (h:HSat V D w ⟨H.bx.map (uH V),H.vc⟩):HSat V D w H:=by
 refine⟨fun b hb=> ?_,h.vc,?_,h.uniq⟩
 ·obtain⟨⟨o,h1,h2⟩,h3⟩:=h.bx (uH V b) (List.mem_map.2 ⟨b,hb,rfl⟩);refine⟨⟨o,h1,?_⟩,h3⟩;have G2:ni b.ty ((b.cs.map fun s=>SV.v (bK V s)).map (bK V)) o:=h2;rw[Qc] at G2;exact G2
 ·have:=h.apart;rw[It] at this;exact this
theorem OR {V:Vl} {H H2:Hp} (hb:H2.bx.Sublist H.bx) (hv:H2.vc.Sublist H.vc):(bq V H2).Sublist (bq V H):=by
 unfold bq;exact(hb.map _).append (hv.filterMap _)
theorem Y4 {V:Vl} {D:Nat->Nat} {w:World} {H H2:Hp} (h:HSat V D w H) (hb:H2.bx.Sublist H.bx) (hv:H2.vc.Sublist H.vc):HSat V D w H2:=
 ⟨fun b h0=>h.bx b (hb.subset h0),fun b h0=>h.vc b (hv.subset h0),h.apart.sublist (OR hb hv),h.uniq.sublist (hv.map _)⟩
theorem R0 {f:FuncId} {args:List SV} {H:Hp} {m:Mem} {R R' :SV->Hp->Mem->Prop} (h:FnH P f args H m R)
  (hR:∀r H' m',m.le m' ->R r H' m' ->R' r H' m' \/∃(g:SV->SV) (k u:Nat) (b:Vc) (H2:Hp),eU H'.vc k u=some b/\r=g (.vec k u)/\
   (∀(V:Vl) (v:Value),(V.γ k u).val=v->den V (g (.vec k u))=den V (g (.v v)))/\H2.bx.Sublist H'.bx/\H2.vc.Sublist H'.vc/\
   ∀(a:Option Addr) (c:Nat) (m1:Mem),m'.le m1->b.n<=c->aZ m1 a b.n b.sz b.xs->R' (g (.v (.slice a b.n c))) H2 m1):FnH P f args H m R' :=by
 intro V w D kI hle hH;refine(h V w D kI hle hH).mono ?_;rintro e w' ⟨r,V',D',H',m',e1,e2,e3,e4,e5,e6,e7,e8,e9,jc,lW⟩;rcases hR r H' m' e9 lW with hr |⟨g,k,u,b,H2,hb,rfl,hg,s1,s2,hK⟩
 ·exact⟨r,V',D',H',m',e1,e2,e3,e4,e5,e6,e7,e8,e9,jc,hr⟩
 ·have hW:SatW ⟨w,D,(· ∈bq V H),⟨[],[]⟩,V',m⟩ (H'.bx.map (uH V')) H'.vc (max (nQ (H'.bx.map (uH V'))) (nP H'.vc)) m' V' D' w' :=by
   refine⟨Y5 e3,e2,e6,fun x hx=> ?_,fun x hx=>(by cases hx),fun x hx=>(by cases hx),⟨fun x hx=>⟨?_,?_⟩,fun x hx=> ?_⟩,e8,e9,jc⟩
   ·rw[It] at hx;exact e7 x hx
   ·exact eM (E0 hx) (Nat.le_max_left _ _)
   ·obtain⟨b0,_,rfl⟩:=List.mem_map.1 hx;exact PG _
   ·exact eM (EY hx) (Nat.le_max_right _ _)
  obtain⟨a,c,m1,D2,q1,q2,q3,q4,q5⟩:=SatW.pub (st:=⟨[],[],H'.bx.map (uH V'),H'.vc,max (nQ (H'.bx.map (uH V'))) (nP H'.vc),m'⟩) hW hb;have hS:=Y4 (WJ q5.heap) s1 s2;refine⟨g (.v (.slice a b.n c)),V',D2,H2,m1,?_,q5.wf,hS,e4,e5,q5.frm,fun x hx=>e7 x ((OR s1 s2).subset hx),q5.le0,q5.m0,q5.mle,hK a c m1 q1 q2 q3⟩;rw[e1,hg V' _ q4]
def Up (R' :SV->Hp->Mem->Prop) (r:SV) (H' :Hp) (m' :Mem):Prop:=∃H2:Hp,(rZ ⟨[],[],H'.bx,H'.vc,0,m'⟩ H2.bx/\rY ⟨[],[],H'.bx,H'.vc,0,m'⟩ H2.vc)/\R' r H2 m'
theorem adr {f:FuncId} {args:List SV} {H:Hp} {m:Mem} {R' :SV->Hp->Mem->Prop} (h:FnH P f args H m (Up R')):FnH P f args H m R' :=by
 intro V w D kI hle hH;refine(h V w D kI hle hH).mono ?_;rintro e w' ⟨r,V',D',H',m',e1,e2,e3,e4,e5,e6,e7,e8,e9,jc,H2,⟨hb,hv⟩,hr⟩;obtain⟨sD,hbu⟩:=Jg hb;obtain⟨gu,hvu⟩:=Jf hv;have ya:=List.nodup_append.1 e3.apart;refine⟨r,V',D',H2,m',e1,e2,⟨fun b hb=>e3.bx b (sD b hb),fun b hb=>e3.vc b (gu b hb),?_,hvu⟩,e4,e5,e6,fun b hb=>e7 b (EN sD gu b hb),e8,e9,jc,hr⟩;refine List.nodup_append.2 ⟨?_,?_,fun x hx y hy=> ?_⟩
 ·exact Ig hbu fun x hx y hy e=>Ic ya.1 x (sD x hx) y (sD y hy) e
 ·exact G9 hvu fun x hx y hy b e1 e2=>ER (gu x hx) (gu y hy) e1 e2 ya.2.1
 ·refine ya.2.2 x ?_ y ?_
  ·obtain⟨z,hz,e⟩:=List.mem_map.1 hx;exact List.mem_map.2 ⟨z,sD z hz,e⟩
  ·obtain⟨z,hz,e⟩:=List.mem_filterMap.1 hy;exact List.mem_filterMap.2 ⟨z,gu z hz,e⟩
def Gp (R' :SV->Hp->Mem->Prop) (r:SV) (H' :Hp) (m' :Mem):Prop:=R' r H' m' \/∃(g:SV->SV) (k u:Nat) (b:Vc) (H2:Hp),eU H'.vc k u=some b/\r=g (.vec k u)/\
 (∀(V:Vl) (v:Value),(V.γ k u).val=v->den V (g (.vec k u))=den V (g (.v v)))/\H2.bx.Sublist H'.bx/\H2.vc.Sublist H'.vc/\
 ∀(a:Option Addr) (c:Nat) (m1:Mem),m'.le m1->b.n<=c->aZ m1 a b.n b.sz b.xs->R' (g (.v (.slice a b.n c))) H2 m1
theorem ph {f:FuncId} {args:List SV} {H:Hp} {m:Mem} {R' :SV->Hp->Mem->Prop} (h:FnH P f args H m (Gp R')):FnH P f args H m R' :=
 R0 h fun _ _ _ _ hr=>hr
theorem BC {R' :SV->Hp->Mem->Prop} {H' :Hp} {m' :Mem} {k u:Nat} {b:Vc} (hb:eU H'.vc k u=some b) (H2:Hp) (s1:H2.bx.Sublist H'.bx) (s2:H2.vc.Sublist H'.vc)
  (h:∀(a:Option Addr) (c:Nat) (m1:Mem),m'.le m1->b.n<=c->aZ m1 a b.n b.sz b.xs->R' (.v (.slice a b.n c)) H2 m1):Gp R' (.vec k u) H' m' :=
 .inr ⟨id,k,u,b,H2,hb,rfl,fun _ _ h=>h,s1,s2,h⟩
theorem QK {V:Vl} {v:Value}:∀{cs:List SV} {i k u:Nat},cs[i]? =some (.vec k u)->(V.γ k u).val=v->(cs.set i (.vec k u)).map (bK V)=(cs.set i (.v v)).map (bK V)
 |c::r,0,k,u,h,e=>by
  show bK V (.vec k u)::_=v::_;rw[<- e];rfl
 |c::r,i+1,k,u,h,e=>by
  simp only[List.set_cons_succ,bN];rw[QK (cs:=r) (i:=i) (by simpa using h) e]
theorem rk {R' :SV->Hp->Mem->Prop} {H' :Hp} {m' :Mem} {cs:List SV} {k u:Nat} {b:Vc} (i:Nat) (hi:cs[i]? =some (.vec k u)) (hb:eU H'.vc k u=some b) (H2:Hp) (s1:H2.bx.Sublist H'.bx) (s2:H2.vc.Sublist H'.vc)
  (h:∀(a:Option Addr) (c:Nat) (m1:Mem),m'.le m1->b.n<=c->aZ m1 a b.n b.sz b.xs->R' (.agg (cs.set i (.v (.slice a b.n c)))) H2 m1):Gp R' (.agg cs) H' m' :=by
 refine .inr ⟨fun z=> .agg (cs.set i z),k,u,b,H2,hb,?_,fun V v e=> ?_,s1,s2,h⟩
 ·obtain⟨hl,he⟩:=List.getElem?_eq_some_iff.1 hi;simp only[<- he,List.set_getElem_self]
 ·show Value.agg ⟨_⟩=Value.agg ⟨_⟩;rw[QK hi e]
def zY (k:Nat) (K:LS->Prop) (st:LS):Prop:=
 aP (.mk (k:=fun b:Bx=>mB (.mk (k:=fun dH ak=>fO ak.nid ak.vc dH/\K ⟨ak.env,ak.rho,kT ak.bx k dH,ak.vc,ak.nid,ak.m⟩) (st,b.cs))) (iv st.bx k))
theorem Ym {k:Nat} {K:LS->Prop} {st:LS}:zY k K st=
  aP (.mk (k:=fun b:Bx=>mB (.mk (k:=fun dH ak=>fO ak.nid ak.vc dH/\K ⟨ak.env,ak.rho,kT ak.bx k dH,ak.vc,ak.nid,ak.m⟩) (st,b.cs))) (iv st.bx k)):=rfl
theorem Bq {k:Nat} {cs:List SV}:∀bx:List Bx,(kT bx k cs).map (·.id)=bx.map (·.id)
 |[]=>rfl
 |⟨k',t',dH⟩::r=>by
  simp only[kT];split
  ·rfl
  ·simp only[bN,Bq r]
theorem Bp {k:Nat} {cs:List SV}:∀{bx:List Bx} {b:Bx},b∈kT bx k cs->b∈bx\/∃b0,b0∈bx/\iv bx k=some b0/\b=⟨b0.id,b0.ty,cs⟩
 |⟨k',t',dH⟩::r,b,h=>by
  simp only[kT] at h;split at h
  ·rename_i e;rcases List.mem_cons.1 h with rfl |h
   ·refine .inr ⟨⟨k',t',dH⟩,bY ..,?_,rfl⟩;simp only[iv,ah e]
   ·exact .inl (bR _ h)
  ·rename_i e;rcases List.mem_cons.1 h with rfl |h
   ·exact .inl (bY ..)
   ·rcases Bp h with h |⟨b0,h1,h2,h3⟩
    ·exact .inl (bR _ h)
    ·refine .inr ⟨b0,bR _ h1,?_,h3⟩;simp only[iv,af e];exact h2
theorem acb {V:Vl} {l l' :List Bx} (h:l'.map (·.id)=l.map (·.id)):l'.map (fun b=>V.β b.id)=l.map (fun b=>V.β b.id):=by
 have:=congrArg (List.map V.β) h;simpa only[List.map_map,Function.comp_def] using this
theorem EO {V:Vl} {bx qS:List Bx} {vc:List Vc} (h:qS.map (·.id)=bx.map (·.id)):bq V ⟨qS,vc⟩=bq V ⟨bx,vc⟩:=by
 unfold bq;simp only[acb h]
theorem Wu {C:Ctx} {n:Nat} {st:LS} {a:Act} {w:World} {k:Nat} {K:LS->Prop} (hE:kn C n st a w) (h:zY k K st):∃ak,kn C n ak a w/\K ak:=by
 obtain⟨gE,V,D,hS⟩:=hE;unfold zY at h;obtain⟨b,hb,h⟩:=aO h;obtain⟨dH,m1,D1,⟨ho,hK⟩,hW,hd,_⟩:=qU (st:=st) b.cs _ st.m D h hS.w;have eY:=(uz hb).2;refine⟨⟨st.env,st.rho,kT st.bx k dH,st.vc,st.nid,m1⟩,⟨gE,V,D1,⟨hS.f,hS.ids,⟨⟨fun x hx=> ?_,hW.heap.vc,?_,hW.heap.uniq⟩,hW.wf,hW.frm,?_,hW.baseB,hW.baseV,⟨fun x hx=> ?_,hW.ids.2⟩,hW.le0,hW.m0,hW.mle⟩⟩⟩,hK⟩
 ·rcases Bp hx with hx |⟨b0,h1,h2,rfl⟩
  ·exact hW.heap.bx x hx
  ·have e:b0=b:=by rw[h2] at hb;exact Option.some.inj hb
   subst e;obtain⟨⟨o,q1,q2⟩,q3⟩:=hW.heap.bx b0 h1;refine⟨⟨o,q1,?_⟩,q3⟩;show ni b0.ty (dH.map (bK V)) o;rw[hd];exact q2
 ·rw[EO (Bq st.bx)];exact hW.heap.apart
 ·rw[EO (Bq st.bx)];exact hW.own
 ·rcases Bp hx with hx |⟨b0,h1,h2,rfl⟩
  ·exact hW.ids.1 x hx
  ·exact⟨(hW.ids.1 b0 h1).1,ho⟩
theorem abf (ef:dt cfg P) {n:Nat} {st:LS} {body:Code} {Q:Exit->LS->Prop} {X:Type} (T:(LS->Prop)->LS->Prop) (hT:∀(K:LS->Prop) (C:Ctx) (st:LS) (a:Act) (w:World),kn C n st a w->T K st->∃ak,kn C n ak a w/\K ak) (S:X->LS) (I:X->Prop) (μ:X->Nat)
  (hd:jk n body=true) (hn:∀x,I x->st.nid<=(S x).nid) (hm:∀x,I x->ae st.m (S x).m) (ar:∀x,pL (S x)) (h0:T (fun ak=>∃x,Match ak (S x)/\I x) st)
  (round:∀x,I x->eb (.mk (k:=(cfg,P,n,body,j9 (T fun ak=>∃x',Match ak (S x')/\I x' /\μ x' <μ x) Q)) (S x))):kv (.mk (k:=(P,n,.loop body,Q)) st):=by
 rintro C a w ⟨gE,V,D,hS⟩;have hB:∀b∈C.H0.bx,b.id<st.nid:=fun b hb=>(hS.w.baseB b hb).2
 have hV:∀b∈C.H0.vc,b.id<st.nid:=fun b hb=>(hS.w.baseV b hb).2.1
 have Dm:∀x,I x->C.m0.le (S x).m:=fun x hx=>by
  rcases hm x hx with e |h
  ·rw[<- e];exact hS.w.m0
  ·exact Mem.le_trans hS.w.m0 h
 have wb:∀(lR:LS) (a1:Act) (w1:World) (x:X),kn C n lR a1 w1->Match lR (S x)->I x->kn C n (S x) a1 w1:=by
  rintro lR a1 w1 x ⟨_,V1,D1,hS1⟩ hM hx;exact⟨hM.2.1,V1,D1,hS1.weaken hM (ar x) (fun b hb=>eM (hB b hb) (hn x hx)) (fun b hb=>eM (hV b hb) (hn x hx)) (Dm x hx)⟩
 obtain⟨lR,yE,x0,wW,GX⟩:=hT _ _ _ _ _ ⟨gE,V,D,hS⟩ h0;refine wp_loop_ghost (fun k a w=>∃x,I x/\μ x=k/\kn C n (S x) a w) (μ x0) ⟨x0,GX,rfl,wb _ _ _ _ yE wW GX⟩ ?_;rintro k a1 w1 ⟨x,hx,rfl,hE⟩;refine wp_mono (qV ef hd (round x hx) C a1 w1 hE) ?_;rintro e a2 w2 ⟨cA,cu,hq⟩;cases e with
 |normal=>
  obtain⟨Gq,hE3,x',hM,bP,ay⟩:=hT _ _ _ _ _ cu hq;exact⟨μ x',ay,x',bP,rfl,wb _ _ _ _ hE3 hM bP⟩
 |exit id=>exact⟨cA,cu,hq⟩
 |goto l=>exact⟨cA,cu,hq⟩
 |ret=>exact⟨cA,cu,hq⟩
 |panic ch=>exact⟨cA,cu,hq⟩
 |outgrown=>exact⟨cA,cu,hq⟩
theorem Qx (ef:dt cfg P) {n:Nat} {st:LS} {body:Code} {Q:Exit->LS->Prop} {X:Type} (k:Nat) (S:X->LS) (I:X->Prop) (μ:X->Nat)
  (hd:jk n body=true) (hn:∀x,I x->st.nid<=(S x).nid) (hm:∀x,I x->ae st.m (S x).m) (ar:∀x,pL (S x)) (h0:zY k (fun ak=>∃x,Match ak (S x)/\I x) st)
  (round:∀x,I x->eb (.mk (k:=(cfg,P,n,body,j9 (zY k fun ak=>∃x',Match ak (S x')/\I x' /\μ x' <μ x) Q)) (S x))):kv (.mk (k:=(P,n,.loop body,Q)) st):=
 abf ef (zY k) (fun _ _ _ _ _ hE h=>Wu hE h) S I μ hd hn hm ar h0 round
end
@[reducible] def mK (en:Int) (s:PSt):Bx:=⟨0,62,[.vec 1 0,.v (.int .i64 s.i),.v (.int .i64 en),.v (.bool s.fl),.v (.int .i64 s.off)]⟩
@[reducible] def kF (ts:List Tk):Vc:=⟨1,0,50,4,ts.length,cv ts⟩
attribute [go_sem] mK kF
structure TsB (ts:List Tk):Prop where
 len:ts.length<=1000000
 s:∀t∈ts,t.s.length<=1000000
 n:∀t∈ts,aF t.n
theorem TsB.cs {ts:List Tk} (h:TsB ts) (i:Nat):(fD ts i).s.length<=1000000:=by
 by_cases hi:i<ts.length
 ·rw[Jr hi];exact h.s _ (List.getElem_mem hi)
 ·rw[Js (by omega)];exact aG _
theorem TsB.cn {ts:List Tk} (h:TsB ts) (i:Nat):aF (fD ts i).n:=by
 by_cases hi:i<ts.length
 ·rw[Jr hi];exact h.n _ (List.getElem_mem hi)
 ·rw[Js (by omega)];exact⟨by decide,by decide⟩
theorem TsB.l8 {ts:List Tk} (h:TsB ts):ts.length<=100000000:=cZ h.len (by decide)
theorem RQ {ts:List Tk} {i:Nat} (h:gj (ts.drop i)=true):i<ts.length:=by
 rcases Nat.lt_or_ge i ts.length with hi |hi
 ·exact hi
 ·rw[List.drop_eq_nil_of_le hi] at h;cases h
theorem aek {ts:List Tk} {i:Nat} (h:kg (ts.drop i)=true):i<ts.length:=by
 rcases Nat.lt_or_ge i ts.length with hi |hi
 ·exact hi
 ·rw[List.drop_eq_nil_of_le hi] at h;cases h
theorem S4 {ts:List Tk} {i:Nat} (h:i<ts.length):(cv ts).getD (i * 4+1) undef= .string (bs (fD ts i).s):=by
 have:=congrArg (fun l=>l[1]?) (Iq h);simp only[List.getElem?_take,List.getElem?_drop] at this;rw[ah (by decide)] at this;rw[List.getD_eq_getElem?_getD,this];rfl
def FZ:List Value->Option (Prop×Value)
 |[.string a,.string b]=>some (tl b=[47],.bool ((tl a).contains 47))
 |_=>none
attribute [go_sem] FZ.eq_1
theorem abQ:qp Tryz.prog 228 FZ:=fun fe y hy hB m=>by
 unfold FZ at hy;split at hy
 ·rename_i a b;cases hy;have h:=Yp (tl a) 47 m;have e:b=bs [47]:=by rw[<- oG b,hB]
  rw[e];rwa [oG] at h
 ·cases hy
abbrev cfC:Cfg:=gC (fun _=>false) [(134,fr BL fun s=> .bool (dd s)),(228,FZ)]
theorem wG:dt cfC Tryz.prog:=pure_cons (by kernel_rfl) (fL fun a m h=>A5 a m h) (pure_cons (by kernel_rfl) abQ pure_nil)
theorem fu (ts:List Tk) (en:Int) (s:PSt) (w:List UInt8) (m:Mem) (hn:ts.length<=100000000):FnH Tryz.prog 52 [.box 0 0,.v (.string (bs w))] (pH ts en s) m fun r H' m' =>ae m m' /\r= .tup []/\H' =pH ts en (ba ts en s w):=WC ts en s w m hn
section
variable (ts:List Tk) (en:Int) (s:PSt) (m:Mem)
theorem Hh (hT:TsB ts):FnH Tryz.prog 126 [.box 0 0] (pH ts en s) m fun r H' m' =>ae m m' /\r= .v (.bool (gj (ts.drop s.i)))/\H' =pH ts en s:=by
 have hp:=ze ts en s m hT.l8;have hb:=hT.cs s.i;rw[gj,xr,uA];refine aR wG Tryz.func126 ?_
 ·simp only[go_sem];refine ab (hp.mono ?_);clear hp;rintro r H' m1 aN ⟨rfl,rfl⟩;simp only[go_sem];exact⟨fun _=>by unfold BL;omega,.inr aN⟩
theorem Hg (hT:TsB ts):FnH Tryz.prog 190 [.box 0 0] (pH ts en s) m fun r H' m' =>ae m m' /\r= .v (.bool (kg (ts.drop s.i)))/\H' =pH ts en s:=by
 have hp:=ze ts en s m hT.l8;have hb:=hT.cs s.i;rw[kg,xr,uA];refine aR wG Tryz.func190 ?_
 ·simp only[go_sem];refine ab (hp.mono ?_);clear hp;rintro r H' m1 aN ⟨rfl,rfl⟩;simp only[go_sem];exact⟨fun _=>by unfold BL;omega,.inr aN⟩
theorem oZ (hT:TsB ts) (hI:Inv ts s):FnH Tryz.prog 50 [.box 0 0] (pH ts en s) m fun r H' m' =>ae m m' /\∃w s',r= .v (.string (bs w))/\w.length<=1000000/\H' =pH ts en s' /\Res ts en s (fy (ts.drop s.i)) w s' :=by
 have hp:=Hh ts en s m hT;have hb:=hT.cs s.i;by_cases h:gj (ts.drop s.i)=true
 ·rw[h] at hp;have hi:=RQ h;have hR:Res ts en s (fy (ts.drop s.i)) (fD ts s.i).s s.next:=by
   rw[fy,ah h,uA,<- b7];exact ct hI hi (cJ _ (hI.next hi))
  refine aR wG Tryz.func50 ?_
  ·simp only[go_sem];refine ab (hp.mono ?_);clear hp;rintro r H' m1 aN ⟨l1,rfl,rfl⟩;simp only[go_sem];have hl:=hT.len;have ht:=BR ts;have e:(s.i+1 - 1:Int).toNat=s.i:=by omega
   refine⟨by unfold aF;omega,?_⟩;refine bO (.hoist 0 (.hoist 1 (.hoist 2 (.hoist 3 (.hoist 4 (.hoist 5 (.hoist 6 (.hoist 7 (.hoist 8 (.hoist 9 (.hoist 10 (.hoist 11 (.hoist 12 .done))))))))))))) wG (by kernel_rfl) (by kernel_rfl) ?_;simp only[go_sem];refine⟨by unfold aF;omega,⟨by omega,by omega⟩,by omega,by omega,l1,(fD ts s.i).s,s.next,?_,hb,rfl,hR⟩;rw[e];exact S4 hi
 ·have h' :gj (ts.drop s.i)=false:=by simpa using h
  rw[h'] at hp;have hf:=fun m' =>Be ts en s m' hT.l8
  have hR:Res ts en s (fy (ts.drop s.i)) [] (kA ts en s):=by
   rw[fy,af h];exact EB _ hI
  refine aR wG Tryz.func50 ?_
  ·simp only[go_sem];refine ab (hp.mono ?_);clear hp;rintro r H' m1 aN ⟨l1,rfl,rfl⟩;simp only[go_sem];refine ab ((hf m1).mono ?_);clear hf;rintro r H' m2 aH ⟨rfl,rfl,rfl⟩;simp only[go_sem];exact⟨l1,[],_,rfl,aG _,rfl,hR⟩
theorem qY (hT:TsB ts) (hI:Inv ts s):FnH Tryz.prog 130 [.box 0 0] (pH ts en s) m fun r H' m' =>ae m m' /\∃w s',r= .v (.string (bs w))/\w.length<=1000000/\H' =pH ts en s' /\Res ts en s (cY (ts.drop s.i)) w s' :=by
 have hp:=Hg ts en s m hT;have hb:=hT.cs s.i;by_cases h:kg (ts.drop s.i)=true
 ·rw[h] at hp;have hi:=aek h;have hR:Res ts en s (cY (ts.drop s.i)) (fD ts s.i).s s.next:=by
   rw[cY,ah h,uA,<- b7];exact ct hI hi (cJ _ (hI.next hi))
  refine aR wG Tryz.func130 ?_
  ·simp only[go_sem];refine ab (hp.mono ?_);clear hp;rintro r H' m1 aN ⟨l1,rfl,rfl⟩;simp only[go_sem];have hl:=hT.len;have ht:=BR ts;have e:(s.i+1 - 1:Int).toNat=s.i:=by omega
   refine⟨by unfold aF;omega,?_⟩;refine bO (.hoist 0 (.hoist 1 (.hoist 2 (.hoist 3 (.hoist 4 (.hoist 5 (.hoist 6 (.hoist 7 (.hoist 8 (.hoist 9 (.hoist 10 (.hoist 11 (.hoist 12 .done))))))))))))) wG (by kernel_rfl) (by kernel_rfl) ?_;simp only[go_sem];refine⟨by unfold aF;omega,⟨by omega,by omega⟩,by omega,by omega,l1,(fD ts s.i).s,s.next,?_,hb,rfl,hR⟩;rw[e];exact S4 hi
 ·have h' :kg (ts.drop s.i)=false:=by simpa using h
  rw[h'] at hp;have hf:=fun m' =>Be ts en s m' hT.l8
  have hR:Res ts en s (cY (ts.drop s.i)) [] (kA ts en s):=by
   rw[cY,af h];exact EB _ hI
  refine aR wG Tryz.func130 ?_
  ·simp only[go_sem];refine ab (hp.mono ?_);clear hp;rintro r H' m1 aN ⟨l1,rfl,rfl⟩;simp only[go_sem];refine ab ((hf m1).mono ?_);clear hf;rintro r H' m2 aH ⟨rfl,rfl,rfl⟩;simp only[go_sem];exact⟨l1,[],_,rfl,aG _,rfl,hR⟩
abbrev Ut (t:Ty):SV:= .agg [.v (.int .i64 t.dim),.v (.int .u8 t.base),.v (.string (bs t.name))]
theorem Nt (hT:TsB ts) (hI:Inv ts s):FnH Tryz.prog 153 [.box 0 0] (pH ts en s) m fun r H' m' =>ae m m' /\∃t s',r=Ut t/\t.dim=0/\(0<=t.base/\t.base<256)/\t.name.length<=1000000/\H' =pH ts en s' /\Res ts en s (jl (ts.drop s.i)) t s' :=by
 have ha:=uc ts en s iH m hT.l8;have hb:=fun m' =>uc ts en s iE m' hT.l8
 have hc:=fun m' =>oZ ts en s m' hT hI
 by_cases h1:bu ts s.i iH=true
 ·rw[h1] at ha;have hi:=bC h1;have hR:Res ts en s (jl (ts.drop s.i)) ⟨0,73,[]⟩ s.next:=by
   rw[jl,<- aw,ah h1,<- b7];exact ct hI hi (cJ _ (hI.next hi))
  refine aR aB Tryz.func153 ?_
  ·simp only[go_sem];refine ab (ha.mono ?_);clear ha hb hc;rintro r H' m1 aN ⟨l1,rfl,rfl⟩;simp only[go_sem];exact⟨l1,⟨0,73,[]⟩,s.next,rfl,rfl,by decide,aG _,rfl,hR⟩
 ·have DC:bu ts s.i iH=false:=by simpa using h1
  rw[DC] at ha;by_cases h2:bu ts s.i iE=true
  ·have oW:=fun m' =>(hb m').mono fun r H' m2 _ h=>(⟨h.1,by have:=h.2.1;rw[h2] at this;exact this,by have:=h.2.2;rw[ah h2] at this;exact this⟩:ae m' m2/\r= .v (.bool true)/\H' =pH ts en s.next)
   clear hb;have hi:=bC h2;have hR:Res ts en s (jl (ts.drop s.i)) ⟨0,74,[]⟩ s.next:=by
    rw[jl,<- aw,af h1,<- aw,ah h2,<- b7];exact ct hI hi (cJ _ (hI.next hi))
   refine aR aB Tryz.func153 ?_
   ·simp only[go_sem];refine ab (ha.mono ?_);clear ha hc;rintro r H' m1 aN ⟨l1,rfl,rfl⟩;simp only[go_sem];refine ab ((oW m1).mono ?_);clear oW;rintro r H' m2 aH ⟨l2,rfl,rfl⟩;simp only[go_sem];exact⟨aa l1 l2,⟨0,74,[]⟩,s.next,rfl,rfl,by decide,aG _,rfl,hR⟩
  ·have G2:bu ts s.i iE=false:=by simpa using h2
   have oW:=fun m' =>(hb m').mono fun r H' m2 _ h=>(⟨h.1,by have:=h.2.1;rw[G2] at this;exact this,by have:=h.2.2;rw[af h2] at this;exact this⟩:ae m' m2/\r= .v (.bool false)/\H' =pH ts en s)
   clear hb;refine aR aB Tryz.func153 ?_
   ·simp only[go_sem];refine ab (ha.mono ?_);clear ha;rintro r H' m1 aN ⟨l1,rfl,rfl⟩;simp only[go_sem];refine ab ((oW m1).mono ?_);clear oW;rintro r H' m2 aH ⟨l2,rfl,rfl⟩;simp only[go_sem];refine ab ((hc m2).mono ?_);clear hc;rintro r H' m3 bI ⟨l3,w,s',rfl,hw,rfl,hR⟩;simp only[go_sem];refine⟨aa (aa l1 l2) l3,⟨0,76,w⟩,s',rfl,rfl,(by decide:(0:Int)<=76/\(76:Int)<256),hw,rfl,?_⟩;rw[jl,<- aw,af h1,<- aw,af h2];exact aX hR (cJ _ hR.inv)
theorem xe (hT:TsB ts) (hI:Inv ts s):FnH Tryz.prog 63 [.box 0 0] (pH ts en s) m fun r H' m' =>ae m m' /\∃t s',r=Ut t/\nY t/\t.name.length<=1000000/\H' =pH ts en s' /\Res ts en s (eV (ts.drop s.i)) t s' :=by
 have hb:=Nt ts en s m hT hI;refine aR aB Tryz.func63 ?_
 ·simp only[go_sem];refine ab (hb.mono ?_);clear hb;rintro r H' m1 aN ⟨l1,t1,s1,rfl,ht1,ht2,ht3,rfl,eg⟩;simp only[go_sem];refine du aB (fun y:PSt×Ty×Mem=>⟨[⟨0,[],.box 0 0⟩,⟨2,[],.box 2 0⟩,⟨3,[],.box 5 0⟩],[],[⟨5,30,[.v (.int .i64 y.2.1.dim),.v (.int .u8 y.2.1.base),.v (.string (bs y.2.1.name))]⟩,mK en y.1,⟨2,30,[.v (.int .i64 0),.v (.int .u8 0),.v (.string (bs []))]⟩],[kF ts],20,y.2.2⟩)
   (fun y=>ae m1 y.2.2/\Inv ts y.1/\y.2.1.name.length<=1000000/\(0<=y.2.1.base/\y.2.1.base<256)/\(0<=y.2.1.dim/\y.2.1.dim<=y.1.i)/\∀a s',Res ts en y.1 (Af y.2.1 (ts.drop y.1.i)) a s' ->Res ts en s (eV (ts.drop s.i)) a s')
   (fun y=>ts.length - y.1.i) (s1,t1,m1) (fun _ _=>dv rfl) (fun y hy=>hy.1) ?_ ?_ ?_
  ·simp only[go_sem]
  ·exact⟨.inl rfl,eg.inv,ht3,ht2,⟨by dsimp only;omega,by dsimp only;omega⟩,fun a s' h=>by rw[adF];exact aX eg h⟩
  ·rintro⟨s2,t2,m2⟩ ⟨q1,q2,q3,q4,q5,q6⟩;dsimp only at q1 q2 q3 q4 q5 q6;have hl:=hT.len;have dG:=q2.le;have ha:=uc ts en s2 [91] m2 hT.l8;by_cases h1:bu ts s2.i [91]=true
   ·rw[h1] at ha;have hi:=bC h1;have oc:=q2.next hi;have he:=fun m' =>fu ts en s2.next [93] m' hT.l8
    have Dv:Inv ts (ba ts en s2.next [93]):=fA oc;have hle:s2.i+1<=(ba ts en s2.next [93]).i:=gQ oc;simp only[go_sem];refine ab (ha.mono ?_);clear ha;rintro r H' m3 bI ⟨l3,rfl,rfl⟩;simp only[go_sem];refine ab ((he m3).mono ?_);clear he;rintro r H' m4 cT ⟨l4,rfl,rfl⟩;simp only[go_sem];refine⟨by unfold aF;omega,(ba ts en s2.next [93],t2.up,m4),⟨⟨⟨rfl,rfl,rfl⟩,⟨rfl,rfl,rfl⟩⟩,.inl rfl⟩,⟨aa (aa q1 l3) l4,Dv,q3,q4,⟨by show 0<=t2.dim+1;omega,by show t2.dim+1<=((ba ts en s2.next [93]).i:Int);omega⟩,fun a s' h=>q6 a s' ?_⟩,by dsimp only;omega⟩;rw[Ql,ah (by rw[<- aw];exact h1),<- b7];exact ct q2 hi (dX oc h)
   ·have DC:bu ts s2.i [91]=false:=by simpa using h1
    rw[DC] at ha;simp only[go_sem];refine ab (ha.mono ?_);clear ha;rintro r H' m3 bI ⟨l3,rfl,rfl⟩;simp only[go_sem];refine⟨aa (aa l1 q1) l3,t2,s2,rfl,⟨by unfold aF;omega,q4,by unfold av;omega⟩,q3,rfl,q6 _ _ ?_⟩;rw[Ql,af (by rw[<- aw];exact h1)];exact cJ _ q2
end
theorem YC (n:Nat) (hn:n<=9) (m:Mem):FnH Tryz.prog 152 [.v (.int .i64 n)] ⟨[],[]⟩ m fun r H' m' =>m' =m/\r= .vec 0 0/\H' =⟨[],[⟨0,0,9,1,(qu n).length,strs (qu n)⟩]⟩:=by
 refine aR aB Tryz.func152 ?_
 ·simp only[go_sem];exact⟨fun h=>by obtain rfl:n=0:=(by omega);rfl,fun h0=>⟨fun h=>by obtain rfl:n=1:=(by omega);rfl,fun h1=>⟨fun h=>by obtain rfl:n=2:=(by omega);rfl,fun h2=>⟨fun h=>by obtain rfl:n=3:=(by omega);rfl,fun h3=>⟨fun h=>by obtain rfl:n=4:=(by omega);rfl,fun h4=>⟨fun h=>by obtain rfl:n=5:=(by omega);rfl,fun h5=>⟨fun h=>by obtain rfl:n=6:=(by omega);rfl,fun h6=>⟨fun h=>by obtain rfl:n=7:=(by omega);rfl,fun h7=>⟨fun h=>by obtain rfl:n=8:=(by omega);rfl,fun h8=>by obtain rfl:n=9:=(by omega);rfl⟩⟩⟩⟩⟩⟩⟩⟩⟩
theorem Xr (n:Nat) (hn:n<=9) (m:Mem):FnH Tryz.prog 152 [.v (.int .i64 n)] ⟨[],[]⟩ m fun r H' m' =>m.le m' /\∃a c,r= .v (.slice a (qu n).length c)/\(qu n).length<=c/\aZ m' a (qu n).length 1 (strs (qu n))/\H' =⟨[],[]⟩:=by
 refine R0 (YC n hn m) ?_;rintro r H' m' hm ⟨rfl,rfl,rfl⟩;refine .inr ⟨id,0,0,_,⟨[],[]⟩,rfl,rfl,fun V v h=>h,List.Sublist.refl _,List.nil_sublist _,fun a c m1 h1 h2 h3=>⟨h1,a,c,rfl,h2,h3,rfl⟩⟩
section
variable (ts:List Tk) (en:Int) (s:PSt) (m:Mem)
theorem Sj {ts:List Tk} {n i:Nat} (h:iU n (ts.drop i)=true):i<ts.length:=by
 rcases Nat.lt_or_ge i ts.length with hi |hi
 ·exact hi
 ·rw[List.drop_eq_nil_of_le hi,iU] at h;cases h
theorem MB (n:Nat) (hn:n<=9) (hT:TsB ts):FnH Tryz.prog 62 [.box 0 0,.v (.int .i64 n)] (pH ts en s) m fun r H' m' =>ae m m' /\
  ∃w,r= .tup [.v (.string (bs w)),.v (.bool (iU n (ts.drop s.i)))]/\(iU n (ts.drop s.i)=true->w=j3 (ts.drop s.i))/\H' =pH ts en (if iU n (ts.drop s.i)=true then s.next else s):=by
 have hp:=ze ts en s m hT.l8;have hl:=fun m' =>Xr n hn m'
 refine aR aB Tryz.func62 ?_
 ·simp only[go_sem];refine ab (hp.mono ?_);clear hp;rintro r H' m1 aN ⟨rfl,rfl⟩;simp only[go_sem];refine bO (.hoist 0 (.hoist 1 (.hoist 2 (.hoist 3 (.hoist 4 (.hoist 6 (.hoist 7 (.alt 5 [7,6] (.alt 8 [] (.hoist 9 .done) .stop) .stop)))))))) aB (by kernel_rfl) (by kernel_rfl) ?_;simp only[go_sem];have hlen:(qu n).length<=4611686018427387904:=by unfold qu;repeat (first |(split;decide) |split |decide)
  refine⟨fun hk=>ab ((hl m1).mono ?_),fun hk=> ?_⟩
  ·clear hl;rintro r H' m2 aH ⟨_,a,c,rfl,bg,bU,rfl⟩;have hc:=yP (qu n) (fD ts s.i).s a _ c m2 bU hlen;simp only[go_sem];refine⟨⟨.inr aH,.inr aH⟩,by kernel_rfl,bo (hc.mono ?_)⟩;clear hc;rintro r H' m3 bI ⟨rfl,rfl⟩;simp only[go_sem];have AL:ae m m3:= .inr (Mem.le_trans aN (Mem.le_trans aH bI));refine⟨fun h=> ?_,fun h=> ?_⟩
   ·have hf:iU n (ts.drop s.i)=true:=by rw[iU,xr,uA,hk,h];rfl
    have hi:=Sj hf;have hl:=hT.len;rw[hf];exact⟨by unfold aF;omega,AL,_,rfl,fun _=>(uA ts s.i).symm,rfl⟩
   ·have hf:iU n (ts.drop s.i)=false:=by rw[iU,uA,h,Bool.and_false]
    rw[hf];exact⟨AL,[],rfl,fun h=>(by cases h),rfl⟩
  ·have hf:iU n (ts.drop s.i)=false:=by rw[iU,xr];simp [hk]
   rw[hf];exact⟨.inr aN,[],rfl,fun h=>(by cases h),rfl⟩
end
abbrev Nd.svs (x:Nd):List SV:=[.v (.int .i64 x.k),.v (.int .i64 x.n),.v (.string (bs x.s)),.v (.string (bs x.c)),.v (.int .i64 x.ty.dim),.v (.int .u8 x.ty.base),.v (.string (bs x.ty.name)),.v (.slice x.a x.l x.cp)]
abbrev gN (ts:List Tk) (en:Int) (s:PSt) (K:PR Ex) (m:Mem):SV->Hp->Mem->Prop:=fun r H' m' =>ae m m' /\∃(x:Nd) (e:Ex) (s' :PSt),r= .agg x.svs/\bJ m' e x.cs/\H' =pH ts en s' /\Res ts en s K e s'
abbrev ak1 (ts:List Tk) (en:Int) (s:PSt) (K:PR (List Ex)) (m:Mem):SV->Hp->Mem->Prop:=fun r H' m' =>ae m m' /\∃(es:List Ex) (a:Option Addr) (c:Nat) (xs:List Value) (s' :PSt),r= .v (.slice a es.length c)/\es.length<=c/\es.length<=1000001/\aZ m' a es.length 8 xs/\dY m' es xs/\H' =pH ts en s' /\Res ts en s K es s'
theorem byE:od Tryz.prog 33=104:=by kernel_rfl
theorem byS:od Tryz.prog 73=312:=by kernel_rfl
attribute [go_sem] byE byS
theorem j5 {n b:Nat} (hn:n<=2000002) (hb:b<=1000):room n b:=by
 have:n * b<=2000002 * 1000:=Nat.mul_le_mul hn hb;exact⟨by omega,by unfold maxLen;omega⟩
theorem fH (m:Mem) (z:Nat):aZ m none 0 z []:=⟨by simp,fun h=>absurd h (by decide)⟩
theorem lk {m:Mem} {k n:Int} {s c:List UInt8} {ty:Ty} {es:List Ex} {a:Option Addr} {cp:Nat} {xs:List Value} (hk:aF k) (hn:aF n) (hs:s.length<=1000000) (hc:c.length<=1000000) (ht:nY ty)
  (hl:es.length<=1000002) (bg:es.length<=cp) (hr:aZ m a es.length 8 xs) (he:dY m es xs):bJ m (.mk k n s c ty es) (Nd.cs ⟨k,n,s,c,ty,a,es.length,cp⟩):=by
 simp only[bJ];exact⟨a,cp,xs,rfl,bg,hr,⟨hk,hn,by unfold av;omega,by unfold av;omega,ht,by unfold av;omega⟩,he⟩
theorem uy {m:Mem} {k n:Int} {s c:List UInt8} {ty:Ty} (hk:aF k) (hn:aF n) (hs:s.length<=1000000) (hc:c.length<=1000000) (ht:nY ty):bJ m (.mk k n s c ty []) (Nd.cs ⟨k,n,s,c,ty,none,0,0⟩):=
 lk (es:=[]) hk hn hs hc ht (aG _) (au _) (fH m 8) (by simp only[dY])
theorem gi:nY ai:=⟨⟨by decide,by decide⟩,by decide,by decide⟩
theorem qw {m:Mem} {e:Ex} {x:Nd} (h:bJ m e x.cs):dY m [e] x.cs:=by
 simp only[dY,and_true];exact h
theorem Ug {m:Mem} {e e2:Ex} {x y:Nd} (h:bJ m e x.cs) (h2:bJ m e2 y.cs):dY m [e,e2] (x.cs++y.cs):=by
 simp only[dY,and_true];exact⟨h,h2⟩
theorem Qf {m:Mem} {e:Ex} {x:Nd} (hx:bJ m e x.cs):∀{es:List Ex} {xs:List Value},xs.length=es.length * 8->dY m es xs->dY m (es++[e]) (xs++x.cs)
 |[],xs,hl,_=>by
  have:xs=[]:=List.eq_nil_of_length_eq_zero (by simpa using hl);subst this;exact qw hx
 |y::r,xs,hl,h=>by
  simp only[dY,dW] at h ⊢;simp only[aL] at hl;have h8:8<=xs.length:=by omega
  rw[List.take_append_of_le_length h8,List.drop_append_of_le_length h8];exact⟨h.1,Qf hx (by rw[dI];omega) h.2⟩
theorem BI {m m' :Mem} {es:List Ex} {xs:List Value} (hle:ae m m') (h:dY m es xs):dY m' es xs:=by
 rcases hle with rfl |hle
 ·exact h
 ·exact Ek hle es xs h
theorem aeT {m:Mem} {e:Ex} {cs:List Value} (h:bJ m e cs):∀u∈cs,u.oneCell' =true:=by
 obtain⟨x,rfl⟩:=o5 h;intro u hu;simp only[Nd.cs,List.mem_cons,List.not_mem_nil,or_false] at hu;rcases hu with rfl |rfl |rfl |rfl |rfl |rfl |rfl |rfl<;>rfl
theorem IW {m:Mem}:∀{es:List Ex} {xs:List Value},xs.length=es.length * 8->dY m es xs->∀u∈xs,u.oneCell' =true
 |[],xs,hl,_=>by
  have:xs=[]:=List.eq_nil_of_length_eq_zero (by simpa using hl);subst this;intro u hu;cases hu
 |y::r,xs,hl,h=>by
  simp only[dY] at h;simp only[aL] at hl;intro u hu;rw[<- List.take_append_drop 8 xs] at hu;rcases List.mem_append.1 hu with hu |hu
  ·exact aeT h.1 u hu
  ·exact IW (by rw[dI];omega) h.2 u hu
theorem OD {m:Mem} {e:Ex} {x:Nd} {es:List Ex} {xs:List Value} (hx:bJ m e x.cs) (h:dY m es xs):dY m (e::es) (x.cs++xs):=by
 simp only[dY];exact⟨hx,h⟩
def oI (ts:List Tk) (en:Int) (n:Nat) (s:PSt):Prop:=∀m:Mem,FnH Tryz.prog 31 [.box 0 0,.v (.int .i64 n)] (pH ts en s) m (gN ts en s (dZ n (ts.drop s.i)) m)
def wa (ts:List Tk) (en:Int) (s:PSt):Prop:=∀m:Mem,FnH Tryz.prog 167 [.box 0 0] (pH ts en s) m (ak1 ts en s (oH (ts.drop s.i)) m)
def Fz (ts:List Tk) (en:Int) (s:PSt):Prop:=∀m:Mem,FnH Tryz.prog 166 [.box 0 0] (pH ts en s) m (gN ts en s (ot (ts.drop s.i)) m)
def AQ (ts:List Tk) (en:Int) (s:PSt):Prop:=∀m:Mem,FnH Tryz.prog 61 [.box 0 0] (pH ts en s) m (gN ts en s (zI (ts.drop s.i)) m)
section
variable {ts:List Tk} {en:Int} {s:PSt}
theorem Pw (hT:TsB ts) (hI:Inv ts s) (hE:oI ts en 0 (ba ts en s [40])):Fz ts en s:=fun m=>by
 have h1:=fu ts en s [40] m hT.l8;have Dy:∀m' :Mem,FnH Tryz.prog 31 [.box 0 0,.v (.int .i64 0)] (pH ts en (ba ts en s [40])) m' (gN ts en (ba ts en s [40]) (dZ 0 (ts.drop (ba ts en s [40]).i)) m'):=hE;rw[Yr];refine aR aB Tryz.func166 ?_
 ·simp only[go_sem];refine ab (h1.mono ?_);clear h1;rintro r H' m1 aN ⟨l1,rfl,rfl⟩;simp only[go_sem];refine ab ((Dy m1).mono ?_);clear Dy;rintro r H' m2 aH ⟨l2,x,e,s2,rfl,hx,rfl,hR⟩;have h3:=fu ts en s2 [41] m2 hT.l8;simp only[go_sem];refine ab (h3.mono ?_);clear h3;rintro r H' m3 bI ⟨l3,rfl,rfl⟩;simp only[go_sem];exact⟨aa (aa l1 l2) l3,x,e,_,rfl,bw l3 hx,rfl,dX hI (aX hR (dX hR.inv (cJ _ (fA hR.inv))))⟩
theorem adm (hT:TsB ts) (hI:Inv ts s) (hE:∀s1,Inv ts s1->s.i<=s1.i->oI ts en 0 s1):wa ts en s:=fun m=>by
 have h1:=fu ts en s [40] m hT.l8;have tW:Inv ts (ba ts en s [40]):=fA hI;have lO:s.i<=(ba ts en s [40]).i:=gQ hI;by_cases hc:bu ts (ba ts en s [40]).i [41]=true
 ·have h2:=fun m' =>(uc ts en (ba ts en s [40]) [41] m' hT.l8).mono fun r H' m2 _ h=>(⟨h.1,by have:=h.2.1;rw[hc] at this;exact this,by have:=h.2.2;rw[ah hc] at this;exact this⟩:ae m' m2/\r= .v (.bool true)/\H' =pH ts en (ba ts en s [40]).next)
  have hi:=bC hc;have hR:Res ts en s (oH (ts.drop s.i)) [] (ba ts en s [40]).next:=by
   rw[Qv];refine dX hI ?_;rw[<- aw,ah hc,<- b7];exact ct tW hi (cJ _ (tW.next hi))
  refine aR aB Tryz.func167 ?_
  ·simp only[go_sem];refine ab (h1.mono ?_);clear h1;rintro r H' m1 aN ⟨l1,rfl,rfl⟩;simp only[go_sem];refine ab ((h2 m1).mono ?_);clear h2 hE;rintro r H' m2 aH ⟨l2,rfl,rfl⟩;simp only[go_sem];exact⟨aa l1 l2,[],none,0,[],_,rfl,au _,aG _,fH _ _,by simp only[dY],rfl,hR⟩
 ·have GO:bu ts (ba ts en s [40]).i [41]=false:=by simpa using hc
  have h2:=fun m' =>(uc ts en (ba ts en s [40]) [41] m' hT.l8).mono fun r H' m2 _ h=>(⟨h.1,by have:=h.2.1;rw[GO] at this;exact this,by have:=h.2.2;rw[af hc] at this;exact this⟩:ae m' m2/\r= .v (.bool false)/\H' =pH ts en (ba ts en s [40]))
  have Dy:∀m' :Mem,FnH Tryz.prog 31 [.box 0 0,.v (.int .i64 0)] (pH ts en (ba ts en s [40])) m' (gN ts en (ba ts en s [40]) (dZ 0 (ts.drop (ba ts en s [40]).i)) m'):=hE _ tW lO;refine ph (aR aB Tryz.func167 ?_)
  ·simp only[go_sem];refine ab (h1.mono ?_);clear h1;rintro r H' m1 aN ⟨l1,rfl,rfl⟩;simp only[go_sem];refine ab ((h2 m1).mono ?_);clear h2;rintro r H' m2 aH ⟨l2,rfl,rfl⟩;simp only[go_sem];refine ab ((Dy m2).mono ?_);clear Dy;rintro r H' m3 bI ⟨l3,x,e,s3,rfl,hx,rfl,hR3⟩;simp only[go_sem];have lx:s.i<=s3.i:=cZ lO hR3.mono;refine⟨j5 (by decide) (by decide),?_⟩;refine du aB (fun y:PSt×List Ex×List Value×Nat×Mem=>⟨[⟨0,[],.box 0 0⟩,⟨3,[],.vec 9 y.2.2.2.1⟩],[],[mK en y.1],[⟨9,y.2.2.2.1,33,8,y.2.1.length,y.2.2.1⟩,kF ts],20,y.2.2.2.2⟩)
    (fun y=>ae m3 y.2.2.2.2/\Inv ts y.1/\s.i<=y.1.i/\y.2.1.length<=y.1.i+1/\y.2.2.1.length=y.2.1.length * 8/\dY y.2.2.2.2 y.2.1 y.2.2.1/\∀a s',Res ts en y.1 (Co y.2.1 (ts.drop y.1.i)) a s' ->Res ts en s (oH (ts.drop s.i)) a s')
    (fun y=>ts.length - y.1.i) (s3,[e],x.cs,0,m3) (fun _ _=>dv rfl) (fun y hy=>hy.1) ?_ ?_ ?_
   ·simp only[go_sem];exact rfl
   ·exact⟨.inl rfl,hR3.inv,lx,by simp,by simp [Nd.cs],qw hx,fun a s' h=>by
     rw[Qv];refine dX hI ?_;rw[<- aw,af hc]
     exact aX hR3 h⟩
   ·rintro⟨s4,es,xs,u,m4⟩ ⟨q1,q2,q3,q4,q5,q6,q7⟩;dsimp only at q1 q2 q3 q4 q5 q6 q7;have hl:=hT.len;have dG:=q2.le;have ha:=uc ts en s4 [44] m4 hT.l8;by_cases h1:bu ts s4.i [44]=true
    ·rw[h1] at ha;have hi:=bC h1;have gd:=q2.next hi;have yE:∀m' :Mem,FnH Tryz.prog 31 [.box 0 0,.v (.int .i64 0)] (pH ts en s4.next) m' (gN ts en s4.next (dZ 0 (ts.drop s4.next.i)) m'):=hE s4.next gd (Nat.le_succ_of_le q3);clear hE;simp only[go_sem];refine ab (ha.mono ?_);clear ha;rintro r H' m5 cO ⟨l5,rfl,rfl⟩;simp only[go_sem];refine ab ((yE m5).mono ?_);clear yE;rintro r H' m6 eo ⟨l6,x6,e6,s6,rfl,hx6,rfl,hR6⟩;simp only[go_sem];have hm:=hR6.mono;have so:s4.next.i=s4.i+1:=rfl;refine⟨j5 (by omega) (by decide),(s6,es++[e6],xs++x6.cs,u+1,m6),⟨rfl,⟨rfl,rfl,rfl⟩,⟨rfl,by simp,rfl⟩,.inl rfl⟩,⟨aa q1 (aa l5 l6),hR6.inv,by dsimp only;omega,by simp only[aI,iB];omega,by simp only[aI,iB,q5,Nd.cs,aL,bh];omega,Qf hx6 q5 (BI (aa l5 l6) q6),fun a s' h=>q7 a s' ?_⟩,by dsimp only;omega⟩;rw[PO,ah (by rw[<- aw];exact h1),<- b7];exact ct q2 hi (aX hR6 h)
    ·have DC:bu ts s4.i [44]=false:=by simpa using h1
     rw[DC] at ha;have he:=fun m' =>fu ts en s4 [41] m' hT.l8
     clear hE;simp only[go_sem];refine ab (ha.mono ?_);clear ha;rintro r H' m5 cO ⟨l5,rfl,rfl⟩;simp only[go_sem];refine ab ((he m5).mono ?_);clear he;rintro r H' m6 eo ⟨l6,rfl,rfl⟩;simp only[go_sem];refine BC (b:=⟨9,u,33,8,es.length,xs⟩) (by simp [eU]) (pH ts en (ba ts en s4 [41])) (List.Sublist.refl _) (.cons_cons _ (List.nil_sublist _)) fun a c mm w1 w2 w3=>⟨aa (aa (aa (aa l1 l2) l3) q1) (aa (aa l5 l6) (.inr w1)),es,a,c,xs,_,rfl,w2,by omega,w3,BI (aa (aa l5 l6) (.inr w1)) q6,rfl,q7 _ _ ?_⟩
     rw[PO,af (by rw[<- aw];exact h1)];exact dX q2 (cJ _ (fA q2))
end
section
variable {ts:List Tk} {en:Int} {s:PSt}
theorem dO {w:List UInt8} (hT:TsB ts) (h:bu ts s.i w=true) (m:Mem):FnH Tryz.prog 49 [.box 0 0,.v (.string (bs w))] (pH ts en s) m fun r H' m' =>ae m m' /\r= .v (.bool true)/\H' =pH ts en s.next:=
 (uc ts en s w m hT.l8).mono fun r H' m2 _ q=>⟨q.1,by have:=q.2.1;rw[h] at this;exact this,by have:=q.2.2;rw[ah h] at this;exact this⟩
theorem dP {w:List UInt8} (hT:TsB ts) (h:¬bu ts s.i w=true) (m:Mem):FnH Tryz.prog 49 [.box 0 0,.v (.string (bs w))] (pH ts en s) m fun r H' m' =>ae m m' /\r= .v (.bool false)/\H' =pH ts en s:=
 (uc ts en s w m hT.l8).mono fun r H' m2 _ q=>⟨q.1,by have:=q.2.1;rw[(by simpa using h:bu ts s.i w=false)] at this;exact this,by have:=q.2.2;rw[af h] at this;exact this⟩
theorem nc {w:List UInt8} (hT:TsB ts) (h:bu ts s.i w=true) (m:Mem):FnH Tryz.prog 74 [.box 0 0,.v (.string (bs w))] (pH ts en s) m fun r H' m' =>ae m m' /\r= .v (.bool true)/\H' =pH ts en s:=
 (EC ts en s w m hT.l8).mono fun r H' m2 _ q=>⟨q.1,by have:=q.2.1;rw[h] at this;exact this,q.2.2⟩
theorem nd {w:List UInt8} (hT:TsB ts) (h:¬bu ts s.i w=true) (m:Mem):FnH Tryz.prog 74 [.box 0 0,.v (.string (bs w))] (pH ts en s) m fun r H' m' =>ae m m' /\r= .v (.bool false)/\H' =pH ts en s:=
 (EC ts en s w m hT.l8).mono fun r H' m2 _ q=>⟨q.1,by have:=q.2.1;rw[(by simpa using h:bu ts s.i w=false)] at this;exact this,q.2.2⟩
theorem adT {α:Type} {K:PR α} {a:α} {s' :PSt} (h:Res ts en s K a s') (hI:Inv ts s) (hi:s.i<ts.length) (hK:∀x r,K= .ok (x,r)->r.length<(ts.drop s.i).length):s.i<s'.i:=by
 have hf:=hI.nfl hi;cases e:K with
 |error r=>
  have:=h.inv.fl (h.er hf r e).1;omega
 |ok p=>
  obtain⟨x,r⟩:=p;obtain⟨_,_,rfl⟩:=h.ok hf x r e;have:=hK x _ e;simp only[dI] at this;omega
def F1 (l:List Tk):PR Ex:=if gO l=3 then .ok (.mk 1 (sC l) [] [] ai [],l.tail) else if gO l=4 then .ok (.mk 2 (sC l) [] [] ai [],l.tail) else .ok (.mk 3 0 (j3 l) [] ai [],l.tail)
noncomputable def Tf (l:List Tk):PR Ex:=an (fy l) fun c r=>aV [46] r fun r2=>an (cY r2) fun s r3=>if az [40] r3=true then an (oH r3) fun es r4=> .ok (.mk 11 0 s c ai es,r4) else .ok (.mk 8 0 s c ai [],r3)
noncomputable def aip (l:List Tk):PR Ex:=aV [46] l fun r=>an (cY r) fun s r2=>an (oH r2) fun es r3=> .ok (.mk 12 0 s [] ai es,r3)
noncomputable def KS (l:List Tk):PR Ex:=an (jl l) fun t r=>
 if t.base=76/\az [40] r=true then an (oH r) fun es r2=> .ok (.mk 13 0 [] t.name ai es,r2)
 else aV [91] r fun r2=>an (xW t r2) fun t2 r3=>an (dZ 0 r3) fun e r4=>aV [93] r4 fun r5=> .ok (.mk 14 0 [] [] t2 [e],r5)
noncomputable def ahf (k:Int) (l:List Tk):PR Ex:=an (ot l) fun e r=> .ok (.mk k 0 [] [] ai [e],r)
theorem Xq (hT:TsB ts) (hI:Inv ts s) (m:Mem):FnH Tryz.prog 206 [.box 0 0] (pH ts en s) m (gN ts en s (an (cY (ts.drop s.i)) fun w r=> .ok (.mk 6 0 w [] ai [],r)) m):=by
 have h1:=fun m' =>qY ts en s m' hT hI
 refine aR aB Tryz.func206 ?_
 ·simp only[go_sem];refine ab ((h1 m).mono ?_);clear h1;rintro r H' m1 aN ⟨l1,w,s1,rfl,hw,rfl,hR⟩;simp only[go_sem];exact⟨l1,⟨6,0,w,[],ai,none,0,0⟩,.mk 6 0 w [] ai [],s1,rfl,uy ⟨by decide,by decide⟩ ⟨by decide,by decide⟩ hw (aG _) gi,rfl,aX hR (cJ _ hR.inv)⟩
theorem Jt (hT:TsB ts) (k:Int) (hk:aF k) (hP:Fz ts en s) (m:Mem):FnH Tryz.prog 239 [.box 0 0,.v (.int .i64 k)] (pH ts en s) m (gN ts en s (ahf k (ts.drop s.i)) m):=by
 refine ph (aR aB Tryz.func239 ?_)
 ·simp only[go_sem];refine ab ((hP m).mono ?_);clear hP;rintro r H' m1 aN ⟨l1,x,e,s1,rfl,hx,rfl,hR⟩;simp only[go_sem];exact rk 7 rfl rfl (pH ts en s1) (List.Sublist.refl _) (.cons _ (List.Sublist.refl _)) fun a cp mm w1 w2 w3=>⟨aa l1 (.inr w1),⟨k,0,[],[],ai,a,1,cp⟩,.mk k 0 [] [] ai [e],s1,rfl,lk (es:=[e]) hk ⟨by decide,by decide⟩ (aG _) (aG _) gi (by simp) w2 w3 (qw (bw (.inr w1) hx)),rfl,aX hR (cJ _ hR.inv)⟩
theorem V4 (hT:TsB ts) (hI:Inv ts s) (hi:s.i<ts.length) (m:Mem):FnH Tryz.prog 205 [.box 0 0] (pH ts en s) m (gN ts en s (F1 (ts.drop s.i)) m):=by
 have hp:=ze ts en s m hT.l8;have hl:=hT.len;have hn:=hT.cn s.i;have hs:=hT.cs s.i;rw[F1,xr,acs,uA,<- b7];refine aR aB Tryz.func205 ?_
 ·simp only[go_sem];refine ab (hp.mono ?_);clear hp;rintro r H' m1 aN ⟨rfl,rfl⟩;simp only[go_sem];refine⟨by unfold aF;omega,fun h3=> ?_,fun h3=>⟨fun h4=> ?_,fun h4=> ?_⟩⟩
  ·rw[ah h3];exact⟨.inr aN,⟨1,(fD ts s.i).n,[],[],ai,none,0,0⟩,_,s.next,rfl,uy ⟨by decide,by decide⟩ hn (aG _) (aG _) gi,rfl,ct hI hi (cJ _ (hI.next hi))⟩
  ·rw[af h3,ah h4];exact⟨.inr aN,⟨2,(fD ts s.i).n,[],[],ai,none,0,0⟩,_,s.next,rfl,uy ⟨by decide,by decide⟩ hn (aG _) (aG _) gi,rfl,ct hI hi (cJ _ (hI.next hi))⟩
  ·rw[af h3,af h4];exact⟨.inr aN,⟨3,0,(fD ts s.i).s,[],ai,none,0,0⟩,_,s.next,rfl,uy ⟨by decide,by decide⟩ ⟨by decide,by decide⟩ hs (aG _) gi,rfl,ct hI hi (cJ _ (hI.next hi))⟩
theorem X1 (hT:TsB ts) (hI:Inv ts s) (hc:gj (ts.drop s.i)=true) (hA:∀s1,Inv ts s1->s.i<s1.i->wa ts en s1) (m:Mem):FnH Tryz.prog 207 [.box 0 0] (pH ts en s) m (gN ts en s (Tf (ts.drop s.i)) m):=by
 have h1:=fun m' =>oZ ts en s m' hT hI
 have hi:=RQ hc;refine aR aB Tryz.func207 ?_
 ·simp only[go_sem];refine ab ((h1 m).mono ?_);clear h1;rintro r H' m1 aN ⟨l1,c,s1,rfl,cH,rfl,eg⟩;simp only[go_sem];have ay:s.i<s1.i:=adT eg hI hi fun x r e=>by
   rw[fy,ah hc] at e;cases e;have cQ:ts.drop s.i≠[]:=fun e=>by rw[e] at hc;cases hc
   exact ep cQ
  have h2:=fun m' =>fu ts en s1 [46] m' hT.l8
  have wX:Inv ts (ba ts en s1 [46]):=fA eg.inv;have aY:s1.i<=(ba ts en s1 [46]).i:=gQ eg.inv;have h3:=fun m' =>qY ts en (ba ts en s1 [46]) m' hT wX
  refine ab ((h2 m1).mono ?_);clear h2;rintro r H' m2 aH ⟨l2,rfl,rfl⟩;simp only[go_sem];refine ab ((h3 m2).mono ?_);clear h3;rintro r H' m3 bI ⟨l3,w,s3,rfl,hw,rfl,hR3⟩;simp only[go_sem];have lx:=hR3.mono;by_cases h40:bu ts s3.i [40]=true
  ·have h4:=nc (en:=en) hT h40;have h5:=hA s3 hR3.inv (by omega);clear hA;refine ab ((h4 m3).mono ?_);clear h4;rintro r H' m4 cT ⟨l4,rfl,rfl⟩;simp only[go_sem];refine ab ((h5 m4).mono ?_);clear h5;rintro r H' m5 cO ⟨l5,es,a,cp,xs,s5,rfl,ha1,ha2,ha3,ha4,rfl,hR5⟩;simp only[go_sem];refine⟨(aa (aa (aa (aa l1 l2) l3) l4) l5),⟨11,0,w,c,ai,a,es.length,cp⟩,.mk 11 0 w c ai es,s5,rfl,lk ⟨by decide,by decide⟩ ⟨by decide,by decide⟩ hw cH gi (Nat.le_succ_of_le ha2) ha1 ha3 ha4,rfl,?_⟩;refine aX eg (dX eg.inv (aX hR3 ?_));rw[ah (by rw[<- aw];exact h40)];exact aX hR5 (cJ _ hR5.inv)
  ·have h4:=nd (en:=en) hT h40;clear hA;refine ab ((h4 m3).mono ?_);clear h4;rintro r H' m4 cT ⟨l4,rfl,rfl⟩;simp only[go_sem];refine⟨(aa (aa (aa l1 l2) l3) l4),⟨8,0,w,c,ai,none,0,0⟩,.mk 8 0 w c ai [],s3,rfl,uy ⟨by decide,by decide⟩ ⟨by decide,by decide⟩ hw cH gi,rfl,?_⟩;refine aX eg (dX eg.inv (aX hR3 ?_));rw[af (by rw[<- aw];exact h40)];exact cJ _ hR3.inv
theorem abA (hT:TsB ts) (hI:Inv ts s) (hA:∀s1,Inv ts s1->s.i<=s1.i->wa ts en s1) (m:Mem):FnH Tryz.prog 237 [.box 0 0] (pH ts en s) m (gN ts en s (aip (ts.drop s.i)) m):=by
 have h2:=fun m' =>fu ts en s [46] m' hT.l8
 have wX:Inv ts (ba ts en s [46]):=fA hI;have aY:s.i<=(ba ts en s [46]).i:=gQ hI;have h3:=fun m' =>qY ts en (ba ts en s [46]) m' hT wX
 refine aR aB Tryz.func237 ?_
 ·simp only[go_sem];refine ab ((h2 m).mono ?_);clear h2;rintro r H' m1 aN ⟨l1,rfl,rfl⟩;simp only[go_sem];refine ab ((h3 m1).mono ?_);clear h3;rintro r H' m2 aH ⟨l2,w,s3,rfl,hw,rfl,hR3⟩;simp only[go_sem];have lx:=hR3.mono;have h5:=hA s3 hR3.inv (by omega);clear hA;refine ab ((h5 m2).mono ?_);clear h5;rintro r H' m3 bI ⟨l3,es,a,cp,xs,s5,rfl,ha1,ha2,ha3,ha4,rfl,hR5⟩;simp only[go_sem];exact⟨(aa (aa l1 l2) l3),⟨12,0,w,[],ai,a,es.length,cp⟩,.mk 12 0 w [] ai es,s5,rfl,lk ⟨by decide,by decide⟩ ⟨by decide,by decide⟩ hw (aG _) gi (Nat.le_succ_of_le ha2) ha1 ha3 ha4,rfl,dX hI (aX hR3 (aX hR5 (cJ _ hR5.inv)))⟩
end
@[reducible] def AA (k:Nat):Bx:=⟨k,33,[.v (.int .i64 0),.v (.int .i64 0),.v (.string (bs [])),.v (.string (bs [])),.v (.int .i64 0),.v (.int .u8 0),.v (.string (bs [])),.v (.slice none 0 0)]⟩
attribute [go_sem] AA
noncomputable def TT (t2:Ty) (r3:List Tk):PR Ex:=an (dZ 0 r3) fun e r4=>aV [93] r4 fun r5=> .ok (.mk 14 0 [] [] t2 [e],r5)
theorem RU {α β:Type} {w:List UInt8} {l:List Tk} {k:List Tk->PR α} {F:α->List Tk->PR β}:an (aV w l k) F=aV w l fun r=>an (k r) F:=by
 unfold aV;split<;>rfl
section
variable {ts:List Tk} {en:Int} {s:PSt}
theorem WG (hT:TsB ts) (hI:Inv ts s) (hA:∀s1,Inv ts s1->s.i<=s1.i->wa ts en s1) (hE:∀s1,Inv ts s1->s.i<=s1.i->oI ts en 0 s1) (m:Mem):FnH Tryz.prog 238 [.box 0 0] (pH ts en s) m (gN ts en s (KS (ts.drop s.i)) m):=by
 have h1:=fun m' =>Nt ts en s m' hT hI
 refine ph (aR aB Tryz.func238 ?_)
 ·simp only[go_sem];refine ab ((h1 m).mono ?_);clear h1;rintro r H' m1 aN ⟨l1,t1,s1,rfl,ht1,ht2,ht3,rfl,eg⟩;simp only[go_sem];have lO:=eg.mono;refine⟨fun hb=> ?_,fun hb=> ?_⟩
  ·by_cases h40:bu ts s1.i [40]=true
   ·have h2:=nc (en:=en) hT h40;have h3:=hA s1 eg.inv lO;clear hA hE;refine ab ((h2 m1).mono ?_);clear h2;rintro r H' m2 aH ⟨l2,rfl,rfl⟩;simp only[go_sem];refine bO (.hoist 0 (.hoist 1 (.hoist 2 (.alt 3 [1,0] (.hoist 4 (.alt 5 [] .done .stop)) .stop)))) aB (by kernel_rfl) (by kernel_rfl) ?_;simp only[go_sem];refine ab ((h3 m2).mono ?_);clear h3;rintro r H' m3 bI ⟨l3,es,a,cp,xs,s5,rfl,ha1,ha2,ha3,ha4,rfl,hR5⟩;simp only[go_sem];refine⟨⟨l3,l3⟩,.inl ⟨(aa (aa l1 l2) l3),⟨13,0,[],t1.name,ai,a,es.length,cp⟩,.mk 13 0 [] t1.name ai es,s5,rfl,lk ⟨by decide,by decide⟩ ⟨by decide,by decide⟩ (aG _) ht3 gi (Nat.le_succ_of_le ha2) ha1 ha3 ha4,rfl,?_⟩⟩;refine aX eg ?_;rw[ah ⟨hb,by rw[<- aw];exact h40⟩];exact aX hR5 (cJ _ hR5.inv)
   ·have h2:=nd (en:=en) hT h40;refine ab ((h2 m1).mono ?_);clear h2;rintro r H' m2 aH ⟨l2,rfl,rfl⟩;simp only[go_sem];have h2:=fun m' =>fu ts en s1 [91] m' hT.l8
    have wX:Inv ts (ba ts en s1 [91]):=fA eg.inv;have aY:s1.i<=(ba ts en s1 [91]).i:=gQ eg.inv;clear hA;refine ab ((h2 m2).mono ?_);clear h2;rintro r H' m3 bI ⟨l3,rfl,rfl⟩;simp only[go_sem];refine du aB (fun y:PSt×Ty×Mem=>⟨[⟨0,[],.box 0 0⟩,⟨2,[],.box 2 0⟩,⟨3,[],.box 5 0⟩],[],[⟨5,30,[.v (.int .i64 y.2.1.dim),.v (.int .u8 y.2.1.base),.v (.string (bs y.2.1.name))]⟩,mK en y.1,AA 2],[kF ts],40,y.2.2⟩)
     (fun y=>ae m3 y.2.2/\Inv ts y.1/\s.i<=y.1.i/\y.2.1.name.length<=1000000/\(0<=y.2.1.base/\y.2.1.base<256)/\(0<=y.2.1.dim/\y.2.1.dim<=y.1.i)/\∀a s',Res ts en y.1 (an (xW y.2.1 (ts.drop y.1.i)) TT) a s' ->Res ts en s (KS (ts.drop s.i)) a s')
     (fun y=>ts.length - y.1.i) (ba ts en s1 [91],t1,m3) (fun _ _=>dv rfl) (fun y hy=>hy.1) ?_ ?_ ?_
    ·simp only[go_sem]
    ·exact⟨.inl rfl,wX,by dsimp only;omega,ht3,ht2,⟨by dsimp only;omega,by dsimp only;omega⟩,fun a s' h=>aX eg (by rw[af (fun q=>h40 (by rw[aw];exact q.2))];exact dX eg.inv h)⟩
    ·rintro⟨s4,t4,m4⟩ ⟨q1,q2,q3,q4,q5,q6,q7⟩;dsimp only at q1 q2 q3 q4 q5 q6 q7;have hl:=hT.len;have dG:=q2.le;by_cases h93:bu ts s4.i [93]=true
     ·have ha:=dO (en:=en) hT h93;have hi:=bC h93;have gd:=q2.next hi;have he:=fun m' =>fu ts en s4.next [91] m' hT.l8
      have yD:Inv ts (ba ts en s4.next [91]):=fA gd;have tE:s4.i+1<=(ba ts en s4.next [91]).i:=gQ gd;clear hE;simp only[go_sem];refine ab ((ha m4).mono ?_);clear ha;rintro r H' m5 cO ⟨l5,rfl,rfl⟩;simp only[go_sem];refine⟨by unfold aF;omega,by kernel_rfl,bo ((he m5).mono ?_)⟩;clear he;rintro r H' m6 eo ⟨l6,rfl,rfl⟩;simp only[go_sem];refine⟨(ba ts en s4.next [91],t4.up,m6),⟨⟨⟨rfl,rfl,rfl⟩,⟨rfl,rfl,rfl⟩⟩,.inl rfl⟩,⟨aa q1 (aa l5 l6),yD,by dsimp only;omega,q4,q5,⟨by show 0<=t4.dim+1;omega,by show t4.dim+1<=((ba ts en s4.next [91]).i:Int);omega⟩,fun a s' h=>q7 a s' ?_⟩,by dsimp only;omega⟩;rw[E4,ah (by rw[<- aw];exact h93),<- b7,RU];exact ct q2 hi (dX gd h)
     ·have ha:=dP (en:=en) hT h93;have he:=hE s4 q2 q3;have wR:∀m' :Mem,FnH Tryz.prog 31 [.box 0 0,.v (.int .i64 0)] (pH ts en s4) m' (gN ts en s4 (dZ 0 (ts.drop s4.i)) m'):=he;clear hE he;simp only[go_sem];refine ab ((ha m4).mono ?_);clear ha;rintro r H' m5 cO ⟨l5,rfl,rfl⟩;simp only[go_sem];refine ab ((wR m5).mono ?_);clear wR;rintro r H' m6 eo ⟨l6,x,e,s6,rfl,hx,rfl,hR6⟩;have h7:=fun m' =>fu ts en s6 [93] m' hT.l8
      simp only[go_sem];refine ab ((h7 m6).mono ?_);clear h7;rintro r H' m7 ft ⟨l7,rfl,rfl⟩;simp only[go_sem];exact rk 7 rfl rfl (pH ts en (ba ts en s6 [93])) (List.Sublist.refl _) (.cons _ (List.Sublist.refl _)) fun a cp mm w1 w2 w3=>⟨aa (aa (aa (aa l1 l2) l3) (aa q1 (aa l5 (aa l6 l7)))) (.inr w1),⟨14,0,[],[],t4,a,1,cp⟩,.mk 14 0 [] [] t4 [e],(ba ts en s6 [93]),rfl,lk (es:=[e]) ⟨by decide,by decide⟩ ⟨by decide,by decide⟩ (aG _) (aG _) ⟨by unfold aF;omega,q5,by unfold av;omega⟩ (by simp) w2 w3 (qw (bw (aa l7 (.inr w1)) hx)),rfl,q7 _ _ (by rw[E4,af (by rw[<- aw];exact h93)];exact aX (cJ t4 q2) (aX hR6 (dX hR6.inv (cJ _ (fA hR6.inv)))))⟩
  ·have h2:=fun m' =>fu ts en s1 [91] m' hT.l8
   have wX:Inv ts (ba ts en s1 [91]):=fA eg.inv;have aY:s1.i<=(ba ts en s1 [91]).i:=gQ eg.inv;clear hA;refine ab ((h2 m1).mono ?_);clear h2;rintro r H' m2 aH ⟨l2,rfl,rfl⟩;simp only[go_sem];refine du aB (fun y:PSt×Ty×Mem=>⟨[⟨0,[],.box 0 0⟩,⟨2,[],.box 2 0⟩,⟨3,[],.box 5 0⟩],[],[⟨5,30,[.v (.int .i64 y.2.1.dim),.v (.int .u8 y.2.1.base),.v (.string (bs y.2.1.name))]⟩,mK en y.1,AA 2],[kF ts],40,y.2.2⟩)
    (fun y=>ae m2 y.2.2/\Inv ts y.1/\s.i<=y.1.i/\y.2.1.name.length<=1000000/\(0<=y.2.1.base/\y.2.1.base<256)/\(0<=y.2.1.dim/\y.2.1.dim<=y.1.i)/\∀a s',Res ts en y.1 (an (xW y.2.1 (ts.drop y.1.i)) TT) a s' ->Res ts en s (KS (ts.drop s.i)) a s')
    (fun y=>ts.length - y.1.i) (ba ts en s1 [91],t1,m2) (fun _ _=>dv rfl) (fun y hy=>hy.1) ?_ ?_ ?_
   ·simp only[go_sem]
   ·exact⟨.inl rfl,wX,by dsimp only;omega,ht3,ht2,⟨by dsimp only;omega,by dsimp only;omega⟩,fun a s' h=>aX eg (by rw[af (fun q=>hb q.1)];exact dX eg.inv h)⟩
   ·rintro⟨s4,t4,m4⟩ ⟨q1,q2,q3,q4,q5,q6,q7⟩;dsimp only at q1 q2 q3 q4 q5 q6 q7;have hl:=hT.len;have dG:=q2.le;by_cases h93:bu ts s4.i [93]=true
    ·have ha:=dO (en:=en) hT h93;have hi:=bC h93;have gd:=q2.next hi;have he:=fun m' =>fu ts en s4.next [91] m' hT.l8
     have yD:Inv ts (ba ts en s4.next [91]):=fA gd;have tE:s4.i+1<=(ba ts en s4.next [91]).i:=gQ gd;clear hE;simp only[go_sem];refine ab ((ha m4).mono ?_);clear ha;rintro r H' m5 cO ⟨l5,rfl,rfl⟩;simp only[go_sem];refine⟨by unfold aF;omega,by kernel_rfl,bo ((he m5).mono ?_)⟩;clear he;rintro r H' m6 eo ⟨l6,rfl,rfl⟩;simp only[go_sem];refine⟨(ba ts en s4.next [91],t4.up,m6),⟨⟨⟨rfl,rfl,rfl⟩,⟨rfl,rfl,rfl⟩⟩,.inl rfl⟩,⟨aa q1 (aa l5 l6),yD,by dsimp only;omega,q4,q5,⟨by show 0<=t4.dim+1;omega,by show t4.dim+1<=((ba ts en s4.next [91]).i:Int);omega⟩,fun a s' h=>q7 a s' ?_⟩,by dsimp only;omega⟩;rw[E4,ah (by rw[<- aw];exact h93),<- b7,RU];exact ct q2 hi (dX gd h)
    ·have ha:=dP (en:=en) hT h93;have he:=hE s4 q2 q3;have wR:∀m' :Mem,FnH Tryz.prog 31 [.box 0 0,.v (.int .i64 0)] (pH ts en s4) m' (gN ts en s4 (dZ 0 (ts.drop s4.i)) m'):=he;clear hE he;simp only[go_sem];refine ab ((ha m4).mono ?_);clear ha;rintro r H' m5 cO ⟨l5,rfl,rfl⟩;simp only[go_sem];refine ab ((wR m5).mono ?_);clear wR;rintro r H' m6 eo ⟨l6,x,e,s6,rfl,hx,rfl,hR6⟩;have h7:=fun m' =>fu ts en s6 [93] m' hT.l8
     simp only[go_sem];refine ab ((h7 m6).mono ?_);clear h7;rintro r H' m7 ft ⟨l7,rfl,rfl⟩;simp only[go_sem];exact rk 7 rfl rfl (pH ts en (ba ts en s6 [93])) (List.Sublist.refl _) (.cons _ (List.Sublist.refl _)) fun a cp mm w1 w2 w3=>⟨aa (aa (aa l1 l2) (aa q1 (aa l5 (aa l6 l7)))) (.inr w1),⟨14,0,[],[],t4,a,1,cp⟩,.mk 14 0 [] [] t4 [e],(ba ts en s6 [93]),rfl,lk (es:=[e]) ⟨by decide,by decide⟩ ⟨by decide,by decide⟩ (aG _) (aG _) ⟨by unfold aF;omega,q5,by unfold av;omega⟩ (by simp) w2 w3 (qw (bw (aa l7 (.inr w1)) hx)),rfl,q7 _ _ (by rw[E4,af (by rw[<- aw];exact h93)];exact aX (cJ t4 q2) (aX hR6 (dX hR6.inv (cJ _ (fA hR6.inv)))))⟩
end
section
variable {ts:List Tk} {en:Int} {s:PSt}
theorem Xv (hT:TsB ts) (hI:Inv ts s) (hA:∀s1,Inv ts s1->s.i<s1.i->wa ts en s1) (hP:∀s1,Inv ts s1->s.i<s1.i->Fz ts en s1) (hE:∀s1,Inv ts s1->s.i<s1.i->oI ts en 0 s1) (m:Mem):FnH Tryz.prog 204 [.box 0 0] (pH ts en s) m (gN ts en s (Ao (ts.drop s.i)) m):=by
 refine aR aB Tryz.func204 ?_
 ·simp only[go_sem];by_cases h0:bu ts s.i [110,117,108,108]=true
  ·have ha:=dO (en:=en) hT h0;have hi:=bC h0;have fG:=hI.next hi;clear hA hP hE;refine ab ((ha m).mono ?_);clear ha;rintro r H' m1 aN ⟨l1,rfl,rfl⟩;simp only[go_sem];exact⟨l1,⟨4,0,[],[],ai,none,0,0⟩,_,s.next,rfl,uy ⟨by decide,by decide⟩ ⟨by decide,by decide⟩ (aG _) (aG _) gi,rfl,by rw[vF,ah (by rw[<- aw];exact h0),<- b7];exact ct hI hi (cJ _ fG)⟩
  ·have ha:=dP (en:=en) hT h0;refine ab ((ha m).mono ?_);clear ha;rintro r H' m1 aN ⟨l1,rfl,rfl⟩;simp only[go_sem];by_cases h1:bu ts s.i [116,104,105,115]=true
   ·have ha:=dO (en:=en) hT h1;have hi:=bC h1;have fG:=hI.next hi;clear hA hP hE;refine ab ((ha m1).mono ?_);clear ha;rintro r H' m2 aH ⟨l2,rfl,rfl⟩;simp only[go_sem];exact⟨(aa l1 l2),⟨5,0,[],[],ai,none,0,0⟩,_,s.next,rfl,uy ⟨by decide,by decide⟩ ⟨by decide,by decide⟩ (aG _) (aG _) gi,rfl,by rw[vF,af (by rw[<- aw];exact h0),ah (by rw[<- aw];exact h1),<- b7];exact ct hI hi (cJ _ fG)⟩
   ·have ha:=dP (en:=en) hT h1;refine ab ((ha m1).mono ?_);clear ha;rintro r H' m2 aH ⟨l2,rfl,rfl⟩;simp only[go_sem];by_cases h2:bu ts s.i [115,117,112,101,114]=true
    ·have ha:=dO (en:=en) hT h2;have hi:=bC h2;have fG:=hI.next hi;have hs:=abA (s:=s.next) (en:=en) hT fG (fun s1 g1 g2=>hA s1 g1 (eM (Nat.lt_succ_self _) g2));clear hA hP hE;refine ab ((ha m2).mono ?_);clear ha;rintro r H' m3 bI ⟨l3,rfl,rfl⟩;simp only[go_sem];refine ab ((hs m3).mono ?_);clear hs;rintro r H' m4 cT ⟨l4,x,e,s1,rfl,hx,rfl,hR⟩;simp only[go_sem];exact⟨(aa (aa (aa l1 l2) l3) l4),x,e,s1,rfl,hx,rfl,by rw[vF,af (by rw[<- aw];exact h0),af (by rw[<- aw];exact h1),ah (by rw[<- aw];exact h2),<- b7];exact ct hI hi hR⟩
    ·have ha:=dP (en:=en) hT h2;refine ab ((ha m2).mono ?_);clear ha;rintro r H' m3 bI ⟨l3,rfl,rfl⟩;simp only[go_sem];by_cases h3:bu ts s.i [110,101,119]=true
     ·have ha:=dO (en:=en) hT h3;have hi:=bC h3;have fG:=hI.next hi;have hs:=WG (s:=s.next) (en:=en) hT fG (fun s1 g1 g2=>hA s1 g1 (eM (Nat.lt_succ_self _) g2)) (fun s1 g1 g2=>hE s1 g1 (eM (Nat.lt_succ_self _) g2));clear hA hP hE;refine ab ((ha m3).mono ?_);clear ha;rintro r H' m4 cT ⟨l4,rfl,rfl⟩;simp only[go_sem];refine ab ((hs m4).mono ?_);clear hs;rintro r H' m5 cO ⟨l5,x,e,s1,rfl,hx,rfl,hR⟩;simp only[go_sem];exact⟨(aa (aa (aa (aa l1 l2) l3) l4) l5),x,e,s1,rfl,hx,rfl,by rw[vF,af (by rw[<- aw];exact h0),af (by rw[<- aw];exact h1),af (by rw[<- aw];exact h2),ah (by rw[<- aw];exact h3),<- b7];exact ct hI hi hR⟩
     ·have ha:=dP (en:=en) hT h3;refine ab ((ha m3).mono ?_);clear ha;rintro r H' m4 cT ⟨l4,rfl,rfl⟩;simp only[go_sem];by_cases h4:bu ts s.i [108,101,110]=true
      ·have ha:=dO (en:=en) hT h4;have hi:=bC h4;have fG:=hI.next hi;have hs:=Jt (s:=s.next) (en:=en) hT 19 ⟨by decide,by decide⟩ (hP s.next fG (Nat.lt_succ_self _));clear hA hP hE;refine ab ((ha m4).mono ?_);clear ha;rintro r H' m5 cO ⟨l5,rfl,rfl⟩;simp only[go_sem];refine ab ((hs m5).mono ?_);clear hs;rintro r H' m6 eo ⟨l6,x,e,s1,rfl,hx,rfl,hR⟩;simp only[go_sem];exact⟨(aa (aa (aa (aa (aa l1 l2) l3) l4) l5) l6),x,e,s1,rfl,hx,rfl,by rw[vF,af (by rw[<- aw];exact h0),af (by rw[<- aw];exact h1),af (by rw[<- aw];exact h2),af (by rw[<- aw];exact h3),ah (by rw[<- aw];exact h4),<- b7];exact ct hI hi hR⟩
      ·have ha:=dP (en:=en) hT h4;refine ab ((ha m4).mono ?_);clear ha;rintro r H' m5 cO ⟨l5,rfl,rfl⟩;simp only[go_sem];by_cases h5:bu ts s.i iH=true
       ·have ha:=dO (en:=en) hT h5;have hi:=bC h5;have fG:=hI.next hi;have hs:=Jt (s:=s.next) (en:=en) hT 20 ⟨by decide,by decide⟩ (hP s.next fG (Nat.lt_succ_self _));clear hA hP hE;refine ab ((ha m5).mono ?_);clear ha;rintro r H' m6 eo ⟨l6,rfl,rfl⟩;simp only[go_sem];refine ab ((hs m6).mono ?_);clear hs;rintro r H' m7 ft ⟨l7,x,e,s1,rfl,hx,rfl,hR⟩;simp only[go_sem];exact⟨(aa (aa (aa (aa (aa (aa l1 l2) l3) l4) l5) l6) l7),x,e,s1,rfl,hx,rfl,by rw[vF,af (by rw[<- aw];exact h0),af (by rw[<- aw];exact h1),af (by rw[<- aw];exact h2),af (by rw[<- aw];exact h3),af (by rw[<- aw];exact h4),ah (by rw[<- aw];exact h5),<- b7];exact ct hI hi hR⟩
       ·have ha:=dP (en:=en) hT h5;refine ab ((ha m5).mono ?_);clear ha;rintro r H' m6 eo ⟨l6,rfl,rfl⟩;simp only[go_sem];by_cases h6:bu ts s.i iE=true
        ·have ha:=dO (en:=en) hT h6;have hi:=bC h6;have fG:=hI.next hi;have hs:=Jt (s:=s.next) (en:=en) hT 21 ⟨by decide,by decide⟩ (hP s.next fG (Nat.lt_succ_self _));clear hA hP hE;refine ab ((ha m6).mono ?_);clear ha;rintro r H' m7 ft ⟨l7,rfl,rfl⟩;simp only[go_sem];refine ab ((hs m7).mono ?_);clear hs;rintro r H' m8 ix ⟨l8,x,e,s1,rfl,hx,rfl,hR⟩;simp only[go_sem];exact⟨(aa (aa (aa (aa (aa (aa (aa l1 l2) l3) l4) l5) l6) l7) l8),x,e,s1,rfl,hx,rfl,by rw[vF,af (by rw[<- aw];exact h0),af (by rw[<- aw];exact h1),af (by rw[<- aw];exact h2),af (by rw[<- aw];exact h3),af (by rw[<- aw];exact h4),af (by rw[<- aw];exact h5),ah (by rw[<- aw];exact h6),<- b7];exact ct hI hi hR⟩
        ·have ha:=dP (en:=en) hT h6;refine ab ((ha m6).mono ?_);clear ha;rintro r H' m7 ft ⟨l7,rfl,rfl⟩;simp only[go_sem];have hf:=fun m' =>Be ts en s m' hT.l8
         clear hA hP hE;refine ab ((hf m7).mono ?_);clear hf;rintro r H' m8 ix ⟨rfl,rfl,rfl⟩;simp only[go_sem];exact⟨(aa (aa (aa (aa (aa (aa l1 l2) l3) l4) l5) l6) l7),⟨0,0,[],[],ai,none,0,0⟩,.mk 0 0 [] [] ai [],_,rfl,uy ⟨by decide,by decide⟩ ⟨by decide,by decide⟩ (aG _) (aG _) gi,rfl,by rw[vF,af (by rw[<- aw];exact h0),af (by rw[<- aw];exact h1),af (by rw[<- aw];exact h2),af (by rw[<- aw];exact h3),af (by rw[<- aw];exact h4),af (by rw[<- aw];exact h5),af (by rw[<- aw];exact h6)];exact EB _ hI⟩
end
end Go.Proofs.YtimddhkipjedcaaGreatDoor.E

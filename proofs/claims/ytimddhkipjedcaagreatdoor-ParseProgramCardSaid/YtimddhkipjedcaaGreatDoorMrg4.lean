/- Several texts in one. -/
import Derived.WideKeyRuns
import Derived.Test.YtimddhkipjedcaaGreatDoorMrg3
set_option linter.unusedSimpArgs false
set_option linter.unusedVariables false
set_option maxHeartbeats 4000000
set_option maxRecDepth 20000
namespace Go.Proofs.YtimddhkipjedcaaGreatDoor.E
open Go
def kr (n:Nat) (B:Nat->Bool):Bool:=(List.range n).any B
theorem Dc {n:Nat} {B:Nat->Bool}:kr (n+1) B=(kr n B||B n):=by simp [kr,List.range_succ,List.any_append]
theorem Dz {n k:Nat} {B:Nat->Bool} (hk:k<n) (h:B k=true):kr n B=true:=by
 simp only[kr,List.any_eq_true,List.mem_range];exact⟨k,hk,h⟩
theorem LD {α:Type} (p:α->Bool):∀(l:List α) (B:Nat->Bool),(∀i (h:i<l.length),B i=p l[i])->kr l.length B=l.any p
 |[],_,_=>rfl
 |x::r,B,h=>by
  have h0:=h 0 (by simp);have hr:=LD p r (fun i=>B (i+1)) fun i hi=>h (i+1) (by simpa using hi)
  rw[List.any_cons,<- hr,cv];simp only[kr,List.range_succ_eq_map,List.any_cons,List.any_map,h0,List.getElem_cons_zero];rfl
theorem Z1 (f:FuncId) (B:Nat->Bool) (a:Option Addr) (n c:Nat) (xs:List Value) (m:Mem) (hr:aK m a n 4 xs) (hn:n<=aA) (ax:iJ Tryz.prog f=true)
  (hx:∀i,i<n->∃X:Pc,(xs.drop (i * 4)).take 4=X.cs/\∀m',an m m' ->aB f [.v (.agg ⟨X.cs⟩)] m' (.bool (B i))):
  FnH Tryz.prog 231 [.v (.slice a n c),.v (.func (.func f) ⟨[]⟩ ⟨[]⟩)] ⟨[],[]⟩ m fun r H' m' =>an m m' /\H' =⟨[],[]⟩/\∃i:Int,r= .v (.int .i64 i)/\decide (0<=i)=kr n B:=by
 refine aL ay Tryz.func231 ?_
 ·simp only[go_sem];refine cO ay (fun x:Nat×Mem=>⟨[⟨0,[],.v (.slice a n c)⟩,⟨1,[],.v (.func (.func f) ⟨[]⟩ ⟨[]⟩)⟩,⟨7,[],.v (.int .i64 n)⟩,⟨8,[],.v (.int .i64 x.1)⟩],[],[],[],0,x.2⟩)
   (fun x=>an m x.2/\x.1<=n/\kr x.1 B=false) (fun x=>n - x.1) (0,m) (fun _ _=>aq _) (fun x hx=>hx.1) ?_ ?_ ?_
  ·simp only[go_sem];rfl
  ·exact⟨.inl rfl,au _,rfl⟩
  ·rintro⟨k,mm⟩ ⟨h1,h2,h3⟩;simp only at h1 h2 h3;have dU:gA.own f=false:=rfl;have hy:∀(hk:k<n),∃X:Pc,(Rd mm (ct a (k * 4)) X.cs/\a≠none)/\aB f [.v (.agg ⟨X.cs⟩)] mm (.bool (B k)):=fun hk=>by
     obtain⟨X,e1,e3⟩:=hx k hk;have r1:=dG (aD h1 hr) hk;rw[e1] at r1;exact⟨X,r1,e3 mm h1⟩
   clear hx;simp only[go_sem,dU];refine⟨fun ao=> ?_,fun cQ=>⟨h1,?_⟩⟩
   ·have hk:k<n:=by clear hy;omega
    refine Exists.elim (hy hk) fun X bb=>⟨⟨by clear hy bb;omega,ao,bb.1.2⟩,X.cs,⟨bb.1.1,rfl⟩,?_⟩
    clear hy;have ha:=bb.2;clear bb;simp only[go_sem,dU,Pc.cs];refine⟨ax,dh ((aX ha (fun V=>rfl)).mono ?_)⟩;clear ha;rintro r H' m' hm ⟨hle,rfl,rfl⟩;simp only[go_sem];refine⟨fun hb=>⟨aa h1 hle,?_⟩,fun hb=>⟨by unfold az;simp only[aA] at hn;omega,(k+1,m'),⟨by simp,.inl rfl⟩,⟨aa h1 hle,by simp only;omega,?_⟩,by simp only;omega⟩⟩
    ·rw[Dz hk hb];simp
    ·simp only;rw[Dc,h3,hb];rfl
   ·have:k=n:=by clear hy;omega
    rw[<- this,h3];rfl
theorem aaB (f:FuncId) (B:Nat->Bool) (a:Option Addr) (n c:Nat) (xs:List Value) (m:Mem) (hr:aK m a n 4 xs) (hn:n<=aA) (ax:iJ Tryz.prog f=true)
  (hx:∀i,i<n->∃X:Pc,(xs.drop (i * 4)).take 4=X.cs/\∀m',an m m' ->aB f [.v (.agg ⟨X.cs⟩)] m' (.bool (B i))):
  aB 197 [.v (.slice a n c),.v (.func (.func f) ⟨[]⟩ ⟨[]⟩)] m (.bool (kr n B)):=by
 refine aL ay Tryz.func197 ?_
 ·simp only[go_sem];refine ab ((Z1 f B a n c xs m hr hn ax hx).mono ?_);clear hx;rintro r H' m' hm ⟨hle,rfl,i,rfl,hi⟩;simp only[go_sem];exact⟨hle,hi⟩
theorem Z3 (f:FuncId) (B:Nat->Bool) (a:Option Addr) (n c:Nat) (xs:List Value) (m:Mem) (hr:aK m a n 5 xs) (hn:n<=aA) (ax:iJ Tryz.prog f=true)
  (hx:∀i,i<n->∃X:Fc,(xs.drop (i * 5)).take 5=X.cs/\∀m',an m m' ->aB f [.v (.agg ⟨X.cs⟩)] m' (.bool (B i))):
  FnH Tryz.prog 199 [.v (.slice a n c),.v (.func (.func f) ⟨[]⟩ ⟨[]⟩)] ⟨[],[]⟩ m fun r H' m' =>an m m' /\H' =⟨[],[]⟩/\∃i:Int,r= .v (.int .i64 i)/\decide (0<=i)=kr n B:=by
 refine aL ay Tryz.func199 ?_
 ·simp only[go_sem];refine cO ay (fun x:Nat×Mem=>⟨[⟨0,[],.v (.slice a n c)⟩,⟨1,[],.v (.func (.func f) ⟨[]⟩ ⟨[]⟩)⟩,⟨7,[],.v (.int .i64 n)⟩,⟨8,[],.v (.int .i64 x.1)⟩],[],[],[],0,x.2⟩)
   (fun x=>an m x.2/\x.1<=n/\kr x.1 B=false) (fun x=>n - x.1) (0,m) (fun _ _=>aq _) (fun x hx=>hx.1) ?_ ?_ ?_
  ·simp only[go_sem];rfl
  ·exact⟨.inl rfl,au _,rfl⟩
  ·rintro⟨k,mm⟩ ⟨h1,h2,h3⟩;simp only at h1 h2 h3;have dU:gA.own f=false:=rfl;have hy:∀(hk:k<n),∃X:Fc,(Rd mm (ct a (k * 5)) X.cs/\a≠none)/\aB f [.v (.agg ⟨X.cs⟩)] mm (.bool (B k)):=fun hk=>by
     obtain⟨X,e1,e3⟩:=hx k hk;have r1:=dG (aD h1 hr) hk;rw[e1] at r1;exact⟨X,r1,e3 mm h1⟩
   clear hx;simp only[go_sem,dU];refine⟨fun ao=> ?_,fun cQ=>⟨h1,?_⟩⟩
   ·have hk:k<n:=by clear hy;omega
    refine Exists.elim (hy hk) fun X bb=>⟨⟨by clear hy bb;omega,ao,bb.1.2⟩,X.cs,⟨bb.1.1,rfl⟩,?_⟩
    clear hy;have ha:=bb.2;clear bb;simp only[go_sem,dU,Fc.cs];refine⟨ax,dh ((aX ha (fun V=>rfl)).mono ?_)⟩;clear ha;rintro r H' m' hm ⟨hle,rfl,rfl⟩;simp only[go_sem];refine⟨fun hb=>⟨aa h1 hle,?_⟩,fun hb=>⟨by unfold az;simp only[aA] at hn;omega,(k+1,m'),⟨by simp,.inl rfl⟩,⟨aa h1 hle,by simp only;omega,?_⟩,by simp only;omega⟩⟩
    ·rw[Dz hk hb];simp
    ·simp only;rw[Dc,h3,hb];rfl
   ·have:k=n:=by clear hy;omega
    rw[<- this,h3];rfl
theorem aaD (f:FuncId) (B:Nat->Bool) (a:Option Addr) (n c:Nat) (xs:List Value) (m:Mem) (hr:aK m a n 5 xs) (hn:n<=aA) (ax:iJ Tryz.prog f=true)
  (hx:∀i,i<n->∃X:Fc,(xs.drop (i * 5)).take 5=X.cs/\∀m',an m m' ->aB f [.v (.agg ⟨X.cs⟩)] m' (.bool (B i))):
  aB 140 [.v (.slice a n c),.v (.func (.func f) ⟨[]⟩ ⟨[]⟩)] m (.bool (kr n B)):=by
 refine aL ay Tryz.func140 ?_
 ·simp only[go_sem];refine ab ((Z3 f B a n c xs m hr hn ax hx).mono ?_);clear hx;rintro r H' m' hm ⟨hle,rfl,i,rfl,hi⟩;simp only[go_sem];exact⟨hle,hi⟩
theorem Z2 (f:FuncId) (B:Nat->Bool) (a:Option Addr) (n c:Nat) (xs:List Value) (m:Mem) (hr:aK m a n 8 xs) (hn:n<=aA) (ax:iJ Tryz.prog f=true)
  (hx:∀i,i<n->∃X:Mc,(xs.drop (i * 8)).take 8=X.cs/\∀m',an m m' ->aB f [.v (.agg ⟨X.cs⟩)] m' (.bool (B i))):
  FnH Tryz.prog 200 [.v (.slice a n c),.v (.func (.func f) ⟨[]⟩ ⟨[]⟩)] ⟨[],[]⟩ m fun r H' m' =>an m m' /\H' =⟨[],[]⟩/\∃i:Int,r= .v (.int .i64 i)/\decide (0<=i)=kr n B:=by
 refine aL ay Tryz.func200 ?_
 ·simp only[go_sem];refine cO ay (fun x:Nat×Mem=>⟨[⟨0,[],.v (.slice a n c)⟩,⟨1,[],.v (.func (.func f) ⟨[]⟩ ⟨[]⟩)⟩,⟨7,[],.v (.int .i64 n)⟩,⟨8,[],.v (.int .i64 x.1)⟩],[],[],[],0,x.2⟩)
   (fun x=>an m x.2/\x.1<=n/\kr x.1 B=false) (fun x=>n - x.1) (0,m) (fun _ _=>aq _) (fun x hx=>hx.1) ?_ ?_ ?_
  ·simp only[go_sem];rfl
  ·exact⟨.inl rfl,au _,rfl⟩
  ·rintro⟨k,mm⟩ ⟨h1,h2,h3⟩;simp only at h1 h2 h3;have dU:gA.own f=false:=rfl;have hy:∀(hk:k<n),∃X:Mc,(Rd mm (ct a (k * 8)) X.cs/\a≠none)/\aB f [.v (.agg ⟨X.cs⟩)] mm (.bool (B k)):=fun hk=>by
     obtain⟨X,e1,e3⟩:=hx k hk;have r1:=dG (aD h1 hr) hk;rw[e1] at r1;exact⟨X,r1,e3 mm h1⟩
   clear hx;simp only[go_sem,dU];refine⟨fun ao=> ?_,fun cQ=>⟨h1,?_⟩⟩
   ·have hk:k<n:=by clear hy;omega
    refine Exists.elim (hy hk) fun X bb=>⟨⟨by clear hy bb;omega,ao,bb.1.2⟩,X.cs,⟨bb.1.1,rfl⟩,?_⟩
    clear hy;have ha:=bb.2;clear bb;simp only[go_sem,dU,Mc.cs];refine⟨ax,dh ((aX ha (fun V=>rfl)).mono ?_)⟩;clear ha;rintro r H' m' hm ⟨hle,rfl,rfl⟩;simp only[go_sem];refine⟨fun hb=>⟨aa h1 hle,?_⟩,fun hb=>⟨by unfold az;simp only[aA] at hn;omega,(k+1,m'),⟨by simp,.inl rfl⟩,⟨aa h1 hle,by simp only;omega,?_⟩,by simp only;omega⟩⟩
    ·rw[Dz hk hb];simp
    ·simp only;rw[Dc,h3,hb];rfl
   ·have:k=n:=by clear hy;omega
    rw[<- this,h3];rfl
theorem aaC (f:FuncId) (B:Nat->Bool) (a:Option Addr) (n c:Nat) (xs:List Value) (m:Mem) (hr:aK m a n 8 xs) (hn:n<=aA) (ax:iJ Tryz.prog f=true)
  (hx:∀i,i<n->∃X:Mc,(xs.drop (i * 8)).take 8=X.cs/\∀m',an m m' ->aB f [.v (.agg ⟨X.cs⟩)] m' (.bool (B i))):
  aB 141 [.v (.slice a n c),.v (.func (.func f) ⟨[]⟩ ⟨[]⟩)] m (.bool (kr n B)):=by
 refine aL ay Tryz.func141 ?_
 ·simp only[go_sem];refine ab ((Z2 f B a n c xs m hr hn ax hx).mono ?_);clear hx;rintro r H' m' hm ⟨hle,rfl,i,rfl,hi⟩;simp only[go_sem];exact⟨hle,hi⟩
theorem acM (f:FuncId) (B:Nat->Bool) (a:Option Addr) (n c:Nat) (xs:List Value) (m:Mem) (hr:aK m a n 1 xs) (hn:n<=aA) (ax:iJ Tryz.prog f=true)
  (hx:∀i,i<n->∃s:List UInt8,xs[i]? =some (.string (bs s))/\∀m',an m m' ->aB f [.v (.string (bs s))] m' (.bool (B i))):
  FnH Tryz.prog 198 [.v (.slice a n c),.v (.func (.func f) ⟨[]⟩ ⟨[]⟩)] ⟨[],[]⟩ m fun r H' m' =>an m m' /\H' =⟨[],[]⟩/\∃i:Int,r= .v (.int .i64 i)/\decide (0<=i)=kr n B:=by
 refine aL ay Tryz.func198 ?_
 ·simp only[go_sem];refine cO ay (fun x:Nat×Mem=>⟨[⟨0,[],.v (.slice a n c)⟩,⟨1,[],.v (.func (.func f) ⟨[]⟩ ⟨[]⟩)⟩,⟨7,[],.v (.int .i64 n)⟩,⟨8,[],.v (.int .i64 x.1)⟩],[],[],[],0,x.2⟩)
   (fun x=>an m x.2/\x.1<=n/\kr x.1 B=false) (fun x=>n - x.1) (0,m) (fun _ _=>aq _) (fun x hx=>hx.1) ?_ ?_ ?_
  ·simp only[go_sem];rfl
  ·exact⟨.inl rfl,au _,rfl⟩
  ·rintro⟨k,mm⟩ ⟨h1,h2,h3⟩;simp only at h1 h2 h3;have dU:gA.own f=false:=rfl;have hy:∀(hk:k<n),∃s:List UInt8,(Rd mm (ct a k) [.string (bs s)]/\a≠none)/\aB f [.v (.string (bs s))] mm (.bool (B k)):=fun hk=>by
     obtain⟨s,e1,e3⟩:=hx k hk;obtain⟨iu,r1,cP⟩:=DP (aD h1 hr) hk;rw[List.getElem?_eq_getElem iu] at e1;rw[Option.some.inj e1] at r1;exact⟨s,⟨r1,cP⟩,e3 mm h1⟩
   clear hx;simp only[go_sem,dU];refine⟨fun ao=> ?_,fun cQ=>⟨h1,?_⟩⟩
   ·have hk:k<n:=by clear hy;omega
    refine Exists.elim (hy hk) fun s bb=>⟨⟨by clear hy bb;omega,ao,bb.1.2⟩,_,bb.1.1,?_⟩
    clear hy;have ha:=bb.2;clear bb;refine⟨ax,dh ((ha).mono ?_)⟩;clear ha;rintro r H' m' hm ⟨hle,rfl,rfl⟩;simp only[go_sem];refine⟨fun hb=>⟨aa h1 hle,?_⟩,fun hb=>⟨by unfold az;simp only[aA] at hn;omega,(k+1,m'),⟨by simp,.inl rfl⟩,⟨aa h1 hle,by simp only;omega,?_⟩,by simp only;omega⟩⟩
    ·rw[Dz hk hb];simp
    ·simp only;rw[Dc,h3,hb];rfl
   ·have:k=n:=by clear hy;omega
    rw[<- this,h3];rfl
theorem adr (f:FuncId) (B:Nat->Bool) (a:Option Addr) (n c:Nat) (xs:List Value) (m:Mem) (hr:aK m a n 1 xs) (hn:n<=aA) (ax:iJ Tryz.prog f=true)
  (hx:∀i,i<n->∃s:List UInt8,xs[i]? =some (.string (bs s))/\∀m',an m m' ->aB f [.v (.string (bs s))] m' (.bool (B i))):
  aB 139 [.v (.slice a n c),.v (.func (.func f) ⟨[]⟩ ⟨[]⟩)] m (.bool (kr n B)):=by
 refine aL ay Tryz.func139 ?_
 ·simp only[go_sem];refine ab ((acM f B a n c xs m hr hn ax hx).mono ?_);clear hx;rintro r H' m' hm ⟨hle,rfl,i,rfl,hi⟩;simp only[go_sem];exact⟨hle,hi⟩
def ai:Ty:=⟨0,0,[]⟩
def acr (e:Ex):Ex:= .mk 15 0 [45] [] ai [e]
def zE:Ex:= .mk 0 0 [] [] ai []
def kh (k n:Int) (s c:List UInt8) (ty:Ty) (l:Nat):Bool:=decide (l=0)&&decide (k=0)&&decide (n=0)&&decide (s=[])&&decide (c=[])&&Ty.eq ty ai
def mS:Ex->Bool | .mk k n s c ty args=>kh k n s c ty args.length
def uZ:Ex->Bool | .mk k n s c ty args=>kh k n s c ty 0&&decide (args.length<=16)&&kT args
def tA (e:Ex):Bool:=(decide (e.k=6)||decide (e.k=7)||decide (e.k=8)||decide (e.k=9))&&dS e
def tR (e:Ex):Bool:=(decide (e.k=10)||decide (e.k=11)||decide (e.k=12)||decide (e.k=13))&&dS e
def St.k:St->Int | .mk k _ _ _ _ _ _=>k
def jt (k:Int) (nm:List UInt8) (ty:Ty) (tg ex:Ex) (body alt:List St):St:=
 if k=1 then .mk k nm ty zE ex [] []
 else if k=2 then .mk k [] ai tg ex [] []
 else if k=4 then .mk k [] ai zE ex body alt
 else if k=5\/k=9 then .mk k [] ai zE ex body []
 else if k=8 then .mk k nm ty zE zE body alt
 else if k=10 then .mk k [] ai zE zE body []
 else .mk k [] ai zE ex [] []
def iD (k:Int) (nm:List UInt8) (ty:Ty) (tg ex:Ex) (B:Bool):Bool:=
 if k=1 then eP nm&&gR ty.dim ty.base ty.name&&dS ex
 else if k=2 then tA tg&&dS ex
 else if k=3 then tR ex
 else if k=4\/k=5\/k=9 then B&&dS ex
 else if k=6 then mS ex||dS ex
 else if k=7 then dS ex
 else if k=8 then B&&eP nm&&gR ty.dim ty.base ty.name
 else if k=10 then B
 else if k=11 then uZ ex
 else false
mutual
def iB:St->Bool
 | .mk k nm ty tg ex body alt=>iD k nm ty tg ex (decide (body.length<=32)&&jj false body&&(decide (alt.length<=32)&&jj false alt))&&de (.mk k nm ty tg ex body alt) (jt k nm ty tg ex body alt)
def jj:Bool->List St->Bool
 |_,[]=>true
 |sup,e::r=>(!decide (e.k=11)||sup)&&iB e&&jj false r
end
def fD (sup:Bool) (l:List St):Bool:=decide (l.length<=32)&&jj sup l
def oD (sup:Bool) (i:Nat) (e:St):Bool:=(!decide (e.k=11)||(sup&&decide (i=0)))&&iB e
theorem CF:∀{l:List St} {sup:Bool} {i:Nat} (hi:i<l.length),jj sup (l.take (i+1))=(jj sup (l.take i)&&oD sup i l[i])
 |[],_,_,hi=>absurd hi (Nat.not_lt_zero _)
 |e::r,sup,0,_=>by simp [jj,oD]
 |e::r,sup,i+1,hi=>by
  have:=CF (l:=r) (sup:=false) (i:=i) (by simpa using hi);simp only[List.take_succ_cons,jj,this,List.getElem_cons_succ];simp only[oD,Bool.false_and,Nat.add_one_ne_zero,aQ,Bool.and_false,Bool.and_assoc]
theorem CN:∀{l:List St} {sup:Bool} {i:Nat} (hi:i<l.length),oD sup i l[i]=false->jj sup l=false:=fun{l sup i} hi h=>by
 have h1:=CF (sup:=sup) hi;rw[h,Bool.and_false] at h1;have:∀(l:List St) (sup:Bool) (j:Nat),jj sup (l.take j)=false->jj sup l=false:=by
  intro l;induction l with
  |nil=>intro sup j h;simpa using h
  |cons e r ih=>
   intro sup j h;cases j with
   |zero=>simp [jj] at h
   |succ j=>
    simp only[List.take_succ_cons,jj] at h ⊢;cases h2:jj false (r.take j) with
    |false=>rw[ih false j h2,Bool.and_false]
    |true=>rw[h2,Bool.and_true] at h;rw[h,Bool.false_and]
 exact this l sup (i+1) h1
theorem KF (x:Nd) (m:Mem):aB 234 [.v (.agg ⟨x.cs⟩)] m (.bool (kh x.k x.n x.s x.c x.ty x.l)):=by
 refine enter gA ay Tryz.func234 rfl rfl (by kernel_rfl) rfl ?_ ?_
 ·simp only[go_sem,Nd.cs]
 ·simp only[go_sem,Nd.cs,qc];have e0:decide ((x.l:Int)=0)=decide (x.l=0):=by rw[decide_eq_decide];omega
  rw[e0];rfl
theorem tu {m:Mem} {k n:Int} {s c:List UInt8} {ty:Ty} {args:List Ex} {cs:List Value} (h:bk m (.mk k n s c ty args) cs):∃x:Nd,cs=x.cs/\x.k=k/\x.n=n/\x.s=s/\x.c=c/\x.ty=ty/\x.l=args.length/\x.l<=x.cp/\x.l<=aA/\∃xs,aK m x.a x.l 8 xs/\ea m args xs:=by
 simp only[bk] at h;obtain⟨a,cp,xs,rfl,h1,h2,h3,h4⟩:=h;exact⟨⟨k,n,s,c,ty,a,args.length,cp⟩,rfl,rfl,rfl,rfl,rfl,rfl,rfl,h1,h3.2.2.2.2.2,xs,h2,h4⟩
theorem Wi (e:Ex) (cs:List Value) (m:Mem) (hg:Glob m) (he:bk m e cs):aB 250 [.v (.agg ⟨cs⟩)] m (.bool (!dS e)):=by
 have hV:=pM _ e cs m (aq _) hg he;obtain⟨x,rfl⟩:=qI he;refine enter gA ay Tryz.func250 rfl rfl (by kernel_rfl) rfl ?_ ?_
 ·simp only[go_sem,Nd.cs]
 ·simp only[go_sem,Nd.cs];refine ab ((aX hV (fun V=>rfl)).mono ?_);rintro r H' m2 aH ⟨aY,rfl,rfl⟩;simp only[go_sem];exact aY
theorem R8 (e:Ex) (cs:List Value) (m:Mem) (hg:Glob m) (he:bk m e cs):aB 235 [.v (.agg ⟨cs⟩)] m (.bool (uZ e)):=by
 cases e with
 |mk k n s c ty args=>
  obtain⟨x,rfl,rfl,rfl,rfl,rfl,rfl,hl,bl,hn,xs,hr,fm⟩:=tu he;have hE:=KF ⟨x.k,x.n,x.s,x.c,x.ty,none,0,0⟩ m;have hv:=fun m' (hm:an m m')=>JJ 250 (fun e=> !dS e) args x.a x.l x.cp xs m' hl.symm (aD hm hr) (yn hm fm) hn (by kernel_rfl) (fun i hi cs m2 hle bh=>Wi _ cs m2 (hg.upM (aa hm hle)) bh)
  refine enter gA ay Tryz.func235 rfl rfl (by kernel_rfl) rfl ?_ ?_
  ·simp only[go_sem,Nd.cs]
  ·simp only[go_sem,Nd.cs];refine ab ((aX hE (fun V=>rfl)).mono ?_);clear hE;rintro r H' m2 aH ⟨aY,rfl,rfl⟩;simp only[go_sem];have e0:uZ (Ex.mk x.k x.n x.s x.c x.ty args)=(kh x.k x.n x.s x.c x.ty 0&&decide (args.length<=16)&&kT args):=rfl;refine⟨fun h=>ab ((hv m2 aY).mono ?_),fun h=>⟨aY,?_⟩⟩
   ·clear hv;rintro r H' m3 bN ⟨kL,rfl,rfl⟩;simp only[go_sem];refine⟨aa aY kL,?_⟩;rw[e0,h.1,bX (by omega:args.length<=16),FB];rfl
   ·clear hv;rw[e0];rcases h with h |h
    ·rw[h];rfl
    ·rw[bo (by omega:¬args.length<=16),Bool.and_false];rfl
theorem Rr (e:Ex) (cs:List Value) (m:Mem) (hg:Glob m) (he:bk m e cs):aB 232 [.v (.agg ⟨cs⟩)] m (.bool (tA e)):=by
 have hV:=pM _ e cs m (aq _) hg he;cases e with
 |mk k n s c ty args=>
  obtain⟨x,rfl,rfl,rfl,rfl,rfl,rfl,hl,bl,hn,xs,hr,fm⟩:=tu he;refine enter gA ay Tryz.func232 rfl rfl (by kernel_rfl) rfl ?_ ?_
  ·simp only[go_sem,Nd.cs]
  ·simp only[go_sem,Nd.cs];refine⟨fun e0=>⟨fun _=>ab ((aX hV (fun V=>rfl)).mono ?_),fun n=>absurd e0 n⟩,fun n0=>⟨fun e1=>⟨fun _=>ab ((aX hV (fun V=>rfl)).mono ?_),fun n=>absurd e1 n⟩,fun n1=>⟨fun e2=>⟨fun _=>ab ((aX hV (fun V=>rfl)).mono ?_),fun n=>absurd e2 n⟩,fun n2=>⟨fun e3=>ab ((aX hV (fun V=>rfl)).mono ?_),fun n3=> ?_⟩⟩⟩⟩
   ·clear hV;rintro r H' m2 aH ⟨aY,rfl,rfl⟩;simp only[go_sem];refine⟨aY,?_⟩;simp [tA,Ex.k,e0]
   ·clear hV;rintro r H' m2 aH ⟨aY,rfl,rfl⟩;simp only[go_sem];refine⟨aY,?_⟩;simp [tA,Ex.k,e1]
   ·clear hV;rintro r H' m2 aH ⟨aY,rfl,rfl⟩;simp only[go_sem];refine⟨aY,?_⟩;simp [tA,Ex.k,e2]
   ·clear hV;rintro r H' m2 aH ⟨aY,rfl,rfl⟩;simp only[go_sem];refine⟨aY,?_⟩;simp [tA,Ex.k,e3]
   ·clear hV;simp [tA,Ex.k,n0,n1,n2,n3]
theorem Ua (e:Ex) (cs:List Value) (m:Mem) (hg:Glob m) (he:bk m e cs):aB 233 [.v (.agg ⟨cs⟩)] m (.bool (tR e)):=by
 have hV:=pM _ e cs m (aq _) hg he;cases e with
 |mk k n s c ty args=>
  obtain⟨x,rfl,rfl,rfl,rfl,rfl,rfl,hl,bl,hn,xs,hr,fm⟩:=tu he;refine enter gA ay Tryz.func233 rfl rfl (by kernel_rfl) rfl ?_ ?_
  ·simp only[go_sem,Nd.cs]
  ·simp only[go_sem,Nd.cs];refine⟨fun e0=>⟨fun _=>ab ((aX hV (fun V=>rfl)).mono ?_),fun n=>absurd e0 n⟩,fun n0=>⟨fun e1=>⟨fun _=>ab ((aX hV (fun V=>rfl)).mono ?_),fun n=>absurd e1 n⟩,fun n1=>⟨fun e2=>⟨fun _=>ab ((aX hV (fun V=>rfl)).mono ?_),fun n=>absurd e2 n⟩,fun n2=>⟨fun e3=>ab ((aX hV (fun V=>rfl)).mono ?_),fun n3=> ?_⟩⟩⟩⟩
   ·clear hV;rintro r H' m2 aH ⟨aY,rfl,rfl⟩;simp only[go_sem];refine⟨aY,?_⟩;simp [tR,Ex.k,e0]
   ·clear hV;rintro r H' m2 aH ⟨aY,rfl,rfl⟩;simp only[go_sem];refine⟨aY,?_⟩;simp [tR,Ex.k,e1]
   ·clear hV;rintro r H' m2 aH ⟨aY,rfl,rfl⟩;simp only[go_sem];refine⟨aY,?_⟩;simp [tR,Ex.k,e2]
   ·clear hV;rintro r H' m2 aH ⟨aY,rfl,rfl⟩;simp only[go_sem];refine⟨aY,?_⟩;simp [tR,Ex.k,e3]
   ·clear hV;simp [tR,Ex.k,n0,n1,n2,n3]
theorem tq {m:Mem} {k:Int} {nm:List UInt8} {ty:Ty} {tg ex:Ex} {body alt:List St} {cs:List Value} (h:fu m (.mk k nm ty tg ex body alt) cs):
  ∃x:Sd,cs=x.cs/\x.k=k/\x.name=nm/\x.ty=ty/\bk m tg x.tg.cs/\bk m ex x.ex.cs/\x.l=body.length/\x.l<=x.cp/\x.l2=alt.length/\x.l2<=x.cp2/\StOk k nm ty body.length alt.length/\∃xs ys,aK m x.a x.l 23 xs/\aK m x.b x.l2 23 ys/\bF m body xs/\bF m alt ys:=by
 simp only[fu] at h;obtain⟨x,⟨h1,h2,h3,h4⟩,h5,h6,⟨h7,h8,h9,wc⟩,xW,xs,ys,h12,QO,h14,h15⟩:=h;exact⟨x,h1,h2,h3,h4,h5,h6,h7,h8,h9,wc,xW,xs,ys,h12,QO,h14,h15⟩
theorem F4 (sup:Bool) (l:List St) (a:Option Addr) (n c:Nat) (xs:List Value) (m:Mem) (hl:n=l.length) (hr:aK m a n 23 xs) (hs:bF m l xs) (hn:n<=aA)
  (hV:∀e∈l,∀cs m',an m m' ->fu m' e cs->aB 201 [.v (.agg ⟨cs⟩)] m' (.bool (iB e))):
  aB 142 [.v (.slice a n c),.v (.bool sup)] m (.bool (decide (l.length<=32)&&jj sup l)):=by
 refine aL ay Tryz.func142 ?_
 ·simp only[go_sem];refine⟨fun h=> ?_,fun h=> ?_⟩
  ·rw[bo (by clear hV;omega)];rfl
  ·have hE:(decide (l.length<=32)&&jj sup l)=jj sup l:=by rw[bX (by clear hV;omega)];rfl
   rw[hE];clear hE;refine cO ay (fun x:Nat×Mem=>⟨[⟨1,[],.v (.bool sup)⟩,⟨10,[],.v (.slice a n c)⟩,⟨11,[],.v (.int .i64 n)⟩,⟨12,[],.v (.int .i64 x.1)⟩],[],[],[],0,x.2⟩)
    (fun x=>an m x.2/\x.1<=n/\jj sup (l.take x.1)=true) (fun x=>n - x.1) (0,m) (fun _ _=>aq _) (fun x hx=>hx.1) ?_ ?_ ?_
   ·simp only[go_sem];rfl
   ·exact⟨.inl rfl,au _,by simp [jj]⟩
   ·rintro⟨k,mm⟩ ⟨h1,h2,h3⟩;simp only at h1 h2 h3;have hy:∀(hk:k<l.length),∃X:Sd,(Rd mm (ct a (k * 23)) X.cs/\a≠none)/\X.k=l[k].k/\aB 201 [.v (.agg ⟨X.cs⟩)] mm (.bool (iB l[k])):=fun hk=>by
     have bh:=tj h1 (qQ hs hk);have I7:∃X:Sd,(xs.drop (k * 23)).take 23=X.cs/\X.k=l[k].k:=by
      cases kP:l[k] with
      |mk k' nm ty tg ex body alt=>
       rw[kP] at bh;obtain⟨X,e1,e2,_⟩:=tq bh;exact⟨X,e1,e2⟩
     obtain⟨X,e1,e2⟩:=I7;have r1:=dG (aD h1 hr) (by omega:k<n);rw[e1] at r1 bh;exact⟨X,r1,e2,hV _ (List.getElem_mem hk) _ _ h1 bh⟩
    clear hV;simp only[go_sem];refine⟨fun ao=> ?_,fun cQ=>⟨h1,?_⟩⟩
    ·have hk:k<l.length:=by clear hy;omega
     refine Exists.elim (hy hk) fun X bb=>⟨⟨by clear hy bb;omega,ao,bb.1.2⟩,X.cs,⟨bb.1.1,rfl⟩,?_⟩
     clear hy;have ep:=bb.2.1;have ha:=bb.2.2;clear bb;simp only[go_sem,Sd.cs,Nd.cs];refine⟨fun hc=>ab ((aX ha (fun V=>rfl)).mono ?_),fun hc=>⟨h1,?_⟩⟩
     ·clear ha;have hb:oD sup k l[k]=iB l[k]:=by
       rw[ep] at hc;rcases hc with hc |hc
       ·simp [oD,hc]
       ·have:k=0:=by omega
        simp [oD,hc.1,this]
      rintro r H' m2 aH ⟨aY,rfl,rfl⟩;simp only[go_sem];refine⟨fun hv=>⟨aa h1 aY,?_⟩,fun hv=>⟨by unfold az;simp only[aA] at hn;omega,(k+1,m2),⟨by simp,.inl rfl⟩,⟨aa h1 aY,by simp only;omega,?_⟩,by simp only;omega⟩⟩
      ·rw[CN hk (by rw[hb];exact hv)]
      ·simp only;rw[CF hk,h3,hb,hv];rfl
     ·clear ha;rw[ep] at hc;rw[CN hk];rcases hc.2 with h0 |h0
      ·simp [oD,hc.1,h0]
      ·have:¬k=0:=by omega
       simp [oD,hc.1,this]
    ·have:k=n:=by clear hy;omega
     rw[gm (by clear hy;omega)] at h3;rw[h3]
def aM:Nd:=⟨0,0,[],[],ai,none,0,0⟩
theorem lZ {m:Mem} {sz:Nat}:aK m none 0 sz []:=⟨by simp,fun h=>absurd h (Nat.lt_irrefl _)⟩
theorem sC:lh ai:=⟨by unfold az;decide,by decide,by decide⟩
theorem eA {m:Mem}:bk m zE aM.cs:=by
 simp only[zE,bk];exact⟨none,0,[],rfl,aq _,lZ,⟨by unfold az;decide,by unfold az;decide,by decide,by decide,sC,by decide⟩,by simp only[ea]⟩
theorem jK {m:Mem} (U:Sd) {tg ex:Ex} {body alt:List St} {xs ys:List Value} (dk:bk m tg U.tg.cs) (hex:bk m ex U.ex.cs) (hl:U.l=body.length) (bl:U.l<=U.cp) (bP:U.l2=alt.length) (dW:U.l2<=U.cp2) (ax:StOk U.k U.name U.ty body.length alt.length)
  (r1:aK m U.a U.l 23 xs) (r2:aK m U.b U.l2 23 ys) (s1:bF m body xs) (s2:bF m alt ys):fu m (.mk U.k U.name U.ty tg ex body alt) U.cs:=by
 simp only[fu];exact⟨U,⟨rfl,rfl,rfl,rfl⟩,dk,hex,⟨hl,bl,bP,dW⟩,ax,xs,ys,r1,r2,s1,s2⟩
theorem DX {x y:Nd} (h:x.cs=y.cs):x=y:=by
 obtain⟨k,n,s,c,⟨d,b,nm⟩,a,l,cp⟩:=x;obtain⟨k',n',s',c',⟨d',b',nm'⟩,a',l',cp'⟩:=y;simp only[Nd.cs,List.cons.injEq,Value.int.injEq,Value.string.injEq,Value.slice.injEq,and_true,true_and] at h;obtain⟨h1,h2,h3,h4,h5,h6,h7,h8,h9,wc⟩:=h;rw[h1,h2,yQ h3,yQ h4,h5,h6,yQ h7,h8,h9,wc]
theorem VY {m:Mem} {e:Ex} {x:Nd} (h:bk m e x.cs) (m' :Mem):aB 234 [.v (.agg ⟨x.cs⟩)] m' (.bool (mS e)):=by
 cases e with
 |mk k n s c ty args=>
  obtain⟨y,hy,h1,h2,h3,h4,h5,h6,_⟩:=tu h;have:=KF x m';rw[DX hy] at this ⊢;rw[h1,h2,h3,h4,h5,h6] at this;exact this
theorem mO {m:Mem}:bF m [] []:=by simp only[bF]
theorem abi (nm:List UInt8) (ty:Ty) (tN eN:Nd) (a:Option Addr) (l cp:Nat) (b:Option Addr) (l2 cp2:Nat) (tg ex:Ex) (body alt:List St) (xs ys:List Value) (m:Mem) (hg:Glob m)
  (dk:bk m tg tN.cs) (hex:bk m ex eN.cs) (hl:l=body.length) (bl:l<=cp) (bP:l2=alt.length) (dW:l2<=cp2) (ax:StOk 1 nm ty body.length alt.length) (r1:aK m a l 23 xs) (r2:aK m b l2 23 ys) (s1:bF m body xs) (s2:bF m alt ys) (B1 B2 B V:Bool)
  (hB:∀m',an m m' ->aB 142 [.v (.slice a l cp),.v (.bool false)] m' (.bool B1)) (hA:∀m',an m m' ->aB 142 [.v (.slice b l2 cp2),.v (.bool false)] m' (.bool B2)) (ij:B=(B1&&B2))
  (e0:V=((eP nm&&gR ty.dim ty.base ty.name&&dS ex)&&de (St.mk 1 nm ty tg ex body alt) (St.mk 1 nm ty zE ex [] []))):aB 201 [.v (.agg ⟨Sd.cs ⟨1,nm,ty,tN,eN,a,l,cp,b,l2,cp2⟩⟩)] m (.bool V):=by
 have hQ:∀m',an m m' ->aB 236 [.v (.agg ⟨Sd.cs ⟨1,nm,ty,tN,eN,a,l,cp,b,l2,cp2⟩⟩),.v (.agg ⟨Sd.cs ⟨1,nm,ty,aM,eN,none,0,0,none,0,0⟩⟩)] m' (.bool (de (St.mk 1 nm ty tg ex body alt) (St.mk 1 nm ty zE ex [] []))):=fun m' hle=>
  oT _ _ _ _ _ m' (aq _) (jK (m:=m') (⟨1,nm,ty,tN,eN,a,l,cp,b,l2,cp2⟩:Sd) (aZ hle dk) (aZ hle hex) hl bl bP dW ax (aD hle r1) (aD hle r2) (dv hle s1) (dv hle s2))
   (jK (m:=m') (⟨1,nm,ty,aM,eN,none,0,0,none,0,0⟩:Sd) eA (aZ hle hex) rfl (aq _) rfl (aq _) ⟨ax.k,ax.nm,ax.ty,au _,au _⟩ lZ lZ mO mO)
 have EO:BL nm:=cR ax.nm (by decide);have EN:BL ty.name:=cR ax.ty.2.2 (by decide);have hX:=fun m' (hle:an m m')=>pM _ ex eN.cs m' (aq _) (hg.upM hle) (aZ hle hex)
 clear s1 s2 r1 r2;refine enter pK pz Tryz.func201 rfl rfl (by kernel_rfl) rfl ?_ ?_
 ·simp only[go_sem,Sd.cs,Nd.cs,aM,ai,Int.reduceEq,aF,aQ]
 ·simp only[go_sem,Sd.cs,Nd.cs,aM,ai,Int.reduceEq,aF,aQ];refine ab ((hB m (.inl rfl)).mono ?_);clear hB;rintro r H' m1 aN ⟨l1,rfl,rfl⟩;simp only[go_sem,Sd.cs,Nd.cs,aM,ai,Int.reduceEq,aF,aQ];refine⟨fun b1=>ab ((hA m1 l1).mono ?_),fun b1=> ?_⟩
  ·clear hA;rintro r H' m2 aH ⟨dD,rfl,rfl⟩;have cJ:=aa l1 dD;simp only[go_sem,Sd.cs,Nd.cs,aM,ai,Int.reduceEq,aF,aQ];refine⟨EO,fun _=>EN,fun c=> ?_,fun c=> ?_⟩
   ·refine ab ((aX (hX m2 cJ) (fun V=>rfl)).mono ?_);clear hX;rintro r H' w1 sX ⟨eb,rfl,rfl⟩;simp only[go_sem,Sd.cs,Nd.cs,aM,ai,Int.reduceEq,aF,aQ];refine⟨fun c1=> ?_,fun c1=> ?_⟩
    ·refine ab ((aX (hQ w1 (aa cJ eb)) (fun V=>rfl)).mono ?_);clear hQ;rintro r H' w2 sW ⟨j6,rfl,rfl⟩;simp only[go_sem,Sd.cs,Nd.cs,aM,ai,Int.reduceEq,aF,aQ];refine⟨aa (aa cJ eb) j6,?_⟩;rw[e0,c.1,c.2,c1];rfl
    ·refine⟨(aa cJ eb),?_⟩;rw[e0,c.1,c.2,c1];rfl
   ·refine⟨cJ,?_⟩;rw[e0];rcases c with c |c<;>simp [c]
  ·clear hA;refine⟨EO,fun _=>EN,fun c=> ?_,fun c=> ?_⟩
   ·refine ab ((aX (hX m1 l1) (fun V=>rfl)).mono ?_);clear hX;rintro r H' w3 B6 ⟨kN,rfl,rfl⟩;simp only[go_sem,Sd.cs,Nd.cs,aM,ai,Int.reduceEq,aF,aQ];refine⟨fun c3=> ?_,fun c3=> ?_⟩
    ·refine ab ((aX (hQ w3 (aa l1 kN)) (fun V=>rfl)).mono ?_);clear hQ;rintro r H' w4 B5 ⟨nv,rfl,rfl⟩;simp only[go_sem,Sd.cs,Nd.cs,aM,ai,Int.reduceEq,aF,aQ];refine⟨aa (aa l1 kN) nv,?_⟩;rw[e0,c.1,c.2,c3];rfl
    ·refine⟨(aa l1 kN),?_⟩;rw[e0,c.1,c.2,c3];rfl
   ·refine⟨l1,?_⟩;rw[e0];rcases c with c |c<;>simp [c]
theorem abh (nm:List UInt8) (ty:Ty) (tN eN:Nd) (a:Option Addr) (l cp:Nat) (b:Option Addr) (l2 cp2:Nat) (tg ex:Ex) (body alt:List St) (xs ys:List Value) (m:Mem) (hg:Glob m)
  (dk:bk m tg tN.cs) (hex:bk m ex eN.cs) (hl:l=body.length) (bl:l<=cp) (bP:l2=alt.length) (dW:l2<=cp2) (ax:StOk 2 nm ty body.length alt.length) (r1:aK m a l 23 xs) (r2:aK m b l2 23 ys) (s1:bF m body xs) (s2:bF m alt ys) (B1 B2 B V:Bool)
  (hB:∀m',an m m' ->aB 142 [.v (.slice a l cp),.v (.bool false)] m' (.bool B1)) (hA:∀m',an m m' ->aB 142 [.v (.slice b l2 cp2),.v (.bool false)] m' (.bool B2)) (ij:B=(B1&&B2))
  (e0:V=((tA tg&&dS ex)&&de (St.mk 2 nm ty tg ex body alt) (St.mk 2 [] ai tg ex [] []))):aB 201 [.v (.agg ⟨Sd.cs ⟨2,nm,ty,tN,eN,a,l,cp,b,l2,cp2⟩⟩)] m (.bool V):=by
 have hQ:∀m',an m m' ->aB 236 [.v (.agg ⟨Sd.cs ⟨2,nm,ty,tN,eN,a,l,cp,b,l2,cp2⟩⟩),.v (.agg ⟨Sd.cs ⟨2,[],ai,tN,eN,none,0,0,none,0,0⟩⟩)] m' (.bool (de (St.mk 2 nm ty tg ex body alt) (St.mk 2 [] ai tg ex [] []))):=fun m' hle=>
  oT _ _ _ _ _ m' (aq _) (jK (m:=m') (⟨2,nm,ty,tN,eN,a,l,cp,b,l2,cp2⟩:Sd) (aZ hle dk) (aZ hle hex) hl bl bP dW ax (aD hle r1) (aD hle r2) (dv hle s1) (dv hle s2))
   (jK (m:=m') (⟨2,[],ai,tN,eN,none,0,0,none,0,0⟩:Sd) (aZ hle dk) (aZ hle hex) rfl (aq _) rfl (aq _) ⟨ax.k,au _,sC,au _,au _⟩ lZ lZ mO mO)
 have hX:=fun m' (hle:an m m')=>pM _ ex eN.cs m' (aq _) (hg.upM hle) (aZ hle hex)
 have hT:=fun m' (hle:an m m')=>Rr tg tN.cs m' (hg.upM hle) (aZ hle dk)
 clear s1 s2 r1 r2;refine enter pK pz Tryz.func201 rfl rfl (by kernel_rfl) rfl ?_ ?_
 ·simp only[go_sem,Sd.cs,Nd.cs,aM,ai,Int.reduceEq,aF,aQ]
 ·simp only[go_sem,Sd.cs,Nd.cs,aM,ai,Int.reduceEq,aF,aQ];refine ab ((hB m (.inl rfl)).mono ?_);clear hB;rintro r H' m1 aN ⟨l1,rfl,rfl⟩;simp only[go_sem,Sd.cs,Nd.cs,aM,ai,Int.reduceEq,aF,aQ];refine⟨fun b1=>ab ((hA m1 l1).mono ?_),fun b1=> ?_⟩
  ·clear hA;rintro r H' m2 aH ⟨dD,rfl,rfl⟩;have cJ:=aa l1 dD;simp only[go_sem,Sd.cs,Nd.cs,aM,ai,Int.reduceEq,aF,aQ];refine ab ((aX (hT m2 cJ) (fun V=>rfl)).mono ?_);clear hT;rintro r H' w1 sX ⟨eb,rfl,rfl⟩;simp only[go_sem,Sd.cs,Nd.cs,aM,ai,Int.reduceEq,aF,aQ];refine⟨fun c=> ?_,fun c=> ?_⟩
   ·refine ab ((aX (hX w1 (aa cJ eb)) (fun V=>rfl)).mono ?_);clear hX;rintro r H' w2 sW ⟨j6,rfl,rfl⟩;simp only[go_sem,Sd.cs,Nd.cs,aM,ai,Int.reduceEq,aF,aQ];refine⟨fun c2=> ?_,fun c2=> ?_⟩
    ·refine ab ((aX (hQ w2 (aa (aa cJ eb) j6)) (fun V=>rfl)).mono ?_);clear hQ;rintro r H' w3 B6 ⟨kN,rfl,rfl⟩;simp only[go_sem,Sd.cs,Nd.cs,aM,ai,Int.reduceEq,aF,aQ];refine⟨aa (aa (aa cJ eb) j6) kN,?_⟩;rw[e0,c,c2];rfl
    ·refine⟨(aa (aa cJ eb) j6),?_⟩;rw[e0,c,c2];rfl
   ·refine⟨(aa cJ eb),?_⟩;rw[e0,c];rfl
  ·clear hA;refine ab ((aX (hT m1 l1) (fun V=>rfl)).mono ?_);clear hT;rintro r H' w4 B5 ⟨nv,rfl,rfl⟩;simp only[go_sem,Sd.cs,Nd.cs,aM,ai,Int.reduceEq,aF,aQ];refine⟨fun c=> ?_,fun c=> ?_⟩
   ·refine ab ((aX (hX w4 (aa l1 nv)) (fun V=>rfl)).mono ?_);clear hX;rintro r H' w5 hw5 ⟨sS,rfl,rfl⟩;simp only[go_sem,Sd.cs,Nd.cs,aM,ai,Int.reduceEq,aF,aQ];refine⟨fun c5=> ?_,fun c5=> ?_⟩
    ·refine ab ((aX (hQ w5 (aa (aa l1 nv) sS)) (fun V=>rfl)).mono ?_);clear hQ;rintro r H' w6 zJ ⟨BX,rfl,rfl⟩;simp only[go_sem,Sd.cs,Nd.cs,aM,ai,Int.reduceEq,aF,aQ];refine⟨aa (aa (aa l1 nv) sS) BX,?_⟩;rw[e0,c,c5];rfl
    ·refine⟨(aa (aa l1 nv) sS),?_⟩;rw[e0,c,c5];rfl
   ·refine⟨(aa l1 nv),?_⟩;rw[e0,c];rfl
theorem abg (nm:List UInt8) (ty:Ty) (tN eN:Nd) (a:Option Addr) (l cp:Nat) (b:Option Addr) (l2 cp2:Nat) (tg ex:Ex) (body alt:List St) (xs ys:List Value) (m:Mem) (hg:Glob m)
  (dk:bk m tg tN.cs) (hex:bk m ex eN.cs) (hl:l=body.length) (bl:l<=cp) (bP:l2=alt.length) (dW:l2<=cp2) (ax:StOk 3 nm ty body.length alt.length) (r1:aK m a l 23 xs) (r2:aK m b l2 23 ys) (s1:bF m body xs) (s2:bF m alt ys) (B1 B2 B V:Bool)
  (hB:∀m',an m m' ->aB 142 [.v (.slice a l cp),.v (.bool false)] m' (.bool B1)) (hA:∀m',an m m' ->aB 142 [.v (.slice b l2 cp2),.v (.bool false)] m' (.bool B2)) (ij:B=(B1&&B2))
  (e0:V=(tR ex&&de (St.mk 3 nm ty tg ex body alt) (St.mk 3 [] ai zE ex [] []))):aB 201 [.v (.agg ⟨Sd.cs ⟨3,nm,ty,tN,eN,a,l,cp,b,l2,cp2⟩⟩)] m (.bool V):=by
 have hQ:∀m',an m m' ->aB 236 [.v (.agg ⟨Sd.cs ⟨3,nm,ty,tN,eN,a,l,cp,b,l2,cp2⟩⟩),.v (.agg ⟨Sd.cs ⟨3,[],ai,aM,eN,none,0,0,none,0,0⟩⟩)] m' (.bool (de (St.mk 3 nm ty tg ex body alt) (St.mk 3 [] ai zE ex [] []))):=fun m' hle=>
  oT _ _ _ _ _ m' (aq _) (jK (m:=m') (⟨3,nm,ty,tN,eN,a,l,cp,b,l2,cp2⟩:Sd) (aZ hle dk) (aZ hle hex) hl bl bP dW ax (aD hle r1) (aD hle r2) (dv hle s1) (dv hle s2))
   (jK (m:=m') (⟨3,[],ai,aM,eN,none,0,0,none,0,0⟩:Sd) eA (aZ hle hex) rfl (aq _) rfl (aq _) ⟨ax.k,au _,sC,au _,au _⟩ lZ lZ mO mO)
 have hX:=fun m' (hle:an m m')=>Ua ex eN.cs m' (hg.upM hle) (aZ hle hex)
 clear s1 s2 r1 r2;refine enter pK pz Tryz.func201 rfl rfl (by kernel_rfl) rfl ?_ ?_
 ·simp only[go_sem,Sd.cs,Nd.cs,aM,ai,Int.reduceEq,aF,aQ]
 ·simp only[go_sem,Sd.cs,Nd.cs,aM,ai,Int.reduceEq,aF,aQ];refine ab ((hB m (.inl rfl)).mono ?_);clear hB;rintro r H' m1 aN ⟨l1,rfl,rfl⟩;simp only[go_sem,Sd.cs,Nd.cs,aM,ai,Int.reduceEq,aF,aQ];refine⟨fun b1=>ab ((hA m1 l1).mono ?_),fun b1=> ?_⟩
  ·clear hA;rintro r H' m2 aH ⟨dD,rfl,rfl⟩;have cJ:=aa l1 dD;simp only[go_sem,Sd.cs,Nd.cs,aM,ai,Int.reduceEq,aF,aQ];refine ab ((aX (hX m2 cJ) (fun V=>rfl)).mono ?_);clear hX;rintro r H' w1 sX ⟨eb,rfl,rfl⟩;simp only[go_sem,Sd.cs,Nd.cs,aM,ai,Int.reduceEq,aF,aQ];refine⟨fun c1=> ?_,fun c1=> ?_⟩
   ·refine ab ((aX (hQ w1 (aa cJ eb)) (fun V=>rfl)).mono ?_);clear hQ;rintro r H' w2 sW ⟨j6,rfl,rfl⟩;simp only[go_sem,Sd.cs,Nd.cs,aM,ai,Int.reduceEq,aF,aQ];refine⟨aa (aa cJ eb) j6,?_⟩;rw[e0,c1];rfl
   ·refine⟨(aa cJ eb),?_⟩;rw[e0,c1];rfl
  ·clear hA;refine ab ((aX (hX m1 l1) (fun V=>rfl)).mono ?_);clear hX;rintro r H' w3 B6 ⟨kN,rfl,rfl⟩;simp only[go_sem,Sd.cs,Nd.cs,aM,ai,Int.reduceEq,aF,aQ];refine⟨fun c3=> ?_,fun c3=> ?_⟩
   ·refine ab ((aX (hQ w3 (aa l1 kN)) (fun V=>rfl)).mono ?_);clear hQ;rintro r H' w4 B5 ⟨nv,rfl,rfl⟩;simp only[go_sem,Sd.cs,Nd.cs,aM,ai,Int.reduceEq,aF,aQ];refine⟨aa (aa l1 kN) nv,?_⟩;rw[e0,c3];rfl
   ·refine⟨(aa l1 kN),?_⟩;rw[e0,c3];rfl
theorem abf (nm:List UInt8) (ty:Ty) (tN eN:Nd) (a:Option Addr) (l cp:Nat) (b:Option Addr) (l2 cp2:Nat) (tg ex:Ex) (body alt:List St) (xs ys:List Value) (m:Mem) (hg:Glob m)
  (dk:bk m tg tN.cs) (hex:bk m ex eN.cs) (hl:l=body.length) (bl:l<=cp) (bP:l2=alt.length) (dW:l2<=cp2) (ax:StOk 4 nm ty body.length alt.length) (r1:aK m a l 23 xs) (r2:aK m b l2 23 ys) (s1:bF m body xs) (s2:bF m alt ys) (B1 B2 B V:Bool)
  (hB:∀m',an m m' ->aB 142 [.v (.slice a l cp),.v (.bool false)] m' (.bool B1)) (hA:∀m',an m m' ->aB 142 [.v (.slice b l2 cp2),.v (.bool false)] m' (.bool B2)) (ij:B=(B1&&B2))
  (e0:V=((B&&dS ex)&&de (St.mk 4 nm ty tg ex body alt) (St.mk 4 [] ai zE ex body alt))):aB 201 [.v (.agg ⟨Sd.cs ⟨4,nm,ty,tN,eN,a,l,cp,b,l2,cp2⟩⟩)] m (.bool V):=by
 have hQ:∀m',an m m' ->aB 236 [.v (.agg ⟨Sd.cs ⟨4,nm,ty,tN,eN,a,l,cp,b,l2,cp2⟩⟩),.v (.agg ⟨Sd.cs ⟨4,[],ai,aM,eN,a,l,cp,b,l2,cp2⟩⟩)] m' (.bool (de (St.mk 4 nm ty tg ex body alt) (St.mk 4 [] ai zE ex body alt))):=fun m' hle=>
  oT _ _ _ _ _ m' (aq _) (jK (m:=m') (⟨4,nm,ty,tN,eN,a,l,cp,b,l2,cp2⟩:Sd) (aZ hle dk) (aZ hle hex) hl bl bP dW ax (aD hle r1) (aD hle r2) (dv hle s1) (dv hle s2))
   (jK (m:=m') (⟨4,[],ai,aM,eN,a,l,cp,b,l2,cp2⟩:Sd) eA (aZ hle hex) hl bl bP dW ⟨ax.k,au _,sC,ax.l,ax.l2⟩ (aD hle r1) (aD hle r2) (dv hle s1) (dv hle s2))
 have hX:=fun m' (hle:an m m')=>pM _ ex eN.cs m' (aq _) (hg.upM hle) (aZ hle hex)
 clear s1 s2 r1 r2;refine enter pK pz Tryz.func201 rfl rfl (by kernel_rfl) rfl ?_ ?_
 ·simp only[go_sem,Sd.cs,Nd.cs,aM,ai,Int.reduceEq,aF,aQ]
 ·simp only[go_sem,Sd.cs,Nd.cs,aM,ai,Int.reduceEq,aF,aQ];refine ab ((hB m (.inl rfl)).mono ?_);clear hB;rintro r H' m1 aN ⟨l1,rfl,rfl⟩;simp only[go_sem,Sd.cs,Nd.cs,aM,ai,Int.reduceEq,aF,aQ];refine⟨fun b1=>ab ((hA m1 l1).mono ?_),fun b1=> ?_⟩
  ·clear hA;rintro r H' m2 aH ⟨dD,rfl,rfl⟩;have cJ:=aa l1 dD;simp only[go_sem,Sd.cs,Nd.cs,aM,ai,Int.reduceEq,aF,aQ];refine⟨fun b2=> ?_,fun b2=> ?_⟩
   ·refine ab ((aX (hX m2 cJ) (fun V=>rfl)).mono ?_);clear hX;rintro r H' w1 sX ⟨eb,rfl,rfl⟩;simp only[go_sem,Sd.cs,Nd.cs,aM,ai,Int.reduceEq,aF,aQ];refine⟨fun c1=> ?_,fun c1=> ?_⟩
    ·refine ab ((aX (hQ w1 (aa cJ eb)) (fun V=>rfl)).mono ?_);clear hQ;rintro r H' w2 sW ⟨j6,rfl,rfl⟩;simp only[go_sem,Sd.cs,Nd.cs,aM,ai,Int.reduceEq,aF,aQ];refine⟨aa (aa cJ eb) j6,?_⟩;rw[e0,ij,b1,b2,c1];rfl
    ·refine⟨(aa cJ eb),?_⟩;rw[e0,ij,b1,b2,c1];rfl
   ·refine⟨cJ,?_⟩;rw[e0,ij,b1,b2];rfl
  ·clear hA;refine⟨l1,?_⟩;rw[e0,ij,b1];rfl
theorem abe (nm:List UInt8) (ty:Ty) (tN eN:Nd) (a:Option Addr) (l cp:Nat) (b:Option Addr) (l2 cp2:Nat) (tg ex:Ex) (body alt:List St) (xs ys:List Value) (m:Mem) (hg:Glob m)
  (dk:bk m tg tN.cs) (hex:bk m ex eN.cs) (hl:l=body.length) (bl:l<=cp) (bP:l2=alt.length) (dW:l2<=cp2) (ax:StOk 5 nm ty body.length alt.length) (r1:aK m a l 23 xs) (r2:aK m b l2 23 ys) (s1:bF m body xs) (s2:bF m alt ys) (B1 B2 B V:Bool)
  (hB:∀m',an m m' ->aB 142 [.v (.slice a l cp),.v (.bool false)] m' (.bool B1)) (hA:∀m',an m m' ->aB 142 [.v (.slice b l2 cp2),.v (.bool false)] m' (.bool B2)) (ij:B=(B1&&B2))
  (e0:V=((B&&dS ex)&&de (St.mk 5 nm ty tg ex body alt) (St.mk 5 [] ai zE ex body []))):aB 201 [.v (.agg ⟨Sd.cs ⟨5,nm,ty,tN,eN,a,l,cp,b,l2,cp2⟩⟩)] m (.bool V):=by
 have hQ:∀m',an m m' ->aB 236 [.v (.agg ⟨Sd.cs ⟨5,nm,ty,tN,eN,a,l,cp,b,l2,cp2⟩⟩),.v (.agg ⟨Sd.cs ⟨5,[],ai,aM,eN,a,l,cp,none,0,0⟩⟩)] m' (.bool (de (St.mk 5 nm ty tg ex body alt) (St.mk 5 [] ai zE ex body []))):=fun m' hle=>
  oT _ _ _ _ _ m' (aq _) (jK (m:=m') (⟨5,nm,ty,tN,eN,a,l,cp,b,l2,cp2⟩:Sd) (aZ hle dk) (aZ hle hex) hl bl bP dW ax (aD hle r1) (aD hle r2) (dv hle s1) (dv hle s2))
   (jK (m:=m') (⟨5,[],ai,aM,eN,a,l,cp,none,0,0⟩:Sd) eA (aZ hle hex) hl bl rfl (aq _) ⟨ax.k,au _,sC,ax.l,au _⟩ (aD hle r1) lZ (dv hle s1) mO)
 have hX:=fun m' (hle:an m m')=>pM _ ex eN.cs m' (aq _) (hg.upM hle) (aZ hle hex)
 clear s1 s2 r1 r2;refine enter pK pz Tryz.func201 rfl rfl (by kernel_rfl) rfl ?_ ?_
 ·simp only[go_sem,Sd.cs,Nd.cs,aM,ai,Int.reduceEq,aF,aQ]
 ·simp only[go_sem,Sd.cs,Nd.cs,aM,ai,Int.reduceEq,aF,aQ];refine ab ((hB m (.inl rfl)).mono ?_);clear hB;rintro r H' m1 aN ⟨l1,rfl,rfl⟩;simp only[go_sem,Sd.cs,Nd.cs,aM,ai,Int.reduceEq,aF,aQ];refine⟨fun b1=>ab ((hA m1 l1).mono ?_),fun b1=> ?_⟩
  ·clear hA;rintro r H' m2 aH ⟨dD,rfl,rfl⟩;have cJ:=aa l1 dD;simp only[go_sem,Sd.cs,Nd.cs,aM,ai,Int.reduceEq,aF,aQ];refine⟨fun b2=> ?_,fun b2=> ?_⟩
   ·refine ab ((aX (hX m2 cJ) (fun V=>rfl)).mono ?_);clear hX;rintro r H' w1 sX ⟨eb,rfl,rfl⟩;simp only[go_sem,Sd.cs,Nd.cs,aM,ai,Int.reduceEq,aF,aQ];refine⟨fun c1=> ?_,fun c1=> ?_⟩
    ·refine ab ((aX (hQ w1 (aa cJ eb)) (fun V=>rfl)).mono ?_);clear hQ;rintro r H' w2 sW ⟨j6,rfl,rfl⟩;simp only[go_sem,Sd.cs,Nd.cs,aM,ai,Int.reduceEq,aF,aQ];refine⟨aa (aa cJ eb) j6,?_⟩;rw[e0,ij,b1,b2,c1];rfl
    ·refine⟨(aa cJ eb),?_⟩;rw[e0,ij,b1,b2,c1];rfl
   ·refine⟨cJ,?_⟩;rw[e0,ij,b1,b2];rfl
  ·clear hA;refine⟨l1,?_⟩;rw[e0,ij,b1];rfl
theorem abd (nm:List UInt8) (ty:Ty) (tN eN:Nd) (a:Option Addr) (l cp:Nat) (b:Option Addr) (l2 cp2:Nat) (tg ex:Ex) (body alt:List St) (xs ys:List Value) (m:Mem) (hg:Glob m)
  (dk:bk m tg tN.cs) (hex:bk m ex eN.cs) (hl:l=body.length) (bl:l<=cp) (bP:l2=alt.length) (dW:l2<=cp2) (ax:StOk 6 nm ty body.length alt.length) (r1:aK m a l 23 xs) (r2:aK m b l2 23 ys) (s1:bF m body xs) (s2:bF m alt ys) (B1 B2 B V:Bool)
  (hB:∀m',an m m' ->aB 142 [.v (.slice a l cp),.v (.bool false)] m' (.bool B1)) (hA:∀m',an m m' ->aB 142 [.v (.slice b l2 cp2),.v (.bool false)] m' (.bool B2)) (ij:B=(B1&&B2))
  (e0:V=((mS ex||dS ex)&&de (St.mk 6 nm ty tg ex body alt) (St.mk 6 [] ai zE ex [] []))):aB 201 [.v (.agg ⟨Sd.cs ⟨6,nm,ty,tN,eN,a,l,cp,b,l2,cp2⟩⟩)] m (.bool V):=by
 have hQ:∀m',an m m' ->aB 236 [.v (.agg ⟨Sd.cs ⟨6,nm,ty,tN,eN,a,l,cp,b,l2,cp2⟩⟩),.v (.agg ⟨Sd.cs ⟨6,[],ai,aM,eN,none,0,0,none,0,0⟩⟩)] m' (.bool (de (St.mk 6 nm ty tg ex body alt) (St.mk 6 [] ai zE ex [] []))):=fun m' hle=>
  oT _ _ _ _ _ m' (aq _) (jK (m:=m') (⟨6,nm,ty,tN,eN,a,l,cp,b,l2,cp2⟩:Sd) (aZ hle dk) (aZ hle hex) hl bl bP dW ax (aD hle r1) (aD hle r2) (dv hle s1) (dv hle s2))
   (jK (m:=m') (⟨6,[],ai,aM,eN,none,0,0,none,0,0⟩:Sd) eA (aZ hle hex) rfl (aq _) rfl (aq _) ⟨ax.k,au _,sC,au _,au _⟩ lZ lZ mO mO)
 have hX:=fun m' (hle:an m m')=>pM _ ex eN.cs m' (aq _) (hg.upM hle) (aZ hle hex)
 have hZ:=fun m' (_:an m m')=>VY hex m'
 clear s1 s2 r1 r2;refine enter pK pz Tryz.func201 rfl rfl (by kernel_rfl) rfl ?_ ?_
 ·simp only[go_sem,Sd.cs,Nd.cs,aM,ai,Int.reduceEq,aF,aQ]
 ·simp only[go_sem,Sd.cs,Nd.cs,aM,ai,Int.reduceEq,aF,aQ];refine ab ((hB m (.inl rfl)).mono ?_);clear hB;rintro r H' m1 aN ⟨l1,rfl,rfl⟩;simp only[go_sem,Sd.cs,Nd.cs,aM,ai,Int.reduceEq,aF,aQ];refine⟨fun b1=>ab ((hA m1 l1).mono ?_),fun b1=> ?_⟩
  ·clear hA;rintro r H' m2 aH ⟨dD,rfl,rfl⟩;have cJ:=aa l1 dD;simp only[go_sem,Sd.cs,Nd.cs,aM,ai,Int.reduceEq,aF,aQ];refine ab ((aX (hZ m2 cJ) (fun V=>rfl)).mono ?_);clear hZ;rintro r H' w1 sX ⟨eb,rfl,rfl⟩;simp only[go_sem,Sd.cs,Nd.cs,aM,ai,Int.reduceEq,aF,aQ];refine⟨fun c=> ?_,fun c=> ?_⟩
   ·refine ab ((aX (hX w1 (aa cJ eb)) (fun V=>rfl)).mono ?_);clear hX;rintro r H' w2 sW ⟨j6,rfl,rfl⟩;simp only[go_sem,Sd.cs,Nd.cs,aM,ai,Int.reduceEq,aF,aQ];refine⟨fun c2=> ?_,fun c2=> ?_⟩
    ·refine ab ((aX (hQ w2 (aa (aa cJ eb) j6)) (fun V=>rfl)).mono ?_);clear hQ;rintro r H' w3 B6 ⟨kN,rfl,rfl⟩;simp only[go_sem,Sd.cs,Nd.cs,aM,ai,Int.reduceEq,aF,aQ];refine⟨aa (aa (aa cJ eb) j6) kN,?_⟩;rw[e0,c,c2];rfl
    ·refine⟨(aa (aa cJ eb) j6),?_⟩;rw[e0,c,c2];rfl
   ·refine ab ((aX (hQ w1 (aa cJ eb)) (fun V=>rfl)).mono ?_);clear hQ;rintro r H' w4 B5 ⟨nv,rfl,rfl⟩;simp only[go_sem,Sd.cs,Nd.cs,aM,ai,Int.reduceEq,aF,aQ];refine⟨aa (aa cJ eb) nv,?_⟩;rw[e0,c];rfl
  ·clear hA;refine ab ((aX (hZ m1 l1) (fun V=>rfl)).mono ?_);clear hZ;rintro r H' w5 hw5 ⟨sS,rfl,rfl⟩;simp only[go_sem,Sd.cs,Nd.cs,aM,ai,Int.reduceEq,aF,aQ];refine⟨fun c=> ?_,fun c=> ?_⟩
   ·refine ab ((aX (hX w5 (aa l1 sS)) (fun V=>rfl)).mono ?_);clear hX;rintro r H' w6 zJ ⟨BX,rfl,rfl⟩;simp only[go_sem,Sd.cs,Nd.cs,aM,ai,Int.reduceEq,aF,aQ];refine⟨fun c6=> ?_,fun c6=> ?_⟩
    ·refine ab ((aX (hQ w6 (aa (aa l1 sS) BX)) (fun V=>rfl)).mono ?_);clear hQ;rintro r H' w7 hw7 ⟨lw7,rfl,rfl⟩;simp only[go_sem,Sd.cs,Nd.cs,aM,ai,Int.reduceEq,aF,aQ];refine⟨aa (aa (aa l1 sS) BX) lw7,?_⟩;rw[e0,c,c6];rfl
    ·refine⟨(aa (aa l1 sS) BX),?_⟩;rw[e0,c,c6];rfl
   ·refine ab ((aX (hQ w5 (aa l1 sS)) (fun V=>rfl)).mono ?_);clear hQ;rintro r H' w8 hw8 ⟨lw8,rfl,rfl⟩;simp only[go_sem,Sd.cs,Nd.cs,aM,ai,Int.reduceEq,aF,aQ];refine⟨aa (aa l1 sS) lw8,?_⟩;rw[e0,c];rfl
theorem abc (nm:List UInt8) (ty:Ty) (tN eN:Nd) (a:Option Addr) (l cp:Nat) (b:Option Addr) (l2 cp2:Nat) (tg ex:Ex) (body alt:List St) (xs ys:List Value) (m:Mem) (hg:Glob m)
  (dk:bk m tg tN.cs) (hex:bk m ex eN.cs) (hl:l=body.length) (bl:l<=cp) (bP:l2=alt.length) (dW:l2<=cp2) (ax:StOk 7 nm ty body.length alt.length) (r1:aK m a l 23 xs) (r2:aK m b l2 23 ys) (s1:bF m body xs) (s2:bF m alt ys) (B1 B2 B V:Bool)
  (hB:∀m',an m m' ->aB 142 [.v (.slice a l cp),.v (.bool false)] m' (.bool B1)) (hA:∀m',an m m' ->aB 142 [.v (.slice b l2 cp2),.v (.bool false)] m' (.bool B2)) (ij:B=(B1&&B2))
  (e0:V=(dS ex&&de (St.mk 7 nm ty tg ex body alt) (St.mk 7 [] ai zE ex [] []))):aB 201 [.v (.agg ⟨Sd.cs ⟨7,nm,ty,tN,eN,a,l,cp,b,l2,cp2⟩⟩)] m (.bool V):=by
 have hQ:∀m',an m m' ->aB 236 [.v (.agg ⟨Sd.cs ⟨7,nm,ty,tN,eN,a,l,cp,b,l2,cp2⟩⟩),.v (.agg ⟨Sd.cs ⟨7,[],ai,aM,eN,none,0,0,none,0,0⟩⟩)] m' (.bool (de (St.mk 7 nm ty tg ex body alt) (St.mk 7 [] ai zE ex [] []))):=fun m' hle=>
  oT _ _ _ _ _ m' (aq _) (jK (m:=m') (⟨7,nm,ty,tN,eN,a,l,cp,b,l2,cp2⟩:Sd) (aZ hle dk) (aZ hle hex) hl bl bP dW ax (aD hle r1) (aD hle r2) (dv hle s1) (dv hle s2))
   (jK (m:=m') (⟨7,[],ai,aM,eN,none,0,0,none,0,0⟩:Sd) eA (aZ hle hex) rfl (aq _) rfl (aq _) ⟨ax.k,au _,sC,au _,au _⟩ lZ lZ mO mO)
 have hX:=fun m' (hle:an m m')=>pM _ ex eN.cs m' (aq _) (hg.upM hle) (aZ hle hex)
 clear s1 s2 r1 r2;refine enter pK pz Tryz.func201 rfl rfl (by kernel_rfl) rfl ?_ ?_
 ·simp only[go_sem,Sd.cs,Nd.cs,aM,ai,Int.reduceEq,aF,aQ]
 ·simp only[go_sem,Sd.cs,Nd.cs,aM,ai,Int.reduceEq,aF,aQ];refine ab ((hB m (.inl rfl)).mono ?_);clear hB;rintro r H' m1 aN ⟨l1,rfl,rfl⟩;simp only[go_sem,Sd.cs,Nd.cs,aM,ai,Int.reduceEq,aF,aQ];refine⟨fun b1=>ab ((hA m1 l1).mono ?_),fun b1=> ?_⟩
  ·clear hA;rintro r H' m2 aH ⟨dD,rfl,rfl⟩;have cJ:=aa l1 dD;simp only[go_sem,Sd.cs,Nd.cs,aM,ai,Int.reduceEq,aF,aQ];refine ab ((aX (hX m2 cJ) (fun V=>rfl)).mono ?_);clear hX;rintro r H' w1 sX ⟨eb,rfl,rfl⟩;simp only[go_sem,Sd.cs,Nd.cs,aM,ai,Int.reduceEq,aF,aQ];refine⟨fun c1=> ?_,fun c1=> ?_⟩
   ·refine ab ((aX (hQ w1 (aa cJ eb)) (fun V=>rfl)).mono ?_);clear hQ;rintro r H' w2 sW ⟨j6,rfl,rfl⟩;simp only[go_sem,Sd.cs,Nd.cs,aM,ai,Int.reduceEq,aF,aQ];refine⟨aa (aa cJ eb) j6,?_⟩;rw[e0,c1];rfl
   ·refine⟨(aa cJ eb),?_⟩;rw[e0,c1];rfl
  ·clear hA;refine ab ((aX (hX m1 l1) (fun V=>rfl)).mono ?_);clear hX;rintro r H' w3 B6 ⟨kN,rfl,rfl⟩;simp only[go_sem,Sd.cs,Nd.cs,aM,ai,Int.reduceEq,aF,aQ];refine⟨fun c3=> ?_,fun c3=> ?_⟩
   ·refine ab ((aX (hQ w3 (aa l1 kN)) (fun V=>rfl)).mono ?_);clear hQ;rintro r H' w4 B5 ⟨nv,rfl,rfl⟩;simp only[go_sem,Sd.cs,Nd.cs,aM,ai,Int.reduceEq,aF,aQ];refine⟨aa (aa l1 kN) nv,?_⟩;rw[e0,c3];rfl
   ·refine⟨(aa l1 kN),?_⟩;rw[e0,c3];rfl
theorem abb (nm:List UInt8) (ty:Ty) (tN eN:Nd) (a:Option Addr) (l cp:Nat) (b:Option Addr) (l2 cp2:Nat) (tg ex:Ex) (body alt:List St) (xs ys:List Value) (m:Mem) (hg:Glob m)
  (dk:bk m tg tN.cs) (hex:bk m ex eN.cs) (hl:l=body.length) (bl:l<=cp) (bP:l2=alt.length) (dW:l2<=cp2) (ax:StOk 8 nm ty body.length alt.length) (r1:aK m a l 23 xs) (r2:aK m b l2 23 ys) (s1:bF m body xs) (s2:bF m alt ys) (B1 B2 B V:Bool)
  (hB:∀m',an m m' ->aB 142 [.v (.slice a l cp),.v (.bool false)] m' (.bool B1)) (hA:∀m',an m m' ->aB 142 [.v (.slice b l2 cp2),.v (.bool false)] m' (.bool B2)) (ij:B=(B1&&B2))
  (e0:V=((B&&eP nm&&gR ty.dim ty.base ty.name)&&de (St.mk 8 nm ty tg ex body alt) (St.mk 8 nm ty zE zE body alt))):aB 201 [.v (.agg ⟨Sd.cs ⟨8,nm,ty,tN,eN,a,l,cp,b,l2,cp2⟩⟩)] m (.bool V):=by
 have hQ:∀m',an m m' ->aB 236 [.v (.agg ⟨Sd.cs ⟨8,nm,ty,tN,eN,a,l,cp,b,l2,cp2⟩⟩),.v (.agg ⟨Sd.cs ⟨8,nm,ty,aM,aM,a,l,cp,b,l2,cp2⟩⟩)] m' (.bool (de (St.mk 8 nm ty tg ex body alt) (St.mk 8 nm ty zE zE body alt))):=fun m' hle=>
  oT _ _ _ _ _ m' (aq _) (jK (m:=m') (⟨8,nm,ty,tN,eN,a,l,cp,b,l2,cp2⟩:Sd) (aZ hle dk) (aZ hle hex) hl bl bP dW ax (aD hle r1) (aD hle r2) (dv hle s1) (dv hle s2))
   (jK (m:=m') (⟨8,nm,ty,aM,aM,a,l,cp,b,l2,cp2⟩:Sd) eA eA hl bl bP dW ⟨ax.k,ax.nm,ax.ty,ax.l,ax.l2⟩ (aD hle r1) (aD hle r2) (dv hle s1) (dv hle s2))
 have EO:BL nm:=cR ax.nm (by decide);have EN:BL ty.name:=cR ax.ty.2.2 (by decide);clear s1 s2 r1 r2;refine enter pK pz Tryz.func201 rfl rfl (by kernel_rfl) rfl ?_ ?_
 ·simp only[go_sem,Sd.cs,Nd.cs,aM,ai,Int.reduceEq,aF,aQ]
 ·simp only[go_sem,Sd.cs,Nd.cs,aM,ai,Int.reduceEq,aF,aQ];refine ab ((hB m (.inl rfl)).mono ?_);clear hB;rintro r H' m1 aN ⟨l1,rfl,rfl⟩;simp only[go_sem,Sd.cs,Nd.cs,aM,ai,Int.reduceEq,aF,aQ];refine⟨fun b1=>ab ((hA m1 l1).mono ?_),fun b1=> ?_⟩
  ·clear hA;rintro r H' m2 aH ⟨dD,rfl,rfl⟩;have cJ:=aa l1 dD;simp only[go_sem,Sd.cs,Nd.cs,aM,ai,Int.reduceEq,aF,aQ];refine⟨fun _=>EO,fun _=>EN,fun c=> ?_,fun c=> ?_⟩
   ·refine ab ((aX (hQ m2 cJ) (fun V=>rfl)).mono ?_);clear hQ;rintro r H' w1 sX ⟨eb,rfl,rfl⟩;simp only[go_sem,Sd.cs,Nd.cs,aM,ai,Int.reduceEq,aF,aQ];refine⟨aa cJ eb,?_⟩;rw[e0,ij,b1,c.1.1,c.1.2,c.2];rfl
   ·refine⟨cJ,?_⟩;rw[e0,ij,b1];rcases c with (c |c) |c<;>simp [c]
  ·clear hA;refine⟨l1,?_⟩;rw[e0,ij,b1];rfl
theorem aba (nm:List UInt8) (ty:Ty) (tN eN:Nd) (a:Option Addr) (l cp:Nat) (b:Option Addr) (l2 cp2:Nat) (tg ex:Ex) (body alt:List St) (xs ys:List Value) (m:Mem) (hg:Glob m)
  (dk:bk m tg tN.cs) (hex:bk m ex eN.cs) (hl:l=body.length) (bl:l<=cp) (bP:l2=alt.length) (dW:l2<=cp2) (ax:StOk 9 nm ty body.length alt.length) (r1:aK m a l 23 xs) (r2:aK m b l2 23 ys) (s1:bF m body xs) (s2:bF m alt ys) (B1 B2 B V:Bool)
  (hB:∀m',an m m' ->aB 142 [.v (.slice a l cp),.v (.bool false)] m' (.bool B1)) (hA:∀m',an m m' ->aB 142 [.v (.slice b l2 cp2),.v (.bool false)] m' (.bool B2)) (ij:B=(B1&&B2))
  (e0:V=((B&&dS ex)&&de (St.mk 9 nm ty tg ex body alt) (St.mk 9 [] ai zE ex body []))):aB 201 [.v (.agg ⟨Sd.cs ⟨9,nm,ty,tN,eN,a,l,cp,b,l2,cp2⟩⟩)] m (.bool V):=by
 have hQ:∀m',an m m' ->aB 236 [.v (.agg ⟨Sd.cs ⟨9,nm,ty,tN,eN,a,l,cp,b,l2,cp2⟩⟩),.v (.agg ⟨Sd.cs ⟨9,[],ai,aM,eN,a,l,cp,none,0,0⟩⟩)] m' (.bool (de (St.mk 9 nm ty tg ex body alt) (St.mk 9 [] ai zE ex body []))):=fun m' hle=>
  oT _ _ _ _ _ m' (aq _) (jK (m:=m') (⟨9,nm,ty,tN,eN,a,l,cp,b,l2,cp2⟩:Sd) (aZ hle dk) (aZ hle hex) hl bl bP dW ax (aD hle r1) (aD hle r2) (dv hle s1) (dv hle s2))
   (jK (m:=m') (⟨9,[],ai,aM,eN,a,l,cp,none,0,0⟩:Sd) eA (aZ hle hex) hl bl rfl (aq _) ⟨ax.k,au _,sC,ax.l,au _⟩ (aD hle r1) lZ (dv hle s1) mO)
 have hX:=fun m' (hle:an m m')=>pM _ ex eN.cs m' (aq _) (hg.upM hle) (aZ hle hex)
 clear s1 s2 r1 r2;refine enter pK pz Tryz.func201 rfl rfl (by kernel_rfl) rfl ?_ ?_
 ·simp only[go_sem,Sd.cs,Nd.cs,aM,ai,Int.reduceEq,aF,aQ]
 ·simp only[go_sem,Sd.cs,Nd.cs,aM,ai,Int.reduceEq,aF,aQ];refine ab ((hB m (.inl rfl)).mono ?_);clear hB;rintro r H' m1 aN ⟨l1,rfl,rfl⟩;simp only[go_sem,Sd.cs,Nd.cs,aM,ai,Int.reduceEq,aF,aQ];refine⟨fun b1=>ab ((hA m1 l1).mono ?_),fun b1=> ?_⟩
  ·clear hA;rintro r H' m2 aH ⟨dD,rfl,rfl⟩;have cJ:=aa l1 dD;simp only[go_sem,Sd.cs,Nd.cs,aM,ai,Int.reduceEq,aF,aQ];refine⟨fun b2=> ?_,fun b2=> ?_⟩
   ·refine ab ((aX (hX m2 cJ) (fun V=>rfl)).mono ?_);clear hX;rintro r H' w1 sX ⟨eb,rfl,rfl⟩;simp only[go_sem,Sd.cs,Nd.cs,aM,ai,Int.reduceEq,aF,aQ];refine⟨fun c1=> ?_,fun c1=> ?_⟩
    ·refine ab ((aX (hQ w1 (aa cJ eb)) (fun V=>rfl)).mono ?_);clear hQ;rintro r H' w2 sW ⟨j6,rfl,rfl⟩;simp only[go_sem,Sd.cs,Nd.cs,aM,ai,Int.reduceEq,aF,aQ];refine⟨aa (aa cJ eb) j6,?_⟩;rw[e0,ij,b1,b2,c1];rfl
    ·refine⟨(aa cJ eb),?_⟩;rw[e0,ij,b1,b2,c1];rfl
   ·refine⟨cJ,?_⟩;rw[e0,ij,b1,b2];rfl
  ·clear hA;refine⟨l1,?_⟩;rw[e0,ij,b1];rfl
theorem ZC (nm:List UInt8) (ty:Ty) (tN eN:Nd) (a:Option Addr) (l cp:Nat) (b:Option Addr) (l2 cp2:Nat) (tg ex:Ex) (body alt:List St) (xs ys:List Value) (m:Mem) (hg:Glob m)
  (dk:bk m tg tN.cs) (hex:bk m ex eN.cs) (hl:l=body.length) (bl:l<=cp) (bP:l2=alt.length) (dW:l2<=cp2) (ax:StOk 10 nm ty body.length alt.length) (r1:aK m a l 23 xs) (r2:aK m b l2 23 ys) (s1:bF m body xs) (s2:bF m alt ys) (B1 B2 B V:Bool)
  (hB:∀m',an m m' ->aB 142 [.v (.slice a l cp),.v (.bool false)] m' (.bool B1)) (hA:∀m',an m m' ->aB 142 [.v (.slice b l2 cp2),.v (.bool false)] m' (.bool B2)) (ij:B=(B1&&B2))
  (e0:V=(B&&de (St.mk 10 nm ty tg ex body alt) (St.mk 10 [] ai zE zE body []))):aB 201 [.v (.agg ⟨Sd.cs ⟨10,nm,ty,tN,eN,a,l,cp,b,l2,cp2⟩⟩)] m (.bool V):=by
 have hQ:∀m',an m m' ->aB 236 [.v (.agg ⟨Sd.cs ⟨10,nm,ty,tN,eN,a,l,cp,b,l2,cp2⟩⟩),.v (.agg ⟨Sd.cs ⟨10,[],ai,aM,aM,a,l,cp,none,0,0⟩⟩)] m' (.bool (de (St.mk 10 nm ty tg ex body alt) (St.mk 10 [] ai zE zE body []))):=fun m' hle=>
  oT _ _ _ _ _ m' (aq _) (jK (m:=m') (⟨10,nm,ty,tN,eN,a,l,cp,b,l2,cp2⟩:Sd) (aZ hle dk) (aZ hle hex) hl bl bP dW ax (aD hle r1) (aD hle r2) (dv hle s1) (dv hle s2))
   (jK (m:=m') (⟨10,[],ai,aM,aM,a,l,cp,none,0,0⟩:Sd) eA eA hl bl rfl (aq _) ⟨ax.k,au _,sC,ax.l,au _⟩ (aD hle r1) lZ (dv hle s1) mO)
 clear s1 s2 r1 r2;refine enter pK pz Tryz.func201 rfl rfl (by kernel_rfl) rfl ?_ ?_
 ·simp only[go_sem,Sd.cs,Nd.cs,aM,ai,Int.reduceEq,aF,aQ]
 ·simp only[go_sem,Sd.cs,Nd.cs,aM,ai,Int.reduceEq,aF,aQ];refine ab ((hB m (.inl rfl)).mono ?_);clear hB;rintro r H' m1 aN ⟨l1,rfl,rfl⟩;simp only[go_sem,Sd.cs,Nd.cs,aM,ai,Int.reduceEq,aF,aQ];refine⟨fun b1=>ab ((hA m1 l1).mono ?_),fun b1=> ?_⟩
  ·clear hA;rintro r H' m2 aH ⟨dD,rfl,rfl⟩;have cJ:=aa l1 dD;simp only[go_sem,Sd.cs,Nd.cs,aM,ai,Int.reduceEq,aF,aQ];refine⟨fun b2=> ?_,fun b2=> ?_⟩
   ·refine ab ((aX (hQ m2 cJ) (fun V=>rfl)).mono ?_);clear hQ;rintro r H' w1 sX ⟨eb,rfl,rfl⟩;simp only[go_sem,Sd.cs,Nd.cs,aM,ai,Int.reduceEq,aF,aQ];refine⟨aa cJ eb,?_⟩;rw[e0,ij,b1,b2];rfl
   ·refine⟨cJ,?_⟩;rw[e0,ij,b1,b2];rfl
  ·clear hA;refine⟨l1,?_⟩;rw[e0,ij,b1];rfl
theorem ZB (nm:List UInt8) (ty:Ty) (tN eN:Nd) (a:Option Addr) (l cp:Nat) (b:Option Addr) (l2 cp2:Nat) (tg ex:Ex) (body alt:List St) (xs ys:List Value) (m:Mem) (hg:Glob m)
  (dk:bk m tg tN.cs) (hex:bk m ex eN.cs) (hl:l=body.length) (bl:l<=cp) (bP:l2=alt.length) (dW:l2<=cp2) (ax:StOk 11 nm ty body.length alt.length) (r1:aK m a l 23 xs) (r2:aK m b l2 23 ys) (s1:bF m body xs) (s2:bF m alt ys) (B1 B2 B V:Bool)
  (hB:∀m',an m m' ->aB 142 [.v (.slice a l cp),.v (.bool false)] m' (.bool B1)) (hA:∀m',an m m' ->aB 142 [.v (.slice b l2 cp2),.v (.bool false)] m' (.bool B2)) (ij:B=(B1&&B2))
  (e0:V=(uZ ex&&de (St.mk 11 nm ty tg ex body alt) (St.mk 11 [] ai zE ex [] []))):aB 201 [.v (.agg ⟨Sd.cs ⟨11,nm,ty,tN,eN,a,l,cp,b,l2,cp2⟩⟩)] m (.bool V):=by
 have hQ:∀m',an m m' ->aB 236 [.v (.agg ⟨Sd.cs ⟨11,nm,ty,tN,eN,a,l,cp,b,l2,cp2⟩⟩),.v (.agg ⟨Sd.cs ⟨11,[],ai,aM,eN,none,0,0,none,0,0⟩⟩)] m' (.bool (de (St.mk 11 nm ty tg ex body alt) (St.mk 11 [] ai zE ex [] []))):=fun m' hle=>
  oT _ _ _ _ _ m' (aq _) (jK (m:=m') (⟨11,nm,ty,tN,eN,a,l,cp,b,l2,cp2⟩:Sd) (aZ hle dk) (aZ hle hex) hl bl bP dW ax (aD hle r1) (aD hle r2) (dv hle s1) (dv hle s2))
   (jK (m:=m') (⟨11,[],ai,aM,eN,none,0,0,none,0,0⟩:Sd) eA (aZ hle hex) rfl (aq _) rfl (aq _) ⟨ax.k,au _,sC,au _,au _⟩ lZ lZ mO mO)
 have hX:=fun m' (hle:an m m')=>R8 ex eN.cs m' (hg.upM hle) (aZ hle hex)
 clear s1 s2 r1 r2;refine enter pK pz Tryz.func201 rfl rfl (by kernel_rfl) rfl ?_ ?_
 ·simp only[go_sem,Sd.cs,Nd.cs,aM,ai,Int.reduceEq,aF,aQ]
 ·simp only[go_sem,Sd.cs,Nd.cs,aM,ai,Int.reduceEq,aF,aQ];refine ab ((hB m (.inl rfl)).mono ?_);clear hB;rintro r H' m1 aN ⟨l1,rfl,rfl⟩;simp only[go_sem,Sd.cs,Nd.cs,aM,ai,Int.reduceEq,aF,aQ];refine⟨fun b1=>ab ((hA m1 l1).mono ?_),fun b1=> ?_⟩
  ·clear hA;rintro r H' m2 aH ⟨dD,rfl,rfl⟩;have cJ:=aa l1 dD;simp only[go_sem,Sd.cs,Nd.cs,aM,ai,Int.reduceEq,aF,aQ];refine ab ((aX (hX m2 cJ) (fun V=>rfl)).mono ?_);clear hX;rintro r H' w1 sX ⟨eb,rfl,rfl⟩;simp only[go_sem,Sd.cs,Nd.cs,aM,ai,Int.reduceEq,aF,aQ];refine⟨fun c1=> ?_,fun c1=> ?_⟩
   ·refine ab ((aX (hQ w1 (aa cJ eb)) (fun V=>rfl)).mono ?_);clear hQ;rintro r H' w2 sW ⟨j6,rfl,rfl⟩;simp only[go_sem,Sd.cs,Nd.cs,aM,ai,Int.reduceEq,aF,aQ];refine⟨aa (aa cJ eb) j6,?_⟩;rw[e0,c1];rfl
   ·refine⟨(aa cJ eb),?_⟩;rw[e0,c1];rfl
  ·clear hA;refine ab ((aX (hX m1 l1) (fun V=>rfl)).mono ?_);clear hX;rintro r H' w3 B6 ⟨kN,rfl,rfl⟩;simp only[go_sem,Sd.cs,Nd.cs,aM,ai,Int.reduceEq,aF,aQ];refine⟨fun c3=> ?_,fun c3=> ?_⟩
   ·refine ab ((aX (hQ w3 (aa l1 kN)) (fun V=>rfl)).mono ?_);clear hQ;rintro r H' w4 B5 ⟨nv,rfl,rfl⟩;simp only[go_sem,Sd.cs,Nd.cs,aM,ai,Int.reduceEq,aF,aQ];refine⟨aa (aa l1 kN) nv,?_⟩;rw[e0,c3];rfl
   ·refine⟨(aa l1 kN),?_⟩;rw[e0,c3];rfl
theorem abj (k:Int) (nm:List UInt8) (ty:Ty) (tN eN:Nd) (a:Option Addr) (l cp:Nat) (b:Option Addr) (l2 cp2:Nat) (m:Mem) (B1 B2:Bool) (e:∀j:Int,1<=j->j<=11->(k=j)=False)
  (hB:∀m',an m m' ->aB 142 [.v (.slice a l cp),.v (.bool false)] m' (.bool B1)) (hA:∀m',an m m' ->aB 142 [.v (.slice b l2 cp2),.v (.bool false)] m' (.bool B2)):
  aB 201 [.v (.agg ⟨Sd.cs ⟨k,nm,ty,tN,eN,a,l,cp,b,l2,cp2⟩⟩)] m (.bool false):=by
 have e1:=e 1 (by decide) (by decide);have e2:=e 2 (by decide) (by decide);have e3:=e 3 (by decide) (by decide);have e4:=e 4 (by decide) (by decide);have e5:=e 5 (by decide) (by decide);have e6:=e 6 (by decide) (by decide);have e7:=e 7 (by decide) (by decide);have e8:=e 8 (by decide) (by decide);have e9:=e 9 (by decide) (by decide);have gQ:=e 10 (by decide) (by decide);have ke:=e 11 (by decide) (by decide);refine enter pK pz Tryz.func201 rfl rfl (by kernel_rfl) rfl ?_ ?_
 ·simp only[go_sem,Sd.cs,Nd.cs]
 ·simp only[go_sem,Sd.cs,Nd.cs];refine ab ((hB m (.inl rfl)).mono ?_);clear hB;rintro r H' m1 aN ⟨l1,rfl,rfl⟩;simp only[go_sem,Sd.cs,Nd.cs,e1,e2,e3,e4,e5,e6,e7,e8,e9,gQ,ke,aQ];refine⟨fun b1=>ab ((hA m1 l1).mono ?_),fun b1=>l1⟩;clear hA;rintro r H' m2 aH ⟨dD,rfl,rfl⟩;simp only[go_sem,Sd.cs,Nd.cs,e1,e2,e3,e4,e5,e6,e7,e8,e9,gQ,ke,aQ];exact aa l1 dD
theorem Mx {k:Int}:(k=1\/k=2\/k=3\/k=4\/k=5\/k=6\/k=7\/k=8\/k=9\/k=10\/k=11)\/∀j:Int,1<=j->j<=11->(k=j)=False:=by
 by_cases h:1<=k/\k<=11
 ·left;omega
 ·right;intro j h1 h2;exact eq_false fun e=>h (by omega)
theorem FR:∀(h:Nat) (e:St) (cs:List Value) (m:Mem),fh e<=h->Glob m->fu m e cs->aB 201 [.v (.agg ⟨cs⟩)] m (.bool (iB e))
 |0,.mk k nm ty tg ex body alt,cs,m,hd,_,_=>by simp [fh] at hd
 |h+1,.mk k nm ty tg ex body alt,cs,m,hd,hg,he=>by
  obtain⟨⟨k,nm,ty,tN,eN,a,l,cp,b,l2,cp2⟩,rfl,rfl,rfl,rfl,dk,hex,hl,bl,bP,dW,ax,xs,ys,r1,r2,s1,s2⟩:=tq he;simp only[fh] at hd;simp only at dk hex hl bl bP dW ax r1 r2;have hB:=fun m' (hle:an m m')=>F4 false body a l cp xs m' hl (aD hle r1) (dv hle s1) (by rw[hl];exact ax.l) fun e he cs m2 aY bh=>FR h e cs m2 (by have:=oM he;omega) (hg.upM (aa hle aY)) bh
  have hA:=fun m' (hle:an m m')=>F4 false alt b l2 cp2 ys m' bP (aD hle r2) (dv hle s2) (by rw[bP];exact ax.l2) fun e he cs m2 aY bh=>FR h e cs m2 (by have:=oM he;omega) (hg.upM (aa hle aY)) bh
  simp only;rcases Mx (k:=k) with hk |hk
  ·rcases hk with rfl |rfl |rfl |rfl |rfl |rfl |rfl |rfl |rfl |rfl |rfl
   ·exact abi nm ty tN eN a l cp b l2 cp2 tg ex body alt xs ys m hg dk hex hl bl bP dW ax r1 r2 s1 s2 _ _ _ _ hB hA rfl (by simp only[iB,iD,jt,Int.reduceEq,or_false,or_true,false_or,true_or,if_true,if_false])
   ·exact abh nm ty tN eN a l cp b l2 cp2 tg ex body alt xs ys m hg dk hex hl bl bP dW ax r1 r2 s1 s2 _ _ _ _ hB hA rfl (by simp only[iB,iD,jt,Int.reduceEq,or_false,or_true,false_or,true_or,if_true,if_false])
   ·exact abg nm ty tN eN a l cp b l2 cp2 tg ex body alt xs ys m hg dk hex hl bl bP dW ax r1 r2 s1 s2 _ _ _ _ hB hA rfl (by simp only[iB,iD,jt,Int.reduceEq,or_false,or_true,false_or,true_or,if_true,if_false])
   ·exact abf nm ty tN eN a l cp b l2 cp2 tg ex body alt xs ys m hg dk hex hl bl bP dW ax r1 r2 s1 s2 _ _ _ _ hB hA rfl (by simp only[iB,iD,jt,Int.reduceEq,or_false,or_true,false_or,true_or,if_true,if_false])
   ·exact abe nm ty tN eN a l cp b l2 cp2 tg ex body alt xs ys m hg dk hex hl bl bP dW ax r1 r2 s1 s2 _ _ _ _ hB hA rfl (by simp only[iB,iD,jt,Int.reduceEq,or_false,or_true,false_or,true_or,if_true,if_false])
   ·exact abd nm ty tN eN a l cp b l2 cp2 tg ex body alt xs ys m hg dk hex hl bl bP dW ax r1 r2 s1 s2 _ _ _ _ hB hA rfl (by simp only[iB,iD,jt,Int.reduceEq,or_false,or_true,false_or,true_or,if_true,if_false])
   ·exact abc nm ty tN eN a l cp b l2 cp2 tg ex body alt xs ys m hg dk hex hl bl bP dW ax r1 r2 s1 s2 _ _ _ _ hB hA rfl (by simp only[iB,iD,jt,Int.reduceEq,or_false,or_true,false_or,true_or,if_true,if_false])
   ·exact abb nm ty tN eN a l cp b l2 cp2 tg ex body alt xs ys m hg dk hex hl bl bP dW ax r1 r2 s1 s2 _ _ _ _ hB hA rfl (by simp only[iB,iD,jt,Int.reduceEq,or_false,or_true,false_or,true_or,if_true,if_false])
   ·exact aba nm ty tN eN a l cp b l2 cp2 tg ex body alt xs ys m hg dk hex hl bl bP dW ax r1 r2 s1 s2 _ _ _ _ hB hA rfl (by simp only[iB,iD,jt,Int.reduceEq,or_false,or_true,false_or,true_or,if_true,if_false])
   ·exact ZC nm ty tN eN a l cp b l2 cp2 tg ex body alt xs ys m hg dk hex hl bl bP dW ax r1 r2 s1 s2 _ _ _ _ hB hA rfl (by simp only[iB,iD,jt,Int.reduceEq,or_false,or_true,false_or,true_or,if_true,if_false])
   ·exact ZB nm ty tN eN a l cp b l2 cp2 tg ex body alt xs ys m hg dk hex hl bl bP dW ax r1 r2 s1 s2 _ _ _ _ hB hA rfl (by simp only[iB,iD,jt,Int.reduceEq,or_false,or_true,false_or,true_or,if_true,if_false])
  ·have hv:=abj k nm ty tN eN a l cp b l2 cp2 m _ _ hk hB hA;have:iB (.mk k nm ty tg ex body alt)=false:=by
    have e:∀j:Int,1<=j->j<=11->¬k=j:=fun j h1 h2 h3=>by have:=hk j h1 h2;rw[this] at h3;exact h3
    simp only[iB,iD,hk 1 (by decide) (by decide),hk 2 (by decide) (by decide),hk 3 (by decide) (by decide),hk 4 (by decide) (by decide),hk 5 (by decide) (by decide),hk 6 (by decide) (by decide),hk 7 (by decide) (by decide),hk 8 (by decide) (by decide),hk 9 (by decide) (by decide),hk 10 (by decide) (by decide),hk 11 (by decide) (by decide),or_false,if_false,Bool.false_and]
   rw[this];exact hv
theorem LA (sup:Bool) (l:List St) (a:Option Addr) (n c:Nat) (xs:List Value) (m:Mem) (hg:Glob m) (hl:n=l.length) (hr:aK m a n 23 xs) (hs:bF m l xs) (hn:n<=aA):
  aB 142 [.v (.slice a n c),.v (.bool sup)] m (.bool (fD sup l)):=
 F4 sup l a n c xs m hl hr hs hn fun e _ cs m' hle bh=>FR _ e cs m' (aq _) (hg.upM hle) bh
def hasB (fl m:Int):Bool:= !decide (bits .and .i64 fl m=0)
def kj (fl:Int):Bool:=decide (bits .and .i64 fl 7=0)||decide (bits .and .i64 fl 7=1)||decide (bits .and .i64 fl 7=2)||decide (bits .and .i64 fl 7=4)
def jv (fl al:Int):Bool:=decide (bits .andNot .i64 fl al=0)
def oS (fl:Int):Bool:=kj fl&&jv fl 1087&& !(hasB fl 1024&&hasB fl 58)&&(!hasB fl 32|| !hasB fl 8)
def n8 (f:Fc):Bool:=gR f.ty.dim f.ty.base f.ty.name&&eP f.name&&kj f.fl&&jv f.fl 31
def mg (p:Pc):Bool:=gR p.ty.dim p.ty.base p.ty.name&&eP p.name
def r9 (t:Ty):Bool:=decide (t.dim=0)&&(decide (t.base=86)&&decide (t.name=[]))
def qZ (m:Md):Bool:=if m.name=eH then r9 m.res&&m.hb&&jv m.fl 7 else eP m.name&&(r9 m.res||gR m.res.dim m.res.base m.res.name)
def sG (m:Md):Bool:=oS m.fl&& !(m.hb==hasB m.fl 1024)&&(m.hb||decide (m.body.length=0))&&decide (m.params.length<=16)
def jF (m:Md):Bool:=qZ m&&sG m&& !(m.params.any fun p=> !mg p)&&fD (decide (m.name=eH)) m.body
def ld:List UInt8:=[108,97,110,103,47,79,98,106,101,99,116]
def uk (m:Md):Bool:= !decide (m.fl=1)&& !decide (m.fl=1025)||decide (m.name=eH)
def DZ (d:Cd):Bool:=jv d.fl 1537&&hasB d.fl 1024&&decide (d.super=ld)&&decide (d.fields.length+d.init.length=0)&& !(d.methods.any uk)
def sA (d:Cd):Bool:=if hasB d.fl 512=true then DZ d else jv d.fl 1041&& !(hasB d.fl 16&&hasB d.fl 1024)
def mX (d:Cd):Bool:=dT d.name&&dT d.super&&decide (d.ifs.length<=8)
def pn (d:Cd):Bool:=decide (d.fields.length<=64)&&decide (d.methods.length<=64)
def od (d:Cd):Bool:=sA d&&(mX d&& !(d.ifs.any fun s=> !dT s)&&pn d&& !(d.fields.any fun f=> !n8 f)&& !(d.methods.any fun f=> !jF f)&&fD false d.init)
def vR (F:Int->Bool):List Value->Option (Prop×Value)
 |[.int .i64 c]=>some (True,.bool (F c))
 |_=>none
theorem AS {P:Program} {f:FuncId} {F:Int->Bool} (h:∀c m,FnH P f [.v (.int .i64 c)] ⟨[],[]⟩ m fun r H' _=>r= .v (.bool (F c))/\H' =⟨[],[]⟩):ou P f (vR F):=fun cL y hy _ m=>by
 unfold vR at hy;split at hy
 ·cases hy;exact h _ m
 ·cases hy
def vQ (F:Int->Int->Bool):List Value->Option (Prop×Value)
 |[.int .i64 c,.int .i64 d]=>some (True,.bool (F c d))
 |_=>none
theorem AR {P:Program} {f:FuncId} {F:Int->Int->Bool} (h:∀c d m,FnH P f [.v (.int .i64 c),.v (.int .i64 d)] ⟨[],[]⟩ m fun r H' _=>r= .v (.bool (F c d))/\H' =⟨[],[]⟩):ou P f (vQ F):=fun cL y hy _ m=>by
 unfold vQ at hy;split at hy
 ·cases hy;exact h _ _ m
 ·cases hy
attribute [go_sem] vR vQ
theorem Up (fl:Int) (m:Mem):FnH Tryz.prog 194 [.v (.int .i64 fl)] ⟨[],[]⟩ m fun r H' _=>r= .v (.bool (kj fl))/\H' =⟨[],[]⟩:=by
 refine aL ay Tryz.func194 ?_
 ·simp only[go_sem];refine⟨fun a=>⟨fun _=>by simp [kj,a],fun n=>absurd a n⟩,fun a=>⟨fun b=>⟨fun _=>by simp [kj,b],fun n=>absurd b n⟩,fun b=>⟨fun c=>⟨fun _=>by simp [kj,c],fun n=>absurd c n⟩,fun c=>⟨fun d=>by simp [kj,d],fun d=>by simp [kj,a,b,c,d]⟩⟩⟩⟩
theorem K9 (fl al:Int) (m:Mem):FnH Tryz.prog 132 [.v (.int .i64 fl),.v (.int .i64 al)] ⟨[],[]⟩ m fun r H' _=>r= .v (.bool (jv fl al))/\H' =⟨[],[]⟩:=by
 refine aL ay Tryz.func132 ?_
 ·simp only[go_sem];rfl
abbrev xY:Cfg:=fP (fun _=>false) [(194,vR kj),(132,vQ jv),(155,eZ BL fun s=> .bool (eP s)),(157,rG gR),(134,eZ BL fun s=> .bool (dT s))]
theorem vO:cK xY Tryz.prog:=pure_cons (by kernel_rfl) (AS Up) (pure_cons (by kernel_rfl) (AR K9) (pure_cons (by kernel_rfl) (fM F1) (pure_cons (by kernel_rfl) (u0 FQ) (pure_cons (by kernel_rfl) (fM Ab) pure_nil))))
theorem RQ (fl:Int) (m:Mem):FnH Tryz.prog 195 [.v (.int .i64 fl)] ⟨[],[]⟩ m fun r H' _=>r= .v (.bool (oS fl))/\H' =⟨[],[]⟩:=by
 refine aL vO Tryz.func195 ?_
 ·simp only[go_sem];refine⟨fun h=> ?_,fun h=>⟨fun g=> ?_,fun g=> ?_⟩⟩
  ·rcases h with h |h<;>simp [oS,h]
  ·simp [oS,hasB,g.1,g.2]
  ·rcases g with g |g<;>simp [oS,hasB,h.1,h.2,g]
theorem SR (f:Fc) (m:Mem) (h:FcOk f):aB 136 [.v (.agg ⟨f.cs⟩)] m (.bool (n8 f)):=by
 have h1:BL f.name:=cR h.name (by decide);have h2:BL f.ty.name:=cR h.ty.2.2 (by decide);refine enter xY vO Tryz.func136 rfl rfl (by kernel_rfl) rfl ?_ ?_
 ·simp only[go_sem,Fc.cs]
 ·simp only[go_sem,Fc.cs];exact⟨h2,fun _=>h1,rfl⟩
theorem Uh (f:Fc) (m:Mem) (h:FcOk f):aB 135 [.v (.agg ⟨f.cs⟩)] m (.bool (!n8 f)):=by
 have hF:=SR f m h;refine enter xY vO Tryz.func135 rfl rfl (by kernel_rfl) rfl ?_ ?_
 ·simp only[go_sem,Fc.cs]
 ·simp only[go_sem,Fc.cs];refine ab ((aX hF (fun V=>rfl)).mono ?_);rintro r H' m2 aH ⟨aY,rfl,rfl⟩;simp only[go_sem];exact aY
theorem Ud (s:List UInt8) (m:Mem) (h:BL s):aB 133 [.v (.string (bs s))] m (.bool (!dT s)):=by
 refine aL vO Tryz.func133 ?_
 ·simp only[go_sem];exact h
theorem Ue (f:Pc) (m:Mem) (h:PcOk f):aB 196 [.v (.agg ⟨f.cs⟩)] m (.bool (!mg f)):=by
 have h1:BL f.name:=cR h.name (by decide);have h2:BL f.ty.name:=cR h.ty.2.2 (by decide);refine enter xY vO Tryz.func196 rfl rfl (by kernel_rfl) rfl ?_ ?_
 ·simp only[go_sem,Pc.cs]
 ·simp only[go_sem,Pc.cs];exact⟨h2,fun _=>h1,by rw[mg,Bool.not_and]⟩
theorem Ug (x:Mc) (m:Mem):aB 191 [.v (.agg ⟨x.cs⟩)] m (.bool (!decide (x.fl=1)&& !decide (x.fl=1025)||decide (x.name=eH))):=by
 refine enter xY vO Tryz.func191 rfl rfl (by kernel_rfl) rfl ?_ ?_
 ·simp only[go_sem,Mc.cs]
 ·simp only[go_sem,Mc.cs];rfl
theorem D9 {α:Type} {p:α->Bool} {l:List α} {n:Nat} (hn:n=l.length) {B:Nat->Bool} (h:∀i (hi:i<l.length),B i=p l[i]):kr n B=l.any p:=by
 subst hn;exact LD p l B h
def zU {α:Type} (p:α->Bool) (l:List α) (i:Nat):Bool:=match l[i]? with |some a=>p a |none=>false
theorem vb {α:Type} {p:α->Bool} {l:List α} {i:Nat} (h:i<l.length):zU p l i=p l[i]:=by simp only[zU,List.getElem?_eq_getElem h]
theorem Vw {m:Mem} {d:Md} {cs:List Value} (h:gq m d cs):∃x:Mc,(cs=x.cs/\x.fl=d.fl/\x.res=d.res/\x.name=d.name/\x.hb=d.hb)/\(x.pl=d.params.length/\x.pl<=x.pc/\x.l=d.body.length/\x.l<=x.cp)/\MdOk d/\aK m x.pa x.pl 4 (flat Pc.cs d.params)/\∃xs,aK m x.a x.l 23 xs/\bF m d.body xs:=h
theorem RR (d:Md) (cs:List Value) (m:Mem) (hg:Glob m) (h:gq m d cs):aB 138 [.v (.agg ⟨cs⟩)] m (.bool (jF d)):=by
 obtain⟨fl,res,name,params,hb,body⟩:=d;obtain⟨x,⟨rfl,rfl,rfl,rfl,rfl⟩,⟨jQ,uC,hl,bl⟩,ax,r1,xs,r2,s2⟩:=h;simp only at jQ hl r1 s2;have h1:BL x.name:=cR ax.name (by decide);have h2:BL x.res.name:=cR ax.res.2.2 (by decide);have hP:∀m',an m m' ->aB 197 [.v (.slice x.pa x.pl x.pc),.v (.func (.func 196) ⟨[]⟩ ⟨[]⟩)] m' (.bool (params.any fun p=> !mg p)):=fun m' hle=>by
  have:=aaB 196 (zU (fun p=> !mg p) params) x.pa x.pl x.pc _ m' (aD hle r1) (by rw[jQ];exact ax.pl) (by kernel_rfl) fun i hi=>⟨params[i]'(by omega),qN (f:=Pc.cs) (sz:=4) (fun _=>rfl) (by omega),fun m2 _=>by
   rw[vb (by omega)];exact Ue _ m2 (ax.ps _ (List.getElem_mem _))⟩
  rw[D9 jQ (p:=fun p=> !mg p) fun i hi=>vb hi] at this;exact this
 have hB:=fun m' (hle:an m m')=>LA (decide (x.name=eH)) body x.a x.l x.cp xs m' (hg.upM hle) hl (aD hle r2) (dv hle s2) (by rw[hl];exact ax.l)
 clear s2;refine enter (fP (fun _=>false) [(195,vR oS),(132,vQ jv),(155,eZ BL fun s=> .bool (eP s)),(157,rG gR)])
  (pure_cons (by kernel_rfl) (AS RQ) (pure_cons (by kernel_rfl) (AR K9) (pure_cons (by kernel_rfl) (fM F1) (pure_cons (by kernel_rfl) (u0 FQ) pure_nil)))) Tryz.func138 rfl rfl (by kernel_rfl) rfl ?_ ?_
 ·simp only[go_sem,Mc.cs]
 ·simp only[go_sem,Mc.cs,qc];have e1:∀(d:Md),qZ d=true->sG d=true->jF d=(!(d.params.any fun p=> !mg p)&&fD (decide (d.name=eH)) d.body):=fun d a b=>by rw[jF,a,b];rfl
  have g0:∀(d:Md),((oS d.fl=false\/(d.hb== !decide (bits .and .i64 d.fl 1024=0))=true)\/d.hb=false/\0<d.body.length)\/16<d.params.length->false=jF d:=fun d g=>by
   have:sG d=false:=by
    rcases g with ((g |g) |g) |g
    ·simp [sG,g]
    ·simp only[sG,hasB,g,Bool.not_true,Bool.and_false,Bool.false_and]
    ·simp only[sG,g.1,Bool.false_or,bo (by omega:¬d.body.length=0),Bool.and_false,Bool.false_and]
    ·simp only[sG,bo (by omega:¬d.params.length<=16),Bool.and_false]
   rw[jF,this,Bool.and_false];rfl
  have g1:∀(d:Md),((oS d.fl=true/\(d.hb== !decide (bits .and .i64 d.fl 1024=0))=false)/\(d.hb=true\/¬0<d.body.length))/\¬16<d.params.length->sG d=true:=fun d g=>by
   simp only[sG,hasB,g.1.1.1,g.1.1.2,bX (by omega:d.params.length<=16),Bool.not_false,Bool.and_true,Bool.true_and];rcases g.1.2 with h |h
   ·rw[h];rfl
   ·rw[bX (by omega:d.body.length=0),Bool.or_true]
  have Js:=g0 ⟨x.fl,x.res,x.name,params,x.hb,body⟩;have Jr:=g1 ⟨x.fl,x.res,x.name,params,x.hb,body⟩;have Jy:=e1 ⟨x.fl,x.res,x.name,params,x.hb,body⟩;clear g0 g1 e1;simp only at Js Jr Jy;have gx:∀{A B:Prop},(A\/B/\0<(x.l:Int))\/16<(x.pl:Int)->(A\/B/\0<body.length)\/16<params.length:=fun g=>by
   clear hP hB;rcases g with (g |g) |g
   ·exact .inl (.inl g)
   ·exact .inl (.inr ⟨g.1,by omega⟩)
   ·exact .inr (by omega)
  have gy:∀{A B:Prop},(A/\(B\/¬0<(x.l:Int)))/\¬16<(x.pl:Int)->(A/\(B\/¬0<body.length))/\¬16<params.length:=fun g=>by
   clear hP hB;refine⟨⟨g.1.1,?_⟩,by omega⟩;rcases g.1.2 with h |h
   ·exact .inl h
   ·exact .inr (by omega)
  refine⟨fun hn=>⟨fun c=> ?_,fun c=>⟨by kernel_rfl,fun g=>Js (gx g),fun g=>ab ((hP m (.inl rfl)).mono ?_)⟩⟩,
   fun hn=>⟨h1,fun _=>h2,fun c=> ?_,fun c=>⟨by kernel_rfl,fun g=>Js (gx g),fun g=>ab ((hP m (.inl rfl)).mono ?_)⟩⟩⟩
  ·clear hP hB;have:qZ ⟨x.fl,x.res,x.name,params,x.hb,body⟩=false:=by
    simp only[qZ,r9];rw[aj (show x.name=eH from hn)];rcases c with ((c |c |c) |c) |c<;>simp [c]
   rw[jF,this];rfl
  ·have g2:=Jr (gy g);have hh:qZ ⟨x.fl,x.res,x.name,params,x.hb,body⟩=true:=by
    clear hP hB;simp only[qZ,r9];rw[aj (show x.name=eH from hn)];simp [c.1.1.1,c.1.1.2.1,c.1.1.2.2,c.1.2,c.2]
   have e2:=Jy hh g2;clear hP;rintro r H' m2 aH ⟨aY,rfl,rfl⟩;simp only[go_sem,Mc.cs];refine⟨fun b1=>ab ((hB m2 aY).mono ?_),fun b1=> ?_⟩
   ·clear hB;rintro r H' m3 bN ⟨kL,rfl,rfl⟩;simp only[go_sem,Mc.cs];refine⟨aa aY kL,?_⟩;rw[e2,b1];rfl
   ·refine⟨aY,?_⟩;rw[e2,b1];rfl
  ·clear hP hB;have:qZ ⟨x.fl,x.res,x.name,params,x.hb,body⟩=false:=by
    simp only[qZ,r9];rw[ae (show ¬x.name=eH from hn)];rcases c with c |c
    ·simp [c]
    ·rw[c.2];rcases c.1 with c |c |c<;>simp [c]
   rw[jF,this];rfl
  ·have g2:=Jr (gy g);have hh:qZ ⟨x.fl,x.res,x.name,params,x.hb,body⟩=true:=by
    clear hP hB;simp only[qZ,r9];rw[ae (show ¬x.name=eH from hn),c.1];rcases c.2 with c |c<;>simp [c]
   have e2:=Jy hh g2;clear hP;rintro r H' m2 aH ⟨aY,rfl,rfl⟩;simp only[go_sem,Mc.cs];refine⟨fun b1=>ab ((hB m2 aY).mono ?_),fun b1=> ?_⟩
   ·clear hB;rintro r H' m3 bN ⟨kL,rfl,rfl⟩;simp only[go_sem,Mc.cs];refine⟨aa aY kL,?_⟩;rw[e2,b1];rfl
   ·refine⟨aY,?_⟩;rw[e2,b1];rfl
theorem Uf (d:Md) (cs:List Value) (m:Mem) (hg:Glob m) (h:gq m d cs):aB 137 [.v (.agg ⟨cs⟩)] m (.bool (!jF d)):=by
 have hM:=RR d cs m hg h;obtain⟨x,rfl⟩:=Dk h;refine enter gA ay Tryz.func137 rfl rfl (by kernel_rfl) rfl ?_ ?_
 ·simp only[go_sem,Mc.cs]
 ·simp only[go_sem,Mc.cs];refine ab ((aX hM (fun V=>rfl)).mono ?_);rintro r H' m2 aH ⟨aY,rfl,rfl⟩;simp only[go_sem];exact aY
theorem X3 (d:Md) (cs:List Value) (m m' :Mem) (h:gq m d cs):aB 191 [.v (.agg ⟨cs⟩)] m' (.bool (uk d)):=by
 obtain⟨x,⟨rfl,h1,h2,h3,h4⟩,_⟩:=h;have:=Ug x m';rw[h1,h3] at this;exact this
theorem QT (f:FuncId) (p:Md->Bool) (l:List Md) (a:Option Addr) (n c:Nat) (xs:List Value) (m:Mem) (hl:n=l.length) (hr:aK m a n 8 xs) (hs:mZ (gq m) 8 l xs) (hn:n<=aA) (ax:iJ Tryz.prog f=true)
  (hf:∀d∈l,∀cs m',an m m' ->gq m' d cs->aB f [.v (.agg ⟨cs⟩)] m' (.bool (p d))):
  aB 141 [.v (.slice a n c),.v (.func (.func f) ⟨[]⟩ ⟨[]⟩)] m (.bool (l.any p)):=by
 have:=aaC f (zU p l) a n c xs m hr hn ax fun i hi=>by
  have dM:i<l.length:=by omega
  have bh:=pf hs dM;obtain⟨X,hX⟩:=Dk bh;rw[hX] at bh;refine⟨X,hX,fun m' hle=> ?_⟩;rw[vb dM];exact hf _ (List.getElem_mem dM) _ m' hle (qH hle bh)
 rw[D9 hl (p:=p) fun i hi=>vb hi] at this;exact this
theorem ctF (f:FuncId) (p:Fc->Bool) (l:List Fc) (a:Option Addr) (n c:Nat) (m:Mem) (hl:n=l.length) (hr:aK m a n 5 (flat Fc.cs l)) (hn:n<=aA) (ax:iJ Tryz.prog f=true)
  (hf:∀d∈l,∀m',an m m' ->aB f [.v (.agg ⟨d.cs⟩)] m' (.bool (p d))):
  aB 140 [.v (.slice a n c),.v (.func (.func f) ⟨[]⟩ ⟨[]⟩)] m (.bool (l.any p)):=by
 have:=aaD f (zU p l) a n c _ m hr hn ax fun i hi=>by
  have dM:i<l.length:=by omega
  refine⟨l[i],qN (f:=Fc.cs) (sz:=5) (fun _=>rfl) dM,fun m' hle=> ?_⟩;rw[vb dM];exact hf _ (List.getElem_mem dM) m' hle
 rw[D9 hl (p:=p) fun i hi=>vb hi] at this;exact this
theorem ctS (f:FuncId) (p:List UInt8->Bool) (l:List (List UInt8)) (a:Option Addr) (n c:Nat) (m:Mem) (hl:n=l.length) (hr:aK m a n 1 (strs l)) (hn:n<=aA) (ax:iJ Tryz.prog f=true)
  (hf:∀d∈l,∀m',an m m' ->aB f [.v (.string (bs d))] m' (.bool (p d))):
  aB 139 [.v (.slice a n c),.v (.func (.func f) ⟨[]⟩ ⟨[]⟩)] m (.bool (l.any p)):=by
 have:=adr f (zU p l) a n c _ m hr hn ax fun i hi=>by
  have dM:i<l.length:=by omega
  refine⟨l[i],?_,fun m' hle=> ?_⟩
  ·rw[strs,List.getElem?_map,List.getElem?_eq_getElem dM];rfl
  ·rw[vb dM];exact hf _ (List.getElem_mem dM) m' hle
 rw[D9 hl (p:=p) fun i hi=>vb hi] at this;exact this
theorem SN (d:Cd) (cs:List Value) (m:Mem) (h:jW m d cs):aB 131 [.v (.agg ⟨cs⟩)] m (.bool (DZ d)):=by
 obtain⟨fl,name,super,ifs,fields,methods,init⟩:=d;obtain⟨x,⟨rfl,rfl,rfl,rfl⟩,⟨dM,hic,fk,hfc,hml,hmc,fT,hsc⟩,ax,r1,r2,xs,ys,r3,s3,r4,s4⟩:=h;simp only at dM fk hml fT r1 r2 s3 s4;have hM:=QT 191 uk methods x.ma x.ml x.mc xs m hml r3 s3 (by rw[hml];exact ax.ml) (by kernel_rfl) fun d _ cs m' hle bh=>X3 d cs m' m' bh
 have b1:=ax.fn;have b2:=ax.l;clear s3 s4;refine enter xY vO Tryz.func131 rfl rfl (by kernel_rfl) rfl ?_ ?_
 ·simp only[go_sem,Cc.cs]
 ·simp only[go_sem,Cc.cs];have e0:DZ ⟨x.fl,x.name,x.super,ifs,fields,methods,init⟩=(jv x.fl 1537&&hasB x.fl 1024&&decide (x.super=ld)&&decide (fields.length+init.length=0)&& !(methods.any uk)):=rfl;simp only at b1 b2;refine⟨fun _=>by clear hM;unfold az;simp only[aA] at b1 b2;omega,fun c=>ab (hM.mono ?_),fun c=> ?_⟩
  ·have g:fields.length+init.length=0:=by clear hM;omega
   clear hM;rintro r H' m2 aH ⟨aY,rfl,rfl⟩;simp only[go_sem,Cc.cs];refine⟨aY,?_⟩;rw[e0,c.1.1.1,hasB,bo c.1.1.2,bX (show x.super=ld from c.1.2),bX g];rfl
  ·clear hM;rw[e0];rcases c with ((c |c) |c) |c
   ·simp [c]
   ·simp [hasB,c]
   ·rw[bo (show ¬x.super=ld from c)];simp
   ·rw[bo (by omega:¬fields.length+init.length=0)];simp
theorem RY (d:Cd) (cs:List Value) (m:Mem) (hg:Glob m) (h:jW m d cs):aB 54 [.v (.agg ⟨cs⟩)] m (.bool (od d)):=by
 have hI:=SN d cs m h;obtain⟨fl,name,super,ifs,fields,methods,init⟩:=d;obtain⟨x,⟨rfl,rfl,rfl,rfl⟩,⟨dM,hic,fk,hfc,hml,hmc,fT,hsc⟩,ax,r1,r2,xs,ys,r3,s3,r4,s4⟩:=h;simp only at dM fk hml fT r1 r2 s3 s4;have hM:=fun m' (hle:an m m')=>QT 137 (fun d=> !jF d) methods x.ma x.ml x.mc xs m' hml (aD hle r3) (ra (fun _ _=>qH hle) s3) (by rw[hml];exact ax.ml) (by kernel_rfl) fun d _ cs m2 aY bh=>Uf d cs m2 (hg.upM (aa hle aY)) bh
 have hF:=fun m' (hle:an m m')=>ctF 135 (fun d=> !n8 d) fields x.fa x.fn x.fc m' fk (aD hle r2) (by rw[fk];exact ax.fn) (by kernel_rfl) fun d hd m2 aY=>Uh d m2 (ax.fs d hd)
 have hS:=fun m' (hle:an m m')=>ctS 133 (fun d=> !dT d) ifs x.ia x.il x.ic m' dM (aD hle r1) (by rw[dM];exact ax.il) (by kernel_rfl) fun d hd m2 aY=>Ud d m2 (cR (ax.ifs d hd) (by decide))
 have hB:=fun m' (hle:an m m')=>LA false init x.sa x.sl x.sc ys m' (hg.upM hle) fT (aD hle r4) (dv hle s4) (by rw[fT];exact ax.l)
 have h1:BL x.name:=cR ax.name (by decide);have h2:BL x.super:=cR ax.super (by decide);clear s3 s4;refine enter xY vO Tryz.func54 rfl rfl (by kernel_rfl) rfl ?_ ?_
 ·simp only[go_sem,Cc.cs]
 ·simp only[go_sem,Cc.cs];have e0:sA ⟨x.fl,x.name,x.super,ifs,fields,methods,init⟩=true->od ⟨x.fl,x.name,x.super,ifs,fields,methods,init⟩=(mX ⟨x.fl,x.name,x.super,ifs,fields,methods,init⟩&& !(ifs.any fun s=> !dT s)&&pn ⟨x.fl,x.name,x.super,ifs,fields,methods,init⟩&& !(fields.any fun f=> !n8 f)&& !(methods.any fun f=> !jF f)&&fD false init):=fun h=>by rw[od,h];rfl
  refine⟨fun b=>ab ((aX hI (fun V=>rfl)).mono ?_),fun b=>⟨fun c=> ?_,fun c=> ?_⟩⟩
  ·clear hI;rintro r H' m1 aN ⟨l1,rfl,rfl⟩;simp only[go_sem,Cc.cs];have g:hasB x.fl 512=true:=by rw[hasB,bo b];rfl
   refine⟨fun c=> ?_,fun c=> ?_⟩
   ·refine⟨l1,?_⟩;rw[od,sA,aj g,c];rfl
   ·have hH:sA ⟨x.fl,x.name,x.super,ifs,fields,methods,init⟩=true:=by rw[sA,aj g,c]
    refine⟨h1,fun _=>h2,fun c=>ab ((hS m1 l1).mono ?_),fun c=> ?_⟩
    ·clear hS;rintro r H' n1 Fb ⟨k1,rfl,rfl⟩;simp only[go_sem,Cc.cs];have hN:mX ⟨x.fl,x.name,x.super,ifs,fields,methods,init⟩=true:=by clear hF hM hB;simp only[mX,c.1.1,c.1.2,bX (by omega:ifs.length<=8)];rfl
     refine⟨fun d=>ab ((hF n1 (aa l1 k1)).mono ?_),fun d=> ?_⟩
     ·clear hF;rintro r H' n2 xM ⟨k2,rfl,rfl⟩;simp only[go_sem,Cc.cs];have hL:pn ⟨x.fl,x.name,x.super,ifs,fields,methods,init⟩=true:=by clear hM hB;simp only[pn,bX (by omega:fields.length<=64),bX (by omega:methods.length<=64)];rfl
      refine⟨fun e=>ab ((hM n2 (aa (aa l1 k1) k2)).mono ?_),fun e=> ?_⟩
      ·clear hM;rintro r H' n3 zN ⟨k3,rfl,rfl⟩;simp only[go_sem,Cc.cs];refine⟨fun f=>ab ((hB n3 (aa (aa (aa l1 k1) k2) k3)).mono ?_),fun f=> ?_⟩
       ·clear hB;rintro r H' n4 Qt ⟨k4,rfl,rfl⟩;simp only[go_sem,Cc.cs];refine⟨aa (aa (aa (aa l1 k1) k2) k3) k4,?_⟩;rw[e0 hH,hN,d.1.1,hL,e,f];rfl
       ·refine⟨aa (aa (aa l1 k1) k2) k3,?_⟩;rw[e0 hH,f];simp
      ·refine⟨aa (aa l1 k1) k2,?_⟩;rw[e0 hH,e];simp
     ·refine⟨aa l1 k1,?_⟩;clear hF hM hB;rw[e0 hH];rcases d with (d |d) |d
      ·rw[d];simp
      ·simp only[pn,bo (by omega:¬fields.length<=64),Bool.false_and,Bool.and_false]
      ·simp only[pn,bo (by omega:¬methods.length<=64),Bool.false_and,Bool.and_false]
    ·clear hS hF hM hB;refine⟨l1,?_⟩;rw[e0 hH];rcases c with (c |c) |c
     ·simp only[mX,c,Bool.false_and]
     ·simp only[mX,c,Bool.false_and,Bool.and_false]
     ·simp only[mX,bo (by omega:¬ifs.length<=8),Bool.false_and,Bool.and_false]
  ·clear hI hM hF hS hB;have g:¬hasB x.fl 512=true:=by rw[hasB,bX b];decide
   have:sA ⟨x.fl,x.name,x.super,ifs,fields,methods,init⟩=false:=by
    rw[sA,ae g];rcases c with c |c
    ·simp [c]
    ·simp [hasB,c]
   rw[od,this];rfl
  ·clear hI;have g:¬hasB x.fl 512=true:=by rw[hasB,bX b];decide
   have hH:sA ⟨x.fl,x.name,x.super,ifs,fields,methods,init⟩=true:=by
    clear hM hF hS hB;rw[sA,ae g];rcases c with ⟨c1,c |c⟩<;>simp [hasB,c1,c]
   clear c;refine⟨h1,fun _=>h2,fun c=>ab ((hS m (.inl rfl:an m m)).mono ?_),fun c=> ?_⟩
   ·clear hS;rintro r H' n1 Fb ⟨k1,rfl,rfl⟩;simp only[go_sem,Cc.cs];have hN:mX ⟨x.fl,x.name,x.super,ifs,fields,methods,init⟩=true:=by clear hF hM hB;simp only[mX,c.1.1,c.1.2,bX (by omega:ifs.length<=8)];rfl
    refine⟨fun d=>ab ((hF n1 (aa (.inl rfl:an m m) k1)).mono ?_),fun d=> ?_⟩
    ·clear hF;rintro r H' n2 xM ⟨k2,rfl,rfl⟩;simp only[go_sem,Cc.cs];have hL:pn ⟨x.fl,x.name,x.super,ifs,fields,methods,init⟩=true:=by clear hM hB;simp only[pn,bX (by omega:fields.length<=64),bX (by omega:methods.length<=64)];rfl
     refine⟨fun e=>ab ((hM n2 (aa (aa (.inl rfl:an m m) k1) k2)).mono ?_),fun e=> ?_⟩
     ·clear hM;rintro r H' n3 zN ⟨k3,rfl,rfl⟩;simp only[go_sem,Cc.cs];refine⟨fun f=>ab ((hB n3 (aa (aa (aa (.inl rfl:an m m) k1) k2) k3)).mono ?_),fun f=> ?_⟩
      ·clear hB;rintro r H' n4 Qt ⟨k4,rfl,rfl⟩;simp only[go_sem,Cc.cs];refine⟨aa (aa (aa (aa (.inl rfl:an m m) k1) k2) k3) k4,?_⟩;rw[e0 hH,hN,d.1.1,hL,e,f];rfl
      ·refine⟨aa (aa (aa (.inl rfl:an m m) k1) k2) k3,?_⟩;rw[e0 hH,f];simp
     ·refine⟨aa (aa (.inl rfl:an m m) k1) k2,?_⟩;rw[e0 hH,e];simp
    ·refine⟨aa (.inl rfl:an m m) k1,?_⟩;clear hF hM hB;rw[e0 hH];rcases d with (d |d) |d
     ·rw[d];simp
     ·simp only[pn,bo (by omega:¬fields.length<=64),Bool.false_and,Bool.and_false]
     ·simp only[pn,bo (by omega:¬methods.length<=64),Bool.false_and,Bool.and_false]
   ·clear hS hF hM hB;rw[e0 hH];rcases c with (c |c) |c
    ·simp only[mX,c,Bool.false_and]
    ·simp only[mX,c,Bool.false_and,Bool.and_false]
    ·simp only[mX,bo (by omega:¬ifs.length<=8),Bool.false_and,Bool.and_false]
def wY:Ex->Nat | .mk _ _ _ _ _ args=>ki args
mutual
def pj:St->Nat
 | .mk k _ _ tg ex body alt=>max (max (dP body) (dP alt)) (max (bL tg) (if k=11 then wY ex else bL ex))
def dP:List St->Nat
 |[]=>0
 |e::r=>max (pj e) (dP r)
end
theorem zW:∀{l:List St} {k:Nat} (hk:k<l.length),df (l.take (k+1))=max (df (l.take k)) (fh l[k])
 |[],_,hk=>absurd hk (Nat.not_lt_zero _)
 |e::r,0,_=>by simp [df]
 |e::r,k+1,hk=>by
  have:=zW (l:=r) (k:=k) (by simpa using hk);simp only[List.take_succ_cons,df,this,List.getElem_cons_succ,Nat.max_assoc]
theorem J9:∀{l:List St} {k:Nat} (hk:k<l.length),dP (l.take (k+1))=max (dP (l.take k)) (pj l[k])
 |[],_,hk=>absurd hk (Nat.not_lt_zero _)
 |e::r,0,_=>by simp [dP]
 |e::r,k+1,hk=>by
  have:=J9 (l:=r) (k:=k) (by simpa using hk);simp only[List.take_succ_cons,dP,this,List.getElem_cons_succ,Nat.max_assoc]
theorem CW:∀(l:List St) (k:Nat),df (l.take k)<=df l
 |[],k=>by simp
 |e::r,0=>by simp [df]
 |e::r,k+1=>by
  have:=CW r k;simp only[List.take_succ_cons,df];omega
theorem Gv:∀(l:List St) (k:Nat),dP (l.take k)<=dP l
 |[],k=>by simp
 |e::r,0=>by simp [dP]
 |e::r,k+1=>by
  have:=Gv r k;simp only[List.take_succ_cons,dP];omega
theorem KE:∀{l:List St} {e:St},e∈l->pj e<=dP l
 |[],e,he=>by cases he
 |x::r,e,he=>by
  simp only[dP];rcases List.mem_cons.1 he with rfl |he
  ·omega
  ·have:=KE he;omega
def BG (args:List SV) (m:Mem) (v1 v2:Nat):Prop:=FnH Tryz.prog 143 args ⟨[],[]⟩ m fun r H' m' =>an m m' /\H' =⟨[],[]⟩/\r= .tup [.v (.int .i64 v1),.v (.int .i64 v2)]
structure DepN where
 b1:Nat
 b2:Nat
 a1:Nat
 a2:Nat
 t:Nat
 x:Nat
 dl:Nat->Nat
structure DepIt (X:Sd) (N:DepN) (mm:Mem):Prop where
 body:∀m',an mm m' ->BG [.v (.slice X.a X.l X.cp)] m' N.b1 N.b2
 alt:∀m',an mm m' ->BG [.v (.slice X.b X.l2 X.cp2)] m' N.a1 N.a2
 tg:∀m',an mm m' ->aB 34 [.v (.agg ⟨X.tg.cs⟩)] m' (.int .i64 N.t)
 ex:¬X.k=11->∀m',an mm m' ->aB 34 [.v (.agg ⟨X.ex.cs⟩)] m' (.int .i64 N.x)
 arg:X.k=11->∀m',an mm m' ->∀j,j<X.ex.l->∃(Y:Nd) (d:Nat),(Rd m' (ct X.ex.a (j * 8)) Y.cs/\X.ex.a≠none)/\aB 34 [.v (.agg ⟨Y.cs⟩)] m' (.int .i64 d)/\N.dl (j+1)=max (N.dl j) d
 dl0:N.dl 0=0
 ln:X.ex.l<=aA
theorem Zm {h:Nat} (ih:∀h',h' <h->∀(l:List St) (a:Option Addr) (n c:Nat) (xs:List Value) (m:Mem),df l<=h' ->h' <=aA->dP l<=aA->n=l.length->n<=aA->aK m a n 23 xs->bF m l xs->BG [.v (.slice a n c)] m (df l) (dP l))
  {e:St} {cs:List Value} {mm:Mem} (hd:fh e<=h) (hb:h<=aA) (hx:pj e<=aA) (bh:fu mm e cs):
  ∃(X:Sd) (N:DepN),cs=X.cs/\DepIt X N mm/\fh e=max N.b1 N.a1+1/\pj e=max (max N.b2 N.a2) (max N.t (if X.k=11 then N.dl X.ex.l else N.x)):=by
 cases e with
 |mk k nm ty tg ex body alt=>
  obtain⟨X,rfl,rfl,rfl,rfl,dk,hex,hl,bl,bP,dW,ax,xs,ys,r1,r2,s1,s2⟩:=tq bh;simp only[fh] at hd;simp only[pj] at hx;cases ex with
  |mk xk xn xss xc xty args=>
   obtain⟨y,hy,h1,h2,h3,h4,h5,h6,h7,h8,zs,r3,s3⟩:=tu hex;have hy:=DX hy;subst hy;refine⟨X,⟨df body,dP body,df alt,dP alt,bL tg,bL (.mk xk xn xss xc xty args),fun j=>ki (args.take j)⟩,rfl,⟨fun m' hle=> ?_,fun m' hle=> ?_,fun m' hle=> ?_,fun hk m' hle=> ?_,fun hk m' hle j hj=> ?_,by simp [ki],h8⟩,by simp only[fh],?_⟩
   ·exact ih (df body) (by omega) body X.a X.l X.cp xs m' (aq _) (by omega) (by omega) hl (by rw[hl];exact ax.l) (aD hle r1) (dv hle s1)
   ·exact ih (df alt) (by omega) alt X.b X.l2 X.cp2 ys m' (aq _) (by omega) (by omega) bP (by rw[bP];exact ax.l2) (aD hle r2) (dv hle s2)
   ·exact An _ tg _ m' (aq _) (by omega) (aZ hle dk)
   ·rw[ae hk] at hx;exact An _ _ _ m' (aq _) (by omega) (aZ hle hex)
   ·rw[aj hk] at hx;simp only[wY] at hx;have Jb:j<args.length:=by omega
    have HO:=aZ hle (tJ s3 Jb);obtain⟨Y,hY⟩:=qI HO;have cu:=dG (aD hle r3) hj;rw[hY] at cu HO;exact⟨Y,bL args[j],cu,An _ _ _ m' (aq _) (by have:=yx Jb;omega) HO,CV Jb⟩
   ·simp only[pj,wY];rw[gm (by omega:args.length<=X.ex.l)]
theorem KG:∀(h:Nat) (l:List St) (a:Option Addr) (n c:Nat) (xs:List Value) (m:Mem),df l<=h->h<=aA->dP l<=aA->n=l.length->n<=aA->aK m a n 23 xs->bF m l xs->BG [.v (.slice a n c)] m (df l) (dP l):=by
 intro h;induction h using Nat.strongRecOn with
 |ind h ih=>
  intro l a n c xs m hd hb hx hl hn hr hs;refine aL ay Tryz.func143 ?_
  ·simp only[go_sem];refine cO ay (fun x:Nat×Int×Int×Mem=>⟨[⟨4,[],.v (.int .i64 x.2.1)⟩,⟨5,[],.v (.int .i64 x.2.2.1)⟩,⟨14,[],.v (.slice a n c)⟩,⟨15,[],.v (.int .i64 n)⟩,⟨16,[],.v (.int .i64 x.1)⟩],[],[],[],0,x.2.2.2⟩)
    (fun x=>an m x.2.2.2/\x.1<=n/\x.2.1=df (l.take x.1)/\x.2.2.1=dP (l.take x.1)) (fun x=>n - x.1) (0,0,0,m) (fun _ _=>aq _) (fun x hx=>hx.1) ?_ ?_ ?_
   ·simp only[go_sem];rfl
   ·exact⟨.inl rfl,au _,by simp [df],by simp [dP]⟩
   ·rintro⟨k,s,e,mm⟩ ⟨h1,h2,h3,h4⟩;simp only at h1 h2 h3 h4;have hy:∀(hk:k<l.length),∃(X:Sd) (N:DepN),(Rd mm (ct a (k * 23)) X.cs/\a≠none)/\DepIt X N mm/\fh l[k]=max N.b1 N.a1+1/\pj l[k]=max (max N.b2 N.a2) (max N.t (if X.k=11 then N.dl X.ex.l else N.x)):=fun hk=>by
     have bh:=tj h1 (qQ hs hk);have q1:=oM (List.getElem_mem hk);have q2:=KE (List.getElem_mem hk);obtain⟨X,N,hX,hD,e1,e2⟩:=Zm ih (by omega) hb (by omega) bh;have cu:=dG (aD h1 hr) (by omega:k<n);rw[hX] at cu;exact⟨X,N,cu,hD,e1,e2⟩
    have hq1:=CW l k;have hq2:=Gv l k;have xK:∀(hk:k<l.length),df (l.take (k+1))=max (df (l.take k)) (fh l[k])/\df (l.take (k+1))<=df l:=fun hk=>⟨zW hk,CW l _⟩
    have xJ:∀(hk:k<l.length),dP (l.take (k+1))=max (dP (l.take k)) (pj l[k])/\dP (l.take (k+1))<=dP l:=fun hk=>⟨J9 hk,Gv l _⟩
    clear ih;simp only[go_sem];refine⟨fun ao=> ?_,fun cQ=> ?_⟩
    ·have hk:k<l.length:=by clear hy;omega
     have g3:=xK hk;have g4:=xJ hk;refine Exists.elim (hy hk) fun X bb=>Exists.elim bb fun N jc=>⟨⟨by clear hy bb jc;omega,ao,jc.1.2⟩,X.cs,⟨jc.1.1,rfl⟩,?_⟩
     clear hy bb;have hD:=jc.2.1;have e1:=jc.2.2.1;have e2:=jc.2.2.2;rw[e1] at g3;rw[e2] at g4;clear jc e1 e2;simp only[go_sem,Sd.cs,Nd.cs];refine ab ((hD.body mm (.inl rfl)).mono ?_);rintro r H' n1 Fb ⟨k1,rfl,rfl⟩;simp only[go_sem,Sd.cs,Nd.cs];refine ab ((hD.alt n1 k1).mono ?_);rintro r H' n2 xM ⟨k2,rfl,rfl⟩;have Qd:=aa k1 k2;simp only[go_sem,Sd.cs,Nd.cs];refine⟨by clear hD;unfold az;simp only[aA] at hb;split<;>omega,by kernel_rfl,dh ((aX (hD.tg n2 Qd) (fun V=>rfl)).mono ?_)⟩;rintro r H' n3 zN ⟨k3,rfl,rfl⟩;have E3:=aa Qd k3;simp only[go_sem,Sd.cs,Nd.cs];have hS:(if s<1+(if(N.b1:Int)<N.a1 then(N.a1:Int) else N.b1) then 1+(if(N.b1:Int)<N.a1 then(N.a1:Int) else N.b1) else s)=((df (l.take (k+1)):Nat):Int):=by
      clear hD xK xJ;rw[g3.1,h3];split<;>split<;>omega
     have ew:mx (mx (mx e N.b2) N.a2) N.t=((max (max (max (dP (l.take k)) N.b2) N.a2) N.t:Nat):Int):=by
      clear hD xK xJ hS;simp only[mx,h4]
      (repeat' split)<;>omega
     refine Exists.elim (Exists.intro (max (max (max (dP (l.take k)) N.b2) N.a2) N.t) rfl:∃B0:Nat,max (max (max (dP (l.take k)) N.b2) N.a2) N.t=B0) fun B0 hB=> ?_
     rw[hB] at ew;refine⟨fun BA=> ?_,fun BA=> ?_⟩
     ·refine ab ((aX (hD.ex BA n3 E3) (fun V=>rfl)).mono ?_);clear hD;rintro r H' n4 Qt ⟨k4,rfl,rfl⟩;simp only[go_sem,Sd.cs,Nd.cs];rw[ae BA] at g4;refine⟨by unfold az;simp only[aA] at hn;omega,(k+1,((df (l.take (k+1)):Nat):Int),((dP (l.take (k+1)):Nat):Int),n4),⟨⟨hS,?_,by simp⟩,.inl rfl⟩,⟨aa h1 (aa E3 k4),by simp only;omega,rfl,rfl⟩,by simp only;omega⟩;simp only;rw[ew,g4.1];clear hS ew xK xJ g3 h3 h4;split<;>omega
     ·rw[aj BA] at g4;refine cO ay (fun x' :Nat×Int×Mem=>⟨[⟨4,[],.v (.int .i64 (df (l.take (k+1)):Nat))⟩,⟨5,[],.v (.int .i64 x'.2.1)⟩,⟨14,[],.v (.slice a n c)⟩,⟨15,[],.v (.int .i64 n)⟩,⟨16,[],.v (.int .i64 k)⟩,⟨55,[],.v (.slice X.ex.a X.ex.l X.ex.cp)⟩,⟨56,[],.v (.int .i64 X.ex.l)⟩,⟨57,[],.v (.int .i64 x'.1)⟩],[],[],[],1,x'.2.2⟩)
       (fun x' =>an n3 x'.2.2/\x'.1<=X.ex.l/\x'.2.1=((max B0 (N.dl x'.1):Nat):Int)) (fun x' =>X.ex.l - x'.1) (0,(B0:Int),n3) (fun _ _=>aq _) (fun x hx=>hx.1) ?_ ?_ ?_
      ·simp only[go_sem];exact⟨hS,ew,rfl⟩
      ·exact⟨.inl rfl,au _,by rw[hD.dl0,Nat.max_zero]⟩
      ·rintro⟨j,e',mj⟩ ⟨q1,q2,q3⟩;simp only at q1 q2 q3;have hz:=hD.arg BA mj (aa E3 q1) j;have I6:=hD.ln;clear hD;simp only[go_sem];refine⟨fun Il=> ?_,fun agi=> ?_⟩
       ·refine Exists.elim (hz (by clear hz;omega)) fun Y sV=>Exists.elim sV fun dj uA=>⟨⟨by clear hz sV uA;omega,Il,uA.1.2⟩,Y.cs,⟨uA.1.1,rfl⟩,?_⟩
        clear hz sV;have QH:=uA.2.1;have hdj:=uA.2.2;clear uA;simp only[go_sem,Nd.cs];refine ab ((aX QH (fun V=>rfl)).mono ?_);clear QH;rintro r H' n5 hn5 ⟨k5,rfl,rfl⟩;simp only[go_sem];refine⟨by unfold az;simp only[aA] at I6;omega,(j+1,((max B0 (N.dl (j+1)):Nat):Int),n5),⟨⟨?_,by simp⟩,.inl rfl⟩,⟨aa q1 k5,by simp only;omega,by simp only[Nat.max_def]⟩,by simp only;omega⟩;simp only;rw[hdj,q3];clear hS ew xK xJ g3 g4 h3 h4 hB
        (repeat' split)<;>omega
       ·clear hz;have hj:j=X.ex.l:=by omega
        refine⟨by unfold az;simp only[aA] at hn;omega,(k+1,((df (l.take (k+1)):Nat):Int),((dP (l.take (k+1)):Nat):Int),mj),⟨⟨rfl,?_,by simp⟩,.inl rfl⟩,⟨aa h1 (aa E3 q1),by simp only;omega,rfl,rfl⟩,by simp only;omega⟩;simp only;rw[q3,g4.1,hj];clear hS ew xK xJ g3 h3 h4
        (repeat' split)<;>omega
    ·clear hy xK xJ;have:l.take k=l:=gm (by omega);rw[this] at h3 h4;rw[h3,h4];exact⟨h1,rfl⟩
def j0:List Md->Nat
 |[]=>0
 |e::r=>max (df e.body) (j0 r)
def j1:List Md->Nat
 |[]=>0
 |e::r=>max (dP e.body) (j1 r)
def tP (d:Cd):Bool:=decide (24<max (df d.init) (j0 d.methods))||decide (24<max (dP d.init) (j1 d.methods))
structure CdB (d:Cd):Prop where
 s:df d.init<=aA
 e:dP d.init<=aA
 ms:j0 d.methods<=aA
 me:j1 d.methods<=aA
theorem Ld:∀{l:List Md} {k:Nat} (hk:k<l.length),j0 (l.take (k+1))=max (j0 (l.take k)) (df l[k].body)
 |[],_,hk=>absurd hk (Nat.not_lt_zero _)
 |e::r,0,_=>by simp [j0]
 |e::r,k+1,hk=>by
  have:=Ld (l:=r) (k:=k) (by simpa using hk);simp only[List.take_succ_cons,j0,this,List.getElem_cons_succ,Nat.max_assoc]
theorem Le:∀{l:List Md} {k:Nat} (hk:k<l.length),j1 (l.take (k+1))=max (j1 (l.take k)) (dP l[k].body)
 |[],_,hk=>absurd hk (Nat.not_lt_zero _)
 |e::r,0,_=>by simp [j1]
 |e::r,k+1,hk=>by
  have:=Le (l:=r) (k:=k) (by simpa using hk);simp only[List.take_succ_cons,j1,this,List.getElem_cons_succ,Nat.max_assoc]
theorem Mr:∀{l:List Md} {e:Md},e∈l->df e.body<=j0 l
 |[],e,he=>by cases he
 |x::r,e,he=>by
  simp only[j0];rcases List.mem_cons.1 he with rfl |he
  ·omega
  ·have:=Mr he;omega
theorem Ms:∀{l:List Md} {e:Md},e∈l->dP e.body<=j1 l
 |[],e,he=>by cases he
 |x::r,e,he=>by
  simp only[j1];rcases List.mem_cons.1 he with rfl |he
  ·omega
  ·have:=Ms he;omega
theorem T4 (d:Cd) (cs:List Value) (m:Mem) (hB:CdB d) (h:jW m d cs):aB 55 [.v (.agg ⟨cs⟩)] m (.bool (tP d)):=by
 obtain⟨fl,name,super,ifs,fields,methods,init⟩:=d;obtain⟨x,⟨rfl,rfl,rfl,rfl⟩,⟨dM,hic,fk,hfc,hml,hmc,fT,hsc⟩,ax,r1,r2,xs,ys,r3,s3,r4,s4⟩:=h;simp only at dM fk hml fT r1 r2 s3 s4;obtain⟨b1,b2,b3,b4⟩:=hB;simp only at b1 b2 b3 b4;have hI:=KG (df init) init x.sa x.sl x.sc ys m (aq _) b1 b2 fT (by rw[fT];exact ax.l) r4 s4;have I5:x.ml<=aA:=by rw[hml];exact ax.ml
 refine enter gA ay Tryz.func55 rfl rfl (by kernel_rfl) rfl ?_ ?_
 ·simp only[go_sem,Cc.cs]
 ·simp only[go_sem,Cc.cs];refine ab (hI.mono ?_);clear hI;rintro r H' m1 aN ⟨l1,rfl,rfl⟩;simp only[go_sem,Cc.cs];refine cO ay (fun x' :Nat×Int×Int×Mem=>⟨[⟨3,[],.v (.int .i64 x'.2.1)⟩,⟨4,[],.v (.int .i64 x'.2.2.1)⟩,⟨16,[],.v (.slice x.ma x.ml x.mc)⟩,⟨17,[],.v (.int .i64 x.ml)⟩,⟨18,[],.v (.int .i64 x'.1)⟩],[],[],[],1,x'.2.2.2⟩)
   (fun x' =>an m1 x'.2.2.2/\x'.1<=x.ml/\x'.2.1=max (df init) (j0 (methods.take x'.1))/\x'.2.2.1=max (dP init) (j1 (methods.take x'.1))) (fun x' =>x.ml - x'.1) (0,df init,dP init,m1) (fun _ _=>aq _) (fun x hx=>hx.1) ?_ ?_ ?_
  ·simp only[go_sem];rfl
  ·exact⟨.inl rfl,au _,by simp [j0],by simp [j1]⟩
  ·rintro⟨k,s,e,mm⟩ ⟨h1,h2,h3,h4⟩;simp only at h1 h2 h3 h4;have hy:∀(hk:k<methods.length),∃(X:Mc) (v1 v2:Nat),(Rd mm (ct x.ma (k * 8)) X.cs/\x.ma≠none)/\BG [.v (.slice X.a X.l X.cp)] mm v1 v2/\(j0 (methods.take (k+1))=max (j0 (methods.take k)) v1/\j1 (methods.take (k+1))=max (j1 (methods.take k)) v2)/\v1<=aA/\v2<=aA:=fun hk=>by
    have bh:=qH (aa l1 h1) (pf s3 hk);have q1:=Mr (List.getElem_mem hk);have q2:=Ms (List.getElem_mem hk);have cu:=dG (aD (aa l1 h1) r3) (by omega:k<x.ml);have t1:=Ld hk;have t2:=Le hk;obtain⟨X,⟨e1,_⟩,⟨e2,e3,e4,e5⟩,b8,_,zs,r5,s5⟩:=Vw bh;rw[e1] at cu;exact⟨X,_,_,cu,KG _ _ X.a X.l X.cp zs mm (aq _) (by omega) (by omega) e4 (by rw[e4];exact b8.l) r5 s5,⟨t1,t2⟩,by omega,by omega⟩
   simp only[go_sem];refine⟨fun ao=> ?_,fun cQ=> ?_⟩
   ·have hk:k<methods.length:=by clear hy;omega
    refine Exists.elim (hy hk) fun X dY=>Exists.elim dY fun v1 fj=>Exists.elim fj fun v2 vV=>⟨⟨by clear hy dY fj vV;omega,ao,vV.1.2⟩,X.cs,⟨vV.1.1,rfl⟩,?_⟩
    clear hy dY fj;have hD:=vV.2.1;have e1:=vV.2.2.1.1;have e2:=vV.2.2.1.2;clear vV;simp only[go_sem,Mc.cs];refine ab (hD.mono ?_);clear hD;rintro r H' m2 aH ⟨l2,rfl,rfl⟩;simp only[go_sem];refine⟨by unfold az;simp only[aA] at I5;omega,(k+1,((max (df init) (j0 (methods.take (k+1))):Nat):Int),((max (dP init) (j1 (methods.take (k+1))):Nat):Int),m2),⟨⟨?_,?_,by simp⟩,.inl rfl⟩,⟨aa h1 l2,by simp only;omega,by simp only[Nat.max_def],by simp only[Nat.max_def]⟩,by simp only;omega⟩
    ·simp only;rw[e1,h3];clear h3 h4 e1 e2
     (repeat' split)<;>omega
    ·simp only;rw[e2,h4];clear h3 h4 e1 e2
     (repeat' split)<;>omega
   ·clear hy;have:methods.take k=methods:=gm (by omega);rw[this] at h3 h4;have e0:tP ⟨x.fl,x.name,x.super,ifs,fields,methods,init⟩=(decide (24<max (df init) (j0 methods))||decide (24<max (dP init) (j1 methods))):=rfl;refine⟨aa l1 h1,?_⟩;rw[e0];congr 1
    ·rw[decide_eq_decide];omega
    ·rw[decide_eq_decide];omega
def je {α:Type} [BEq α]:List α->List α->Bool
 |_,[]=>false
 |seen,a::r=>seen.contains a||je (seen++[a]) r
def nq (d:Cd):Bool:=je [] d.ifs||je [] (d.fields.map (·.name))||je [] (d.methods.map fun m=>(m.name,m.params.length))
def uj (l:List (List UInt8)):List Value:=(l.map fun s=>[.string (bs s),.bool true]).flatten
theorem Aa:∀(l:List Value),mf (l.map .v)=some l
 |[]=>rfl
 |x::r=>by simp [mf,plain,Aa r]
theorem DJ {n:Nat} {vc:List Vc}:∀(l:List Value),fy n vc (l.map .v)=True
 |[]=>rfl
 |x::r=>by simp [fy,ll,DJ r]
theorem N0 {a b:List UInt8}:(Value.string (bs a)=Value.string (bs b))=(a=b):=propext ⟨fun h=>yQ (Value.string.inj h),fun h=>by rw[h]⟩
theorem CT (s:List UInt8):∀(l:List (List UInt8)),BY (lG (uj l) (.string (bs s)))=l.contains s
 |[]=>rfl
 |a::r=>by
  have e:uj (a::r)= .string (bs a):: .bool true::uj r:=rfl;rw[e,lG,N0,List.contains_cons];by_cases h:a=s
  ·rw[aj h];subst h;simp [BY]
  ·rw[ae h,CT s r,(beq_eq_false_iff_ne.2 fun e=>h e.symm:(s==a)=false),Bool.false_or]
theorem GP (s:List UInt8):∀(l:List (List UInt8)),l.contains s=false->vz (uj l) (.string (bs s)) (.bool true)=uj (l++[s])
 |[],_=>rfl
 |a::r,h=>by
  have e:uj (a::r)= .string (bs a):: .bool true::uj r:=rfl;rw[List.contains_cons,Bool.or_eq_false_iff] at h;have hn:¬a=s:=fun e=>(beq_eq_false_iff_ne.1 h.1) e.symm
  rw[e,vz,N0,ae hn,GP s r h.2];rfl
abbrev vK:=List UInt8×Nat
def sI (k:vK):Value:= .agg ⟨[.string (bs k.1),.int .i64 k.2]⟩
theorem YN (k:vK):gr 1000001 (sI k)=True:=Oh _ _
def vF (l:List vK):List Value:=(l.map fun k=>[sI k,.bool true]).flatten
theorem Nu {a b:vK}:(sI a=sI b)=(a=b):=propext ⟨fun h=>by
 obtain⟨a1,a2⟩:=a;obtain⟨b1,b2⟩:=b;simp only[sI,Value.agg.injEq,Array.mk.injEq,List.cons.injEq,Value.string.injEq,Value.int.injEq,true_and,and_true] at h
 rw[yQ h.1,show a2=b2 by omega],fun h=>by rw[h]⟩
theorem KC (k:vK):∀(l:List vK),BY (lG (vF l) (sI k))=l.contains k
 |[]=>rfl
 |a::r=>by
  have e:vF (a::r)=sI a:: .bool true::vF r:=rfl;rw[e,lG,Nu,List.contains_cons];by_cases h:a=k
  ·rw[aj h];subst h;simp [BY]
  ·rw[ae h,KC k r,(beq_eq_false_iff_ne.2 fun e=>h e.symm:(k==a)=false),Bool.false_or]
theorem KZ (k:vK):∀(l:List vK),l.contains k=false->vz (vF l) (sI k) (.bool true)=vF (l++[k])
 |[],_=>rfl
 |a::r,h=>by
  have e:vF (a::r)=sI a:: .bool true::vF r:=rfl;rw[List.contains_cons,Bool.or_eq_false_iff] at h;have hn:¬a=k:=fun e=>(beq_eq_false_iff_ne.1 h.1) e.symm
  rw[e,vz,Nu,ae hn,KZ k r h.2];rfl
theorem Wp {m:Mem} {a:Option Addr} {n k c:Nat} {l:List (List UInt8)} (h:aK m a n 1 (strs l)) (hk:k<=n):aK m (if c=0 then a else a.map (·.add (0 * 1))) (k - 0) 1 (strs (l.take k)):=by
 have hl:=h.1;simp only[strs,List.length_map,Nat.mul_one] at hl;refine⟨by simp [strs];omega,fun h0=> ?_⟩;obtain⟨ad,rfl,hs,jM⟩:=h.2 (by omega);have e:(if c=0 then some ad else(some ad).map (·.add (0 * 1)))=some ad:=by
  by_cases hc:c=0
  ·rw[aj hc]
  ·rw[ae hc];rfl
 refine⟨ad,e,hs,fun j hj=> ?_⟩;obtain⟨h1,h2⟩:=jM j (by omega);refine⟨?_,h2⟩;rw[h1];simp only[strs,List.getElem?_map,List.getElem?_take];rw[aj (by omega)]
theorem yE {α:Type} [BEq α] {l:List α} {k:Nat} (hk:k<l.length):je (l.take k) (l.drop k)=((l.take k).contains l[k]||je (l.take (k+1)) (l.drop (k+1))):=by
 rw[List.drop_eq_getElem_cons hk,je,List.take_succ_eq_append_getElem hk]
/-! The types of the maps. -/
theorem HE:jb Tryz.prog 90=(1000000,none):=by kernel_rfl
theorem AU:jb Tryz.prog 151=(1000001,none):=by kernel_rfl
theorem Xc:vt Tryz.prog 90:=
 TS (k:=9) (e:=4) (by kernel_rfl) (by kernel_rfl) (by rw[HE];decide) fun w=>by
  rw[HE];exact KL (i:=(Tryz.prog.info? 4).getD default) (by kernel_rfl) (by kernel_rfl) w
theorem Hy:ft Tryz.prog 153=some [.v (.string (bs [])),.v (.int .i64 0)]:=by kernel_rfl
theorem aaT:eo Tryz.prog 153=some (some 2):=by kernel_rfl
theorem abn:bC Tryz.prog 153=2:=by kernel_rfl
theorem Xk:cM Tryz.prog 153 0=some (0,none,1):=by kernel_rfl
theorem Xj:cM Tryz.prog 153 1=some (1,none,1):=by kernel_rfl
theorem aaH:nd Tryz.prog 153=true:=by kernel_rfl
theorem Zk:uo Tryz.prog 153:=NJ Hy (by kernel_rfl) (by kernel_rfl) (by kernel_rfl) rfl (by kernel_rfl)
attribute [go_sem] HE AU Hy aaT abn Xk Xj aaH
theorem Yq {a b:ByteArray}:tl a=tl b↔a=b:=⟨fun h=>by have:=congrArg bs h;rwa [lH,lH] at this,fun h=>by rw[h]⟩
theorem NI {s:ByteArray} {n:Int} (w:World):∀(es:List MapEntry) (i:Nat),(∀x∈es,∃a k,x.key= .agg ⟨[.string a,.int .i64 k]⟩)->
  (Instr.findAsking 153 (.agg ⟨[.string s,.int .i64 n]⟩) es i).run Tryz.prog w= .ok (vT es (.agg ⟨[.string s,.int .i64 n]⟩) i) w
 |[],_,_=>rfl
 |e::es,i,h=>by
  obtain⟨a,k,ha⟩:=h e (dz ..);have ih:=NI (s:=s) (n:=n) w es (i+1) fun x hx=>h x (cS _ hx)
  have he:=(Zk [.string s,.int .i64 n] [.string a,.int .i64 k] (decide (tl s=tl a)&&(decide (n=k)&&true)) w (.const undef) (.const undef) .eql rfl (by rw[Hy];rfl)).2;simp only[Instr.findAsking,Sem.run_bind,ha,vT];rw[show(Array.mk [Value.string s,Value.int .i64 n])=[Value.string s,Value.int .i64 n].toArray from rfl,show(Array.mk [Value.string a,Value.int .i64 k])=[Value.string a,Value.int .i64 k].toArray from rfl,he];simp only[Result.andThen_ok];by_cases hk:(Value.agg [Value.string a,Value.int .i64 k].toArray=Value.agg [Value.string s,Value.int .i64 n].toArray)
  ·rw[aj (ha.trans hk)];simp only[Value.agg.injEq,Array.mk.injEq,List.cons.injEq,Value.string.injEq,Value.int.injEq,true_and,and_true] at hk;obtain⟨rfl,rfl⟩:=hk;simp
  ·rw[ae fun e=>hk (ha.symm.trans e)];have:(decide (tl s=tl a)&&(decide (n=k)&&true))=false:=by
    simp only[Value.agg.injEq,Array.mk.injEq,List.cons.injEq,Value.string.injEq,Value.int.injEq,true_and,and_true] at hk;simp only[Bool.and_true,Bool.and_eq_false_iff,decide_eq_false_iff_not,Yq];by_cases h1:s=a
    ·exact .inr fun h2=>hk ⟨h1.symm,h2.symm⟩
    ·exact .inl h1
   rw[this];exact ih
theorem Xb:vt Tryz.prog 151:=by
 refine⟨by rw[AU];decide,153,4,by kernel_rfl,fun w key em n hk=> ?_,fun w key es hk fm=> ?_,fun w=> ?_⟩
 ·rw[AU] at hk;unfold gr at hk;rw[aj rfl] at hk;obtain⟨s,k,rfl⟩:=hk;have hu:Tryz.prog.underlying 153=some (.struct (Tryz.prog.fieldsOf 153)):=by kernel_rfl
  have Cj:Tryz.prog.fieldsOf 153= #[(Tryz.prog.fieldsOf 153).getD 0 default,(Tryz.prog.fieldsOf 153).getD 1 default]:=by kernel_rfl
  rw[Cj] at hu;have n0:((Tryz.prog.fieldsOf 153).getD 0 default).name= "name" :=by kernel_rfl
  have n1:((Tryz.prog.fieldsOf 153).getD 1 default).name= "params" :=by kernel_rfl
  have t0:((Tryz.prog.fieldsOf 153).getD 0 default).type=9:=by kernel_rfl
  have t1:((Tryz.prog.fieldsOf 153).getD 1 default).type=3:=by kernel_rfl
  have o0:((Tryz.prog.fieldsOf 153).getD 0 default).offset=0:=by kernel_rfl
  have o1:((Tryz.prog.fieldsOf 153).getD 1 default).offset=1:=by kernel_rfl
  have p0:=run_part_plain (P:=Tryz.prog) (w:=w) (e:=9) (by kernel_rfl) (xs:= #[.string s,.int .i64 k]) (off:=0) (v:= .string s) rfl;have p1:=run_part_plain (P:=Tryz.prog) (w:=w) (e:=3) (by kernel_rfl) (xs:= #[.string s,.int .i64 k]) (off:=1) (v:= .int .i64 k) rfl;have c0:=MapKept.run_checkKey (P:=Tryz.prog) (w:=w) (kt:=9) (d:= .string) (k:= .string s) (by kernel_rfl) (by simp [MapKept.IsKey]) em n;have c1:=MapKept.run_checkKey (P:=Tryz.prog) (w:=w) (kt:=3) (d:= .int .i64) (k:= .int .i64 k) (by kernel_rfl) (by simp [MapKept.IsKey]) em n;generalize (Tryz.prog.fieldsOf 153).getD 0 default=f0 at *
  generalize (Tryz.prog.fieldsOf 153).getD 1 default=f1 at *
  rw[Instr.checkKey];simp [run_underlying hu,Result.andThen,n0,n1,t0,t1,o0,o1,p0,p1,c0,c1]
 ·rw[AU] at hk fm;unfold gr at hk fm;simp only[if_true] at hk fm;obtain⟨s,k,rfl⟩:=hk;rw[run_findKey_eq w (by kernel_rfl)];exact NI w es 0 fm
 ·rw[AU];exact KL (i:=(Tryz.prog.info? 4).getD default) (by kernel_rfl) (by kernel_rfl) w
attribute [go_sem] Xc Xb
theorem VZ (d:Cd) (cs:List Value) (m:Mem) (h:jW m d cs):aB 56 [.v (.agg ⟨cs⟩)] m (.bool (nq d)):=by
 obtain⟨fl,name,super,ifs,fields,methods,init⟩:=d;obtain⟨x,⟨rfl,rfl,rfl,rfl⟩,⟨dM,hic,fk,hfc,hml,hmc,fT,hsc⟩,ax,r1,r2,xs,ys,r3,s3,r4,s4⟩:=h;simp only at dM fk hml fT r1 r2 r3 s3 r4 s4;have Qy:x.il<=aA:=by rw[dM];exact ax.il
 have hfb:x.fn<=aA:=by rw[fk];exact ax.fn
 have I5:x.ml<=aA:=by rw[hml];exact ax.ml
 clear r4 s4;refine enter gA ay Tryz.func56 rfl rfl (by kernel_rfl) rfl ?_ ?_
 ·simp only[go_sem,Cc.cs]
 ·simp only[go_sem,Cc.cs];refine fg ay (fun x' :Nat×Mem=>⟨[⟨1,[],.box 0 0⟩,⟨13,[],.v (.slice x.ia x.il x.ic)⟩,⟨14,[],.v (.int .i64 x.il)⟩,⟨15,[],.v (.int .i64 x'.1)⟩],[],[⟨0,59,x.cs.map .v⟩],[],1,x'.2⟩)
   (fun x' =>an m x'.2/\x'.1<=x.il/\je [] ifs=je (ifs.take x'.1) (ifs.drop x'.1)) (fun x' =>x.il - x'.1) (0,m) (by kernel_rfl) (fun _ _=>aq _) (fun x hx=>hx.1) (fun _=> ?_) ?_ ?_ ?_
  ·simp only[go_sem,Cc.cs]
  ·simp only[go_sem,Cc.cs];rfl
  ·exact⟨.inl rfl,au _,rfl⟩
  ·rintro⟨k,mm⟩ ⟨h1,h2,h3⟩;simp only at h1 h2 h3;have hy:∀(hk:k<ifs.length),(Rd mm (ct x.ia k) [.string (bs ifs[k])]/\x.ia≠none)/\FnH Tryz.prog 144 [.v (PY x.ia x.ic 0 k 1),.v (.string (bs ifs[k]))] ⟨[],[]⟩ mm fun r H' _=>r= .v (.bool ((ifs.take k).contains ifs[k]))/\H' =⟨[],[]⟩:=fun hk=>
    ⟨AB (aD h1 r1) hk,yf (ifs.take k) ifs[k] _ (k - 0) (x.ic - 0) mm (Wp (aD h1 r1) (by omega)) (by simp only[aA] at Qy;omega)⟩
   simp only[go_sem,Cc.cs];refine⟨fun ao=> ?_,fun cQ=> ?_⟩
   ·have hk:k<ifs.length:=by clear hy;omega
    have bb:=hy hk;clear hy;refine⟨⟨by clear bb;omega,ao,bb.1.2⟩,_,bb.1.1,?_⟩;simp only[go_sem,Cc.cs];have jh:=yE hk;refine⟨⟨Int.le_refl _,by clear bb;omega,by clear bb;omega⟩,by kernel_rfl,dh (bb.2.mono ?_)⟩;clear bb;rintro r H' m2 aH ⟨rfl,rfl⟩;simp only[go_sem,Cc.cs];refine⟨fun hc=>⟨aa h1 (.inr aH),?_⟩,fun hc=>⟨by unfold az;simp only[aA] at Qy;omega,(k+1,m2),⟨by simp,.inl rfl⟩,⟨aa h1 (.inr aH),by simp only;omega,?_⟩,by simp only;omega⟩⟩
    ·simp only[nq,h3,jh,hc,Bool.true_or]
    ·simp only;rw[h3,jh,hc,Bool.false_or]
   ·clear hy;have hI:je [] ifs=false:=by
     rw[h3,List.drop_of_length_le (by omega)];rfl
    refine fg ay (fun x' :Nat×Mem=>⟨[⟨1,[],.box 0 0⟩,⟨5,[],.mp 1⟩,⟨29,[],.v (.slice x.fa x.fn x.fc)⟩,⟨30,[],.v (.int .i64 x.fn)⟩,⟨31,[],.v (.int .i64 x'.1)⟩],[],[⟨1,1000000,(uj ((fields.map (·.name)).take x'.1)).map .v⟩,⟨0,59,x.cs.map .v⟩],[],2,x'.2⟩)
     (fun x' =>an mm x'.2/\x'.1<=x.fn/\je [] (fields.map (·.name))=je ((fields.map (·.name)).take x'.1) ((fields.map (·.name)).drop x'.1)) (fun x' =>x.fn - x'.1) (0,mm) (by kernel_rfl) (fun _ _=>aq _) (fun x hx=> ?_) (fun _=> ?_) ?_ ?_ ?_
    ·exact hx.1
    ·simp only[go_sem,Cc.cs,DJ]
    ·simp only[go_sem,Cc.cs];exact⟨rfl,rfl⟩
    ·exact⟨.inl rfl,au _,rfl⟩
    ·rintro⟨j,mj⟩ ⟨q1,q2,q3⟩;simp only at q1 q2 q3;have hy:∀(hj:j<fields.length),Rd mj (ct x.fa (j * 5)) (fields[j]).cs/\x.fa≠none:=fun hj=>by
      have:=dG (aD (aa h1 q1) r2) (by omega:j<x.fn);rw[qN (f:=Fc.cs) (sz:=5) (fun _=>rfl) hj] at this;exact this
     simp only[go_sem,Cc.cs];refine⟨fun ao=> ?_,fun cQ=> ?_⟩
     ·have hj:j<fields.length:=by omega
      refine⟨⟨by omega,ao,(hy hj).2⟩,(fields[j]).cs,⟨(hy hj).1,rfl⟩,?_⟩;simp only[go_sem,Cc.cs,Fc.cs,Aa,CT];have pF:j<(fields.map (·.name)).length:=by simpa using hj
      have jh:=yE pF;have BB:(fields.map (·.name))[j]=fields[j].name:=by simp
      rw[BB] at jh;refine⟨fun hc=>⟨aa h1 q1,?_⟩,fun hc=>⟨by unfold az;simp only[aA] at hfb;omega,(j+1,mj),⟨by simp,?_,.inl rfl⟩,⟨q1,by simp only;omega,?_⟩,by simp only;omega⟩⟩
      ·simp only[nq,q3,jh,hc,Bool.true_or,Bool.or_true]
      ·simp only;rw[GP _ _ hc,List.take_succ_eq_append_getElem pF,BB]
      ·simp only;rw[q3,jh,hc,Bool.false_or]
     ·have hF:je [] (fields.map (·.name))=false:=by
       rw[q3,List.drop_of_length_le (by simp;omega)];rfl
      refine fg ay (fun x' :Nat×Mem=>⟨[⟨1,[],.box 0 0⟩,⟨8,[],.mp 2⟩,⟨45,[],.v (.slice x.ma x.ml x.mc)⟩,⟨46,[],.v (.int .i64 x.ml)⟩,⟨47,[],.v (.int .i64 x'.1)⟩],[],[⟨2,1000001,(vF ((methods.map fun m=>(m.name,m.params.length)).take x'.1)).map .v⟩,⟨0,59,x.cs.map .v⟩],[],3,x'.2⟩)
       (fun x' =>an mj x'.2/\x'.1<=x.ml/\je [] (methods.map fun m=>(m.name,m.params.length))=je ((methods.map fun m=>(m.name,m.params.length)).take x'.1) ((methods.map fun m=>(m.name,m.params.length)).drop x'.1)) (fun x' =>x.ml - x'.1) (0,mj) (by kernel_rfl) (fun _ _=>aq _) (fun x hx=>hx.1) (fun _=> ?_) ?_ ?_ ?_
      ·simp only[go_sem,Cc.cs,DJ]
      ·simp only[go_sem,Cc.cs];exact⟨rfl,rfl⟩
      ·exact⟨.inl rfl,au _,rfl⟩
      ·rintro⟨k,mk⟩ ⟨p1,p2,p3⟩;simp only at p1 p2 p3;have hy:∀(hj:k<methods.length),∃X:Mc,(Rd mk (ct x.ma (k * 8)) X.cs/\x.ma≠none)/\X.name=methods[k].name/\X.pl=methods[k].params.length:=fun hj=>by
        have bh:=qH (aa h1 (aa q1 p1)) (pf s3 hj);have cu:=dG (aD (aa h1 (aa q1 p1)) r3) (by omega:k<x.ml);obtain⟨X,e1,e2,_⟩:=bh;rw[e1.1] at cu;exact⟨X,cu,e1.2.2.2.1,e2.1⟩
       simp only[go_sem,Cc.cs];refine⟨fun ao=> ?_,fun cQ=> ?_⟩
       ·have hj:k<methods.length:=by omega
        refine Exists.elim (hy hj) fun X hX=>⟨⟨by clear hX hy;omega,ao,hX.1.2⟩,X.cs,⟨hX.1.1,rfl⟩,?_⟩
        clear hy;have ka:=hX.2.1;have jQ:=hX.2.2;clear hX;have hkv:Value.agg ⟨[.string (bs X.name),.int .i64 X.pl]⟩=sI (X.name,X.pl):=rfl;simp only[go_sem,Cc.cs,Mc.cs,Aa,hkv,YN,KC];have pF:k<(methods.map fun m=>(m.name,m.params.length)).length:=by simpa using hj
        have jh:=yE pF;have BB:(methods.map fun m=>(m.name,m.params.length))[k]=(X.name,X.pl):=by simp [ka,jQ]
        rw[BB] at jh;refine⟨fun hc=>⟨aa h1 (aa q1 p1),?_⟩,fun hc=>⟨by unfold az;simp only[aA] at I5;omega,(k+1,mk),⟨by simp,?_,.inl rfl⟩,⟨p1,by simp only;omega,?_⟩,by simp only;omega⟩⟩
        ·simp only[nq,p3,jh,hc,Bool.true_or,Bool.or_true]
        ·simp only;rw[KZ _ _ hc,List.take_succ_eq_append_getElem pF,BB]
        ·simp only;rw[p3,jh,hc,Bool.false_or]
       ·have hM:je [] (methods.map fun m=>(m.name,m.params.length))=false:=by
         rw[p3,List.drop_of_length_le (by simp;omega)];rfl
        exact⟨aa h1 (aa q1 p1),by simp only[nq,hI,hF,hM,Bool.or_false]⟩
def gg:List (List UInt8)->List Cd->List UInt8×Int
 |_,[]=>([],0)
 |seen,d::r=>if od d=true then(if tP d=true then(d.name,9) else if(seen.contains d.name||nq d)=true then(d.name,6) else gg (seen++[d.name]) r) else(d.name,4)
theorem KJ (l:List Cd) (p:Option Addr) (n c:Nat) (m:Mem) (hg:Glob m) (hC:∀d∈l,CdB d) (h:qW m l p n c):
  FnH Tryz.prog 27 [.v (.slice p n c)] ⟨[],[]⟩ m fun r H' m' =>an m m' /\H' =⟨[],[]⟩/\r= .tup [.v (.string (bs (gg [] l).1)),.v (.int .i64 (gg [] l).2)]:=by
 obtain⟨hl,bl,hn,xs,r1,s1⟩:=h;refine aL ay Tryz.func27 ?_
 ·simp only[go_sem];refine fg ay (fun x:Nat×Mem=>⟨[⟨4,[],.mp 0⟩,⟨8,[],.v (.slice p n c)⟩,⟨9,[],.v (.int .i64 n)⟩,⟨10,[],.v (.int .i64 x.1)⟩],[],[⟨0,1000000,(uj ((l.map (·.name)).take x.1)).map .v⟩],[],1,x.2⟩)
   (fun x=>an m x.2/\x.1<=n/\gg [] l=gg ((l.map (·.name)).take x.1) (l.drop x.1)) (fun x=>n - x.1) (0,m) (by kernel_rfl) (fun _ _=>aq _) (fun x hx=>hx.1) (fun _=> ?_) ?_ ?_ ?_
  ·simp only[go_sem,DJ]
  ·simp only[go_sem];exact⟨rfl,rfl⟩
  ·exact⟨.inl rfl,au _,rfl⟩
  ·rintro⟨k,mm⟩ ⟨h1,h2,h3⟩;simp only at h1 h2 h3;have hy:∀(hk:k<l.length),∃X:Cc,(Rd mm (ct p (k * 7)) X.cs/\p≠none)/\X.name=l[k].name/\
     (aB 54 [.v (.agg ⟨X.cs⟩)] mm (.bool (od l[k])))/\(∀m',an mm m' ->aB 55 [.v (.agg ⟨X.cs⟩)] m' (.bool (tP l[k])))/\(∀m',an mm m' ->aB 56 [.v (.agg ⟨X.cs⟩)] m' (.bool (nq l[k]))):=fun hk=>by
    have bh:=nM h1 (pf s1 hk);have cu:=dG (aD h1 r1) (by omega:k<n);have hX:∃X:Cc,(xs.drop (k * 7)).take 7=X.cs/\X.name=l[k].name:=by
     obtain⟨X,e1,_⟩:=bh;exact⟨X,e1.1,e1.2.2.1⟩
    obtain⟨X,e1,e2⟩:=hX;rw[e1] at cu bh;have ax:=hC _ (List.getElem_mem hk);exact⟨X,cu,e2,RY _ _ mm (hg.upM h1) bh,fun m' hle=>T4 _ _ m' ax (nM hle bh),fun m' hle=>VZ _ _ m' (nM hle bh)⟩
   have gv:∀(hk:k<l.length),gg [] l=(if od l[k]=true then(if tP l[k]=true then(l[k].name,9) else if(((l.map (·.name)).take k).contains l[k].name||nq l[k])=true then(l[k].name,6) else gg ((l.map (·.name)).take (k+1)) (l.drop (k+1))) else(l[k].name,4)):=fun hk=>by
    rw[h3,List.drop_eq_getElem_cons hk,gg];have:(l.map (·.name)).take (k+1)=(l.map (·.name)).take k++[l[k].name]:=by
     rw[List.take_succ_eq_append_getElem (by simpa using hk)];simp
    rw[this]
   clear hC;simp only[go_sem];refine⟨fun ao=> ?_,fun cQ=> ?_⟩
   ·have hk:k<l.length:=by clear hy;omega
    have lO:=gv hk;clear gv;refine Exists.elim (hy hk) fun X bb=>⟨⟨by clear hy bb;omega,ao,bb.1.2⟩,X.cs,⟨bb.1.1,rfl⟩,?_⟩
    clear hy;have ka:=bb.2.1;have hV:=bb.2.2.1;have Jp:=bb.2.2.2.1;have Cq:=bb.2.2.2.2;clear bb;simp only[go_sem,Cc.cs];refine ab ((aX hV (fun V=>rfl)).mono ?_);clear hV;rintro r H' m2 aH ⟨l2,rfl,rfl⟩;simp only[go_sem,Cc.cs];refine⟨fun b1=>⟨aa h1 l2,?_⟩,fun b1=>ab ((aX (Jp m2 l2) (fun V=>rfl)).mono ?_)⟩
    ·clear Jp Cq;rw[lO,ae (by rw[b1];decide),ka]
    ·clear Jp;rw[aj b1] at lO;rintro r H' m3 bN ⟨l3,rfl,rfl⟩;have E2:=aa l2 l3;simp only[go_sem,Cc.cs,Aa,CT];refine⟨fun b2=>⟨aa h1 E2,?_⟩,fun b2=> ?_⟩
     ·clear Cq;rw[lO,aj b2,ka]
     ·rw[ae (by rw[b2];decide)] at lO;refine⟨fun b3=>ab ((aX (Cq m3 E2) (fun V=>rfl)).mono ?_),fun b3=>⟨aa h1 E2,?_⟩⟩
      ·clear Cq;rw[<- ka,b3,Bool.false_or] at lO;rintro r H' m4 dd ⟨l4,rfl,rfl⟩;have Qb:=aa E2 l4;simp only[go_sem,Cc.cs,Aa,CT];refine⟨fun b4=>⟨aa h1 Qb,?_⟩,fun b4=>⟨by unfold az;simp only[aA] at hn;omega,(k+1,m4),⟨by simp,?_,.inl rfl⟩,⟨aa h1 Qb,by simp only;omega,?_⟩,by simp only;omega⟩⟩
       ·rw[lO,aj b4]
       ·have cE:k<(l.map (·.name)).length:=by simpa using hk
        simp only;rw[GP _ _ b3,List.take_succ_eq_append_getElem cE,ka];simp
       ·simp only;rw[lO,ae (by rw[b4];decide)]
      ·clear Cq;rw[lO,<- ka,b3,aj (by simp)]
   ·clear hy;rw[h3,List.drop_of_length_le (by omega),gg];exact⟨h1,rfl⟩
def bH:List (Int×List UInt8):=[(1,[112,117,98,108,105,99]),(2,[112,114,105,118,97,116,101]),(4,[112,114,111,116,101,99,116,101,100]),(8,[115,116,97,116,105,99]),(16,[102,105,110,97,108]),(32,[115,121,110,99]),(1024,[97,98,115,116,114,97,99,116])]
def Ex.args:Ex->List Ex | .mk _ _ _ _ _ args=>args
def acp:Ex:= .mk 1 1 [] [] ai []
def Zy:Ex:= .mk 1 0 [] [] ai []
def abl:Ex:= .mk 1 2 [] [] ai []
def aE:Ex:= .mk 6 0 [97] [] ai []
def abB:Ex:= .mk 16 0 [43] [] ai [acp,acr aE]
def adE:Ex:= .mk 14 0 [] [] ⟨1,73,[]⟩ [abl]
def acP:Ex:= .mk 9 0 [] [] ai [adE,Zy]
set_option maxRecDepth 100000 in
theorem QQ:PJ abB=([49,32,43,32,40,32,45,32,97,32,41],0):=by decide+kernel
set_option maxRecDepth 100000 in
theorem QP:PJ acP=([110,101,119,32,105,110,116,32,91,32,93,32,91,32,50,32,93,32,91,32,48,32,93],0):=by decide+kernel
end Go.Proofs.YtimddhkipjedcaaGreatDoor.E
namespace Go.Proofs.YtimddhkipjedcaaGreatDoor.E
open Go Go.ChangeShapes Go.WideShapes Go.ChangeAt Go.RowKit
mutual
theorem yo:∀(e:Ex),bL e<=eG e
 | .mk _ _ _ _ _ args=>by
  have:=Kb args;simp only[bL,eG];omega
theorem Kb:∀(l:List Ex),ki l<=fF l
 |[]=>by simp [ki]
 |e::r=>by
  have h1:=yo e;have h2:=Kb r;simp only[ki,fF];omega
end
section
variable {H:Type} {enc:TypeId×Value->H} {W:World}
end
theorem Wk (ad:Addr) (i j:Nat) (h:ad.spot=none):(ad.add i).add j=ad.add (i+j):=by
 obtain⟨e1,e2,e3⟩:=oO ad i h;obtain⟨f1,f2,f3⟩:=oO (ad.add i) j e3;obtain⟨g1,g2,g3⟩:=oO ad (i+j) h;rcases hx:(ad.add i).add j with ⟨b,o,s⟩
 rcases hy:ad.add (i+j) with ⟨b',o',s'⟩
 rw[hx] at f1 f2 f3;rw[hy] at g1 g2 g3;simp only at f1 f2 f3 g1 g2 g3;subst f3 g3;have h1:b=b' :=by omega
 have h2:o=o' :=by omega
 rw[h1,h2]
theorem lz {m:Mem} {x:Value} {cs:List Value} (h:Rd m x cs):Ei x:=by
 obtain⟨ad,e,_⟩:=h;exact⟨ad,e⟩
theorem jH {m:Mem} {x:Value} {cs:List Value} (h:Rd m x cs) (o n:Nat) (hn:o+n<=cs.length):Rd m (pT x o) ((cs.drop o).take n):=by
 obtain⟨ad,rfl,hs,hc⟩:=h;obtain⟨e1,e2,e3⟩:=oO ad o hs;refine⟨ad.add o,rfl,e3,fun j hj=> ?_⟩;have hl:((cs.drop o).take n).length=n:=by rw[List.length_take,cH];omega
 rw[hl] at hj;obtain⟨h1,h2⟩:=hc (o+j) (by omega);refine⟨by rw[Wk ad o j hs,h1,List.getElem?_take,aj hj,List.getElem?_drop],by rw[e1,e2];omega⟩
theorem GL:∀(h:Nat) (a b:Ex) (ca cb:List Value) (m:Mem),bL a<=h->bk m a ca->bk m b cb->aB 17 [.v (.agg ⟨ca⟩),.v (.agg ⟨cb⟩)] m (.bool (iP a b))
 |0,.mk k n s c ty args,b,ca,cb,m,hd,_,_=>by simp [bL] at hd
 |h+1,.mk k n s c ty args,.mk k' n' s' c' ty' jY,ca,cb,m,hd,ha,hb=>by
  obtain⟨x,rfl,rfl,rfl,rfl,rfl,rfl,hl,bl,hn,xs,hr,fm⟩:=tu ha;obtain⟨x',rfl,rfl,rfl,rfl,rfl,rfl,kv,hcp',xN,xs',xI,hes'⟩:=tu hb;simp only[bL] at hd;have hE:=fun m' (hle:an m m')=>MJ (yn hle fm) (yn hle hes') (f:=17) fun y hy z hz cy cz jo aY r1 r2=>GL h y z cy cz jo (by have:=F2 hy;omega) r1 r2
  refine enter gA ay Tryz.func17 rfl rfl (by kernel_rfl) rfl ?_ ?_
  ·simp only[go_sem,Nd.cs]
  ·simp only[go_sem,Nd.cs,qc];have hX:iP (Ex.mk x.k x.n x.s x.c x.ty args) (Ex.mk x'.k x'.n x'.s x'.c x'.ty jY)=(decide (x.k=x'.k)&&decide (x.n=x'.n)&&decide (x.s=x'.s)&&decide (x.c=x'.c)&&Ty.eq x.ty x'.ty&&(decide (args.length=jY.length)&&fX args.length (fe iP args jY))):=by rw[iP,Gw,qE]
   refine⟨fun h=> ?_,fun h=> ?_⟩
   ·clear hE;rw[hX];simp only[Ty.eq];rcases h with ((((h |h) |h) |h) |h |h |h) |h
    ·simp [h]
    ·simp [h]
    ·simp [h]
    ·simp [h]
    ·simp [h]
    ·simp [h]
    ·simp [h]
    ·rw[bo (by omega:¬args.length=jY.length)];simp
   ·have pE:args.length=jY.length:=by clear hE;omega
    have uG:iP (Ex.mk x.k x.n x.s x.c x.ty args) (Ex.mk x'.k x'.n x'.s x'.c x'.ty jY)=fX args.length (fe iP args jY):=by rw[hX];simp only[Ty.eq,h,pE,aF,Bool.true_and]
    clear hX;refine fg ay (fun y:Nat×Mem=>⟨[⟨2,[],.box 0 0⟩,⟨3,[],.box 1 0⟩,⟨5,[],.v (.int .i64 y.1)⟩],[],[⟨0,33,x.cs.map .v⟩,⟨1,33,x'.cs.map .v⟩],[],2,y.2⟩)
     (fun y=>an m y.2/\y.1<=x.l/\fX y.1 (fe iP args jY)=true) (fun y=>x.l - y.1) (0,m) (by kernel_rfl) (fun _ _=>aq _) (fun y hy=>hy.1) (fun _=> ?_) ?_ ?_ ?_
    ·simp only[go_sem,Nd.cs]
    ·simp only[go_sem,Nd.cs];rfl
    ·exact⟨.inl rfl,au _,rfl⟩
    ·rintro⟨k,mm⟩ ⟨h1,h2,h3⟩;simp only at h1 h2 h3;have hy:∀(hk:k<args.length),∃X Y:Nd,(Rd mm (ct x.a (k * 8)) X.cs/\x.a≠none)/\(Rd mm (ct x'.a (k * 8)) Y.cs/\x'.a≠none)/\aB 17 [.v (.agg ⟨X.cs⟩),.v (.agg ⟨Y.cs⟩)] mm (.bool (fe iP args jY k)):=fun hk=>by
      obtain⟨X,Y,e1,e2,e3⟩:=hE mm h1 k hk pE;have r1:=dG (aD h1 hr) (by omega:k<x.l);have r2:=dG (aD h1 xI) (by omega:k<x'.l);rw[e1] at r1;rw[e2] at r2;exact⟨X,Y,r1,r2,e3 mm (.inl rfl)⟩
     clear hE;simp only[go_sem,Nd.cs];refine⟨fun ao=> ?_,fun cQ=> ?_⟩
     ·have hk:k<args.length:=by clear hy;omega
      refine cg (.hoist 0 (.hoist 1 (.hoist 2 (.hoist 3 (.hoist 4 (.hoist 5 (.hoist 6 (.hoist 7 (.hoist 8 (.hoist 9 (.alt 10 [] (.hoist 11 .done) .stop))))))))))) ay (by kernel_rfl) (by kernel_rfl) ?_;simp only[go_sem,Nd.cs];refine Exists.elim (hy hk) fun X dY=>Exists.elim dY fun Y fj=>⟨⟨by clear hy dY fj;omega,ao,fj.1.2⟩,X.cs,⟨fj.1.1,rfl⟩,?_⟩
      clear hy dY;have ha:=fj.2.2;simp only[go_sem,Nd.cs];refine⟨⟨by clear fj ha;omega,by clear fj ha;omega,fj.2.1.2⟩,Y.cs,⟨fj.2.1.1,rfl⟩,?_⟩;clear fj;simp only[go_sem,Nd.cs];refine ab ((aX ha (fun V=>rfl)).mono ?_);clear ha;rintro r H' m2 aH ⟨aY,rfl,rfl⟩;simp only[go_sem,Nd.cs];refine⟨fun hb=>⟨aa h1 aY,?_⟩,fun hb=>⟨by unfold az;simp only[aA] at hn;omega,(k+1,m2),⟨by simp,.inl rfl⟩,⟨aa h1 aY,by simp only;omega,?_⟩,by simp only;omega⟩⟩
      ·rw[uG,kW hk hb]
      ·simp only;rw[r0,h3,hb];rfl
     ·have:k=args.length:=by clear hy;omega
      refine⟨h1,?_⟩;rw[uG,<- this,h3]
structure SbIt (X Y:Sd) (e e2:St) (mm:Mem) (bT bE bB bA:Bool):Prop where
 tg:∀m',an mm m' ->aB 17 [.v (.agg ⟨X.tg.cs⟩),.v (.agg ⟨Y.tg.cs⟩)] m' (.bool bT)
 ex:∀m',an mm m' ->aB 17 [.v (.agg ⟨X.ex.cs⟩),.v (.agg ⟨Y.ex.cs⟩)] m' (.bool bE)
 body:∀m',an mm m' ->aB 18 [.v (.slice X.a X.l X.cp),.v (.slice Y.a Y.l Y.cp)] m' (.bool bB)
 alt:∀m',an mm m' ->aB 18 [.v (.slice X.b X.l2 X.cp2),.v (.slice Y.b Y.l2 Y.cp2)] m' (.bool bA)
 eq:de e e2=(decide (X.k=Y.k)&&decide (X.name=Y.name)&&Ty.eq X.ty Y.ty&&bT&&bE&&bB&&bA)
set_option maxHeartbeats 8000000 in
theorem KV:∀(h:Nat) (l l2:List St) (a:Option Addr) (n c:Nat) (a2:Option Addr) (n2 c2:Nat) (xs ys:List Value) (m:Mem),df l<=h->n=l.length->n2=l2.length->n<=aA->n2<=aA->aK m a n 23 xs->aK m a2 n2 23 ys->bF m l xs->bF m l2 ys->
  aB 18 [.v (.slice a n c),.v (.slice a2 n2 c2)] m (.bool (ib l l2)):=by
 intro h;induction h using Nat.strongRecOn with
 |ind h ih=>
  intro l l2 a n c a2 n2 c2 xs ys m hd hl bP hn xM hr bJ hs uB;have hX:ib l l2=(decide (l.length=l2.length)&&fX l.length (fe de l l2)):=by rw[C5,qE]
  refine aL ay Tryz.func18 ?_
  ·simp only[go_sem];refine⟨fun cP=> ?_,fun heq=> ?_⟩
   ·rw[hX,bo (by clear ih;omega:¬l.length=l2.length)];rfl
   ·have pE:l.length=l2.length:=by clear ih;omega
    rw[bX pE,Bool.true_and] at hX;refine cO ay (fun y:Nat×Mem=>⟨[⟨0,[],.v (.slice a n c)⟩,⟨1,[],.v (.slice a2 n2 c2)⟩,⟨5,[],.v (.int .i64 y.1)⟩],[],[],[],0,y.2⟩)
     (fun y=>an m y.2/\y.1<=n/\fX y.1 (fe de l l2)=true) (fun y=>n - y.1) (0,m) (fun _ _=>aq _) (fun y hy=>hy.1) ?_ ?_ ?_
    ·simp only[go_sem];rfl
    ·exact⟨.inl rfl,au _,rfl⟩
    ·rintro⟨k,mm⟩ ⟨h1,h2,h3⟩;simp only at h1 h2 h3;have hy:∀(hk:k<l.length),∃(X Y:Sd) (bT bE bB bA:Bool) (e e2:St),(Rd mm (ct a (k * 23)) X.cs/\a≠none)/\(Rd mm (ct a2 (k * 23)) Y.cs/\a2≠none)/\SbIt X Y e e2 mm bT bE bB bA/\fe de l l2 k=de e e2:=fun hk=>by
      have b8:k<l2.length:=by omega
      have bh:=tj h1 (qQ hs hk);have O9:=tj h1 (qQ uB b8);have cu:=dG (aD h1 hr) (by omega:k<n);have Py:=dG (aD h1 bJ) (by omega:k<n2);have q1:=oM (List.getElem_mem hk);have ig:fe de l l2 k=de l[k] l2[k]:=yR hk b8;cases he:l[k] with
      |mk k1 rH ty1 tg1 QQ body1 alt1=>
       cases he2:l2[k] with
       |mk k2 nm2 ty2 tg2 QP body2 alt2=>
        rw[he] at bh q1 ig;rw[he2] at O9 ig;simp only[fh] at q1;obtain⟨X,hX,rfl,rfl,rfl,dk,hex,qs,bl,hl2',dW,ax,zs,ws,r1,r2,s1,s2⟩:=tq bh;obtain⟨Y,hY,rfl,rfl,rfl,htg',xi,hl1',hcp',hl2'',hcp2',hok',zs',ws',r1',r2',s1',s2'⟩:=tq O9;rw[hX] at cu;rw[hY] at Py;refine⟨X,Y,_,_,_,_,_,_,cu,Py,⟨fun m' hle=>GL _ tg1 tg2 _ _ m' (aq _) (aZ hle dk) (aZ hle htg'),fun m' hle=>GL _ QQ QP _ _ m' (aq _) (aZ hle hex) (aZ hle xi),fun m' hle=> ?_,fun m' hle=> ?_,rfl⟩,ig⟩
        ·exact ih (df body1) (by omega) body1 body2 X.a X.l X.cp Y.a Y.l Y.cp zs zs' m' (aq _) qs hl1' (by rw[qs];exact ax.l) (by rw[hl1'];exact hok'.l) (aD hle r1) (aD hle r1') (dv hle s1) (dv hle s1')
        ·exact ih (df alt1) (by omega) alt1 alt2 X.b X.l2 X.cp2 Y.b Y.l2 Y.cp2 ws ws' m' (aq _) hl2' hl2'' (by rw[hl2'];exact ax.l2) (by rw[hl2''];exact hok'.l2) (aD hle r2) (aD hle r2') (dv hle s2) (dv hle s2')
     clear ih;simp only[go_sem];refine⟨fun ao=> ?_,fun cQ=> ?_⟩
     ·have hk:k<l.length:=by clear hy;omega
      refine cg (.hoist 0 (.hoist 1 (.hoist 2 (.hoist 3 (.hoist 4 (.hoist 5 (.hoist 6 (.hoist 7 (.alt 8 [7,6,5,4,3,2,1,0] (.alt 9 [7,6,5,4,3,2,1,0] (.alt 10 [7,6,5,4] (.alt 11 [] .done .stop) .stop) .stop) (.alt 9 [7,6,5,4,3,2,1,0] (.alt 8 [7,6,5,4,3,2,1,0] (.alt 10 [7,6,5,4] (.alt 11 [] .done .stop) .stop) .stop) .stop)))))))))) ay (by kernel_rfl) (by kernel_rfl) ?_;simp only[go_sem];refine Exists.elim (hy hk) fun X y1=>Exists.elim y1 fun Y y2=>Exists.elim y2 fun bT y3=>Exists.elim y3 fun bE y4=>Exists.elim y4 fun bB y5=>Exists.elim y5 fun bA y6=>Exists.elim y6 fun e y7=>Exists.elim y7 fun e2 y8=>⟨⟨by clear hy y1 y2 y3 y4 y5 y6 y7 y8;omega,ao,y8.1.2⟩,X.cs,⟨y8.1.1,rfl⟩,⟨by clear hy y1 y2 y3 y4 y5 y6 y7 y8;omega,by clear hy y1 y2 y3 y4 y5 y6 y7 y8;omega,y8.2.1.2⟩,Y.cs,⟨y8.2.1.1,rfl⟩,?_⟩
      clear hy y1 y2 y3 y4 y5 y6 y7;have hS:=y8.2.2.1;have ig:=y8.2.2.2;clear y8;simp only[go_sem,Sd.cs,Nd.cs,qc];refine⟨?_,?_⟩
      ·refine⟨fun he=>ab ((aX (hS.tg mm (.inl rfl)) (fun V=>rfl)).mono ?_),fun cP=>⟨h1,?_⟩⟩
       ·have e0:de e e2=(bT&&bE&&bB&&bA):=by rw[hS.eq];simp only[Ty.eq,he,aF,Bool.true_and]
        rintro r H' m2 aH ⟨dD,rfl,rfl⟩;simp only[go_sem,Sd.cs,Nd.cs];refine⟨fun b1=>ab ((aX (hS.ex m2 dD) (fun V=>rfl)).mono ?_),fun b1=>⟨aa h1 dD,?_⟩⟩
        ·rintro r H' m3 bN ⟨l3,rfl,rfl⟩;have k3:=aa dD l3;simp only[go_sem,Sd.cs,Nd.cs];refine⟨fun b2=>ab ((hS.body m3 k3).mono ?_),fun b2=>⟨aa h1 k3,?_⟩⟩
         ·rintro r H' m4 dd ⟨l4,rfl,rfl⟩;have k4:=aa k3 l4;simp only[go_sem,Sd.cs,Nd.cs];refine⟨fun b3=>ab ((hS.alt m4 k4).mono ?_),fun b3=>⟨aa h1 k4,?_⟩⟩
          ·rintro r H' m5 cW ⟨l5,rfl,rfl⟩;have k5:=aa k4 l5;simp only[go_sem,Sd.cs,Nd.cs];refine⟨fun b4=>⟨aa h1 k5,?_⟩,fun b4=>⟨by unfold az;simp only[aA] at hn;omega,(k+1,m5),⟨by simp,.inl rfl⟩,⟨aa h1 k5,by simp only;omega,?_⟩,by simp only;omega⟩⟩
           ·rw[hX,kW hk (by rw[ig,e0,b4,Bool.and_false])]
           ·simp only;rw[r0,h3,ig,e0,b1,b2,b3,b4];rfl
          ·rw[hX,kW hk (by rw[ig,e0,b3,Bool.and_false];rfl)]
         ·rw[hX,kW hk (by rw[ig,e0,b2,Bool.and_false];rfl)]
        ·rw[hX,kW hk (by rw[ig,e0,b1];rfl)]
       ·rw[hX,kW hk];rw[ig,hS.eq];simp only[Ty.eq];clear hS;rcases cP with (h |h) |h |h |h<;>simp [h]
      ·refine⟨fun he=>ab ((aX (hS.tg mm (.inl rfl)) (fun V=>rfl)).mono ?_),fun cP=>⟨h1,?_⟩⟩
       ·have e0:de e e2=(bT&&bE&&bB&&bA):=by rw[hS.eq];simp only[Ty.eq,he,aF,Bool.true_and]
        rintro r H' m2 aH ⟨dD,rfl,rfl⟩;simp only[go_sem,Sd.cs,Nd.cs];refine⟨fun b1=>ab ((aX (hS.ex m2 dD) (fun V=>rfl)).mono ?_),fun b1=>⟨aa h1 dD,?_⟩⟩
        ·rintro r H' m3 bN ⟨l3,rfl,rfl⟩;have k3:=aa dD l3;simp only[go_sem,Sd.cs,Nd.cs];refine⟨fun b2=>ab ((hS.body m3 k3).mono ?_),fun b2=>⟨aa h1 k3,?_⟩⟩
         ·rintro r H' m4 dd ⟨l4,rfl,rfl⟩;have k4:=aa k3 l4;simp only[go_sem,Sd.cs,Nd.cs];refine⟨fun b3=>ab ((hS.alt m4 k4).mono ?_),fun b3=>⟨aa h1 k4,?_⟩⟩
          ·rintro r H' m5 cW ⟨l5,rfl,rfl⟩;have k5:=aa k4 l5;simp only[go_sem,Sd.cs,Nd.cs];refine⟨fun b4=>⟨aa h1 k5,?_⟩,fun b4=>⟨by unfold az;simp only[aA] at hn;omega,(k+1,m5),⟨by simp,.inl rfl⟩,⟨aa h1 k5,by simp only;omega,?_⟩,by simp only;omega⟩⟩
           ·rw[hX,kW hk (by rw[ig,e0,b4,Bool.and_false])]
           ·simp only;rw[r0,h3,ig,e0,b1,b2,b3,b4];rfl
          ·rw[hX,kW hk (by rw[ig,e0,b3,Bool.and_false];rfl)]
         ·rw[hX,kW hk (by rw[ig,e0,b2,Bool.and_false];rfl)]
        ·rw[hX,kW hk (by rw[ig,e0,b1];rfl)]
       ·rw[hX,kW hk];rw[ig,hS.eq];simp only[Ty.eq];clear hS;rcases cP with (h |h) |h |h |h<;>simp [h]
     ·have:k=l.length:=by clear hy;omega
      refine⟨h1,?_⟩;rw[hX,<- this,h3]
mutual
def ju:St->Nat
 | .mk _ _ _ tg ex body alt=>1+eG ex+eG tg+ek body+ek alt
def ek:List St->Nat
 |[]=>0
 |e::r=>ju e+ek r
end
theorem z7:∀{l:List St} {e:St},e∈l->ju e<=ek l
 |[],e,he=>by cases he
 |x::r,e,he=>by
  simp only[ek];rcases List.mem_cons.1 he with rfl |he
  ·omega
  ·have:=z7 he;omega
end Go.Proofs.YtimddhkipjedcaaGreatDoor.E
namespace Go.Proofs.YtimddhkipjedcaaGreatDoor.E
open Go Go.ChangeShapes Go.WideShapes Go.ChangeAt Go.RowKit
section
variable {H:Type} {enc:TypeId×Value->H} {W:World}
end
end Go.Proofs.YtimddhkipjedcaaGreatDoor.E
namespace Go.Proofs.YtimddhkipjedcaaGreatDoor.E
open Go Go.ChangeShapes Go.WideShapes Go.ChangeAt Go.RowKit
def sn (d:Md):Nat:=1+d.params.length+ek d.body
def fG (d:Cd):Nat:=1+d.fields.length+d.ifs.length+ek d.init+(d.methods.map sn).sum
section
variable {H:Type} {enc:TypeId×Value->H} {W:World}
end
/-! What lies in memory is of bounded size. -/
/-! How many tokens. -/
abbrev PR (α:Type):=Except (List Tk) (α×List Tk)
def av {α β:Type}:PR α->(α->List Tk->PR β)->PR β
 | .ok x,k=>k x.1 x.2
 | .error e,_=> .error e
def aC (s:List UInt8):List Tk->Bool
 |[]=>false
 |t::_=>(decide (t.k=2)||decide (t.k=6))&&decide (t.s=s)
def kQ:List Tk->List UInt8
 |[]=>[]
 |t::_=>t.s
def mM:List Tk->Int
 |[]=>0
 |t::_=>t.k
def uE:List Tk->Int
 |[]=>0
 |t::_=>t.n
def ee (l:List Tk):Bool:=decide (mM l=1)&&dT (kQ l)
def eY (l:List Tk):Bool:=decide (mM l=1)&& !dT (kQ l)&& !(kQ l).contains 47
def aW {α:Type} (s:List UInt8) (l:List Tk) (k:List Tk->PR α):PR α:=if aC s l=true then k l.tail else .error l
def fw (l:List Tk):PR (List UInt8):=if ee l=true then .ok (kQ l,l.tail) else .error l
def dr (l:List Tk):PR (List UInt8):=if eY l=true then .ok (kQ l,l.tail) else .error l
def jX (l:List Tk):PR Ty:=
 if aC iI l=true then .ok (⟨0,73,[]⟩,l.tail)
 else if aC iE l=true then .ok (⟨0,74,[]⟩,l.tail)
 else av (fw l) fun s r=> .ok (⟨0,76,s⟩,r)
def Ty.up (t:Ty):Ty:=⟨t.dim+1,t.base,t.name⟩
def mr:Nat->Ty->List Tk->PR Ty
 |0,t,l=> .ok (t,l)
 |f+1,t,l=>if aC [91] l=true then aW [93] l.tail fun r=>mr f t.up r else .ok (t,l)
def fN (l:List Tk):PR Ty:=av (jX l) fun t r=>mr r.length t r
def fH (n:Nat):List (List UInt8):=
 if n=0 then[[124,124]] else if n=1 then[[38,38]] else if n=2 then[[124]] else if n=3 then[[94]] else if n=4 then[[38]]
 else if n=5 then[[61,61],[33,61]] else if n=6 then[[60],[60,61],[62],[62,61]] else if n=7 then[[60,60],[62,62],[62,62,62]]
 else if n=8 then[[43],[45]] else[[42],[47],[37]]
def iF (n:Nat) (l:List Tk):Bool:=decide (mM l=6)&&(fH n).contains (kQ l)
def lf:Nat->Ty->List Tk->PR Ty
 |0,t,l=> .ok (t,l)
 |f+1,t,l=>if aC [93] l=true then aW [91] l.tail fun r=>lf f t.up r else .ok (t,l)
mutual
def eQ:Nat->Nat->List Tk->PR Ex
 |0,_,l=> .error l
 |f+1,n,l=>if n=10 then mb f l else av (eQ f (n+1) l) fun e r=>kY f n e r
def kY:Nat->Nat->Ex->List Tk->PR Ex
 |0,_,_,l=> .error l
 |f+1,n,e,l=>
  if iF n l=true then av (eQ f (n+1) l.tail) fun x r=>kY f n (.mk 16 0 (kQ l) [] ai [e,x]) r
  else if n=6/\aC [105,115] l=true then av (fN l.tail) fun t r=>kY f n (.mk 18 0 [] [] t [e]) r
  else if n=6/\aC [97,115] l=true then av (fN l.tail) fun t r=>kY f n (.mk 17 0 [] [] t [e]) r
  else .ok (e,l)
def mb:Nat->List Tk->PR Ex
 |0,l=> .error l
 |f+1,l=>
  if aC [45] l=true then av (mb f l.tail) fun x r=> .ok (.mk 15 0 [45] [] ai [x],r)
  else if aC [33] l=true then av (mb f l.tail) fun x r=> .ok (.mk 15 0 [33] [] ai [x],r)
  else av (qG f l) fun e r=>lB f e r
def lB:Nat->Ex->List Tk->PR Ex
 |0,_,l=> .error l
 |f+1,e,l=>
  if aC [46] l=true then av (dr l.tail) fun s r=>
   if aC [40] r=true then av (kI f r) fun es r2=>lB f (.mk 10 0 s [] ai (e::es)) r2
   else lB f (.mk 7 0 s [] ai [e]) r
  else if aC [91] l=true then av (eQ f 0 l.tail) fun i r=>aW [93] r fun r2=>lB f (.mk 9 0 [] [] ai [e,i]) r2
  else .ok (e,l)
def kI:Nat->List Tk->PR (List Ex)
 |0,l=> .error l
 |f+1,l=>aW [40] l fun r=>if aC [41] r=true then .ok ([],r.tail) else av (eQ f 0 r) fun e r2=>o7 f [e] r2
def o7:Nat->List Ex->List Tk->PR (List Ex)
 |0,_,l=> .error l
 |f+1,acc,l=>if aC [44] l=true then av (eQ f 0 l.tail) fun e r=>o7 f (acc++[e]) r else aW [41] l fun r=> .ok (acc,r)
def iT:Nat->List Tk->PR Ex
 |0,l=> .error l
 |f+1,l=>aW [40] l fun r=>av (eQ f 0 r) fun e r2=>aW [41] r2 fun r3=> .ok (e,r3)
def qG:Nat->List Tk->PR Ex
 |0,l=> .error l
 |f+1,l=>
  if mM l=3 then .ok (.mk 1 (uE l) [] [] ai [],l.tail)
  else if mM l=4 then .ok (.mk 2 (uE l) [] [] ai [],l.tail)
  else if mM l=5 then .ok (.mk 3 0 (kQ l) [] ai [],l.tail)
  else if eY l=true then av (dr l) fun s r=> .ok (.mk 6 0 s [] ai [],r)
  else if ee l=true then av (fw l) fun c r=>aW [46] r fun r2=>av (dr r2) fun s r3=>
   if aC [40] r3=true then av (kI f r3) fun es r4=> .ok (.mk 11 0 s c ai es,r4) else .ok (.mk 8 0 s c ai [],r3)
  else if aC [40] l=true then iT f l
  else rl f l
def rl:Nat->List Tk->PR Ex
 |0,l=> .error l
 |f+1,l=>
  if aC [110,117,108,108] l=true then .ok (.mk 4 0 [] [] ai [],l.tail)
  else if aC [116,104,105,115] l=true then .ok (.mk 5 0 [] [] ai [],l.tail)
  else if aC [115,117,112,101,114] l=true then aW [46] l.tail fun r=>av (dr r) fun s r2=>av (kI f r2) fun es r3=> .ok (.mk 12 0 s [] ai es,r3)
  else if aC [110,101,119] l=true then av (jX l.tail) fun t r=>
   if t.base=76/\aC [40] r=true then av (kI f r) fun es r2=> .ok (.mk 13 0 [] t.name ai es,r2)
   else aW [91] r fun r2=>av (lf r2.length t r2) fun t2 r3=>av (eQ f 0 r3) fun e r4=>aW [93] r4 fun r5=> .ok (.mk 14 0 [] [] t2 [e],r5)
  else if aC [108,101,110] l=true then av (iT f l.tail) fun e r=> .ok (.mk 19 0 [] [] ai [e],r)
  else if aC iI l=true then av (iT f l.tail) fun e r=> .ok (.mk 20 0 [] [] ai [e],r)
  else if aC iE l=true then av (iT f l.tail) fun e r=> .ok (.mk 21 0 [] [] ai [e],r)
  else .error l
end
def dE {α:Type} (g:Nat->α) (K:α):Prop:=∃F,∀f,F<=f->g f=K
theorem bG {α:Type} (K:α):dE (fun _=>K) K:=⟨0,fun _ _=>rfl⟩
theorem kB {α:Type} {g h:Nat->α} {K:α} (e:∀f,g (f+1)=h f) (H:dE h K):dE g K:=by
 obtain⟨F,hF⟩:=H;refine⟨F+1,fun f hf=> ?_⟩;cases f with
 |zero=>omega
 |succ f=>rw[e];exact hF f (by omega)
theorem Nr {α β:Type} {g:Nat->PR α} {k:Nat->α->List Tk->PR β} {a:α} {r:List Tk} {K:PR β} (hg:dE g (.ok (a,r))) (hk:dE (fun f=>k f a r) K):dE (fun f=>av (g f) (k f)) K:=by
 obtain⟨F,hF⟩:=hg;obtain⟨G,hG⟩:=hk;refine⟨max F G,fun f hf=> ?_⟩;simp only[hF f (by omega),av];exact hG f (by omega)
theorem YK {α:Type} {g:Nat->α} {K K' :α} (h:dE g K) (h' :dE g K'):K=K' :=by
 obtain⟨F,hF⟩:=h;obtain⟨G,hG⟩:=h';rw[<- hF (max F G) (by omega),hG (max F G) (by omega)]
structure Fol (n:Nat) (r:List Tk):Prop where
 dot:aC [46] r=false
 lb:aC [91] r=false
 lp:aC [40] r=false
 op:∀m,n<=m->m<=9->iF m r=false
 is:n<=6->aC [105,115] r=false/\aC [97,115] r=false
theorem Fol.up {n m:Nat} {r:List Tk} (h:Fol n r) (hm:n<=m):Fol m r:=⟨h.dot,h.lb,h.lp,fun q h1 h2=>h.op q (by omega) h2,fun h1=>h.is (by omega)⟩
/-! Types. -/
noncomputable def jx {α:Type} (g:Nat->PR α):PR α:=by
 classical
 exact if h:∃K,dE g K then h.choose else .error []
theorem Mv {α:Type} {g:Nat->PR α} (h:∃K,dE g K):dE g (jx g):=by
 unfold jx;rw[dif_pos h];exact h.choose_spec
theorem jk {α:Type} {g:Nat->PR α} {K:PR α} (h:dE g K):jx g=K:=YK (Mv ⟨K,h⟩) h
structure Good {α:Type} (lt:Bool) (l:List Tk) (K:PR α):Prop where
 ok:∀x r,K= .ok (x,r)->r<:+l/\(lt=true->r.length<l.length)
 er:∀r,K= .error r->r<:+l
def Tot {α:Type} (lt:Bool) (g:Nat->PR α) (l:List Tk):Prop:=∃K,dE g K/\Good lt l K
theorem Tot.lim {α:Type} {lt:Bool} {g:Nat->PR α} {l:List Tk} (h:Tot lt g l):dE g (jx g):=by
 obtain⟨K,h1,_⟩:=h;exact Mv ⟨K,h1⟩
theorem Tot.good {α:Type} {lt:Bool} {g:Nat->PR α} {l:List Tk} (h:Tot lt g l):Good lt l (jx g):=by
 obtain⟨K,h1,h2⟩:=h;rw[jk h1];exact h2
theorem gn {a b:List Tk} (h:a<:+b):a.length<=b.length:=h.length_le
theorem cF (l:List Tk):l.tail<:+l:=List.tail_suffix l
theorem dZ {l:List Tk} (h:l≠[]):l.tail.length<l.length:=by
 cases l with
 |nil=>exact absurd rfl h
 |cons a r=>simp
theorem bI {s:List UInt8} {l:List Tk} (h:aC s l=true):l≠[]:=fun e=>by rw[e] at h;cases h
theorem tH {l:List Tk} {k:Int} (h:mM l=k) (hk:k≠0):l≠[]:=fun e=>by rw[e] at h;exact hk h.symm
theorem iC {α:Type} {l r:List Tk} (x:α) {lt:Bool} (h1:r<:+l) (h2:lt=true->r.length<l.length):Tot lt (fun _=> .ok (x,r)) l:=
 ⟨_,bG _,fun y q e=>by cases e;exact⟨h1,h2⟩,fun q e=>by cases e⟩
theorem AM {α:Type} {l r:List Tk} {lt:Bool} (h1:r<:+l):Tot (α:=α) lt (fun _=> .error r) l:=
 ⟨_,bG _,fun y q e=>by(cases e),fun q e=>by cases e;exact h1⟩
theorem jS {α:Type} {lt:Bool} {g h:Nat->PR α} {l:List Tk} (e:∀f,g (f+1)=h f) (H:Tot lt h l):Tot lt g l:=by
 obtain⟨K,h1,h2⟩:=H;exact⟨K,kB e h1,h2⟩
theorem Nq {α β:Type} {g:Nat->PR α} {k:Nat->α->List Tk->PR β} {r:List Tk} (hg:dE g (.error r)):dE (fun f=>av (g f) (k f)) (.error r):=by
 obtain⟨F,hF⟩:=hg;exact⟨F,fun f hf=>by simp only[hF f hf,av]⟩
theorem bZ {α β:Type} {a b:Bool} {g:Nat->PR α} {k:Nat->α->List Tk->PR β} {l:List Tk} (hg:Tot a g l)
  (hk:∀x r,r<:+l->(a=true->r.length<l.length)->Tot b (fun f=>k f x r) r):Tot (a||b) (fun f=>av (g f) (k f)) l:=by
 obtain⟨K,h1,h2⟩:=hg;cases K with
 |error r=>exact⟨.error r,Nq h1,fun x q e=>by(cases e),fun q e=>by cases e;exact h2.er _ rfl⟩
 |ok p=>
  obtain⟨x,r⟩:=p;obtain⟨s1,s2⟩:=h2.ok x r rfl;obtain⟨K2,h3,h4⟩:=hk x r s1 s2;refine⟨K2,Nr h1 h3,fun y q e=> ?_,fun q e=>(h4.er q e).trans s1⟩;obtain⟨t1,t2⟩:=h4.ok y q e;refine⟨t1.trans s1,fun Jn=> ?_⟩;have u1:=gn s1;have u2:=gn t1;cases a with
  |true=>have:=s2 rfl;omega
  |false=>
   cases b with
   |true=>have:=t2 rfl;omega
   |false=>cases Jn
theorem lx {α:Type} {g:Nat->PR α} {l:List Tk} {a:Bool} (b:Bool) (h:Tot a g l) (Jn:b=true->a=true):Tot b g l:=by
 obtain⟨K,h1,h2⟩:=h;exact⟨K,h1,fun x r e=>⟨(h2.ok x r e).1,fun hb=>(h2.ok x r e).2 (Jn hb)⟩,h2.er⟩
theorem qP {α:Type} {g:Nat->PR α} {l r:List Tk} (h1:r<:+l) {a:Bool} (h:Tot a g r):Tot a g l:=by
 obtain⟨K,q1,q2⟩:=h;refine⟨K,q1,fun x s e=> ?_,fun s e=>(q2.er s e).trans h1⟩;obtain⟨t1,t2⟩:=q2.ok x s e;exact⟨t1.trans h1,fun ha=>ej (t2 ha) (gn h1)⟩
theorem jT {α:Type} {g:Nat->PR α} {l r:List Tk} (h1:r<:+l) (h2:r.length<l.length) {a:Bool} (h:Tot a g r):Tot true g l:=by
 obtain⟨K,q1,q2⟩:=h;refine⟨K,q1,fun x s e=> ?_,fun s e=>(q2.er s e).trans h1⟩;obtain⟨t1,t2⟩:=q2.ok x s e;exact⟨t1.trans h1,fun _=>Nat.lt_of_le_of_lt (gn t1) h2⟩
theorem dc {α:Type} {p:Prop} [Decidable p] {g h:Nat->PR α} {l:List Tk} {a:Bool} (h1:p->Tot a g l) (h2:¬p->Tot a h l):Tot a (fun f=>if p then g f else h f) l:=by
 by_cases hp:p
 ·simp only[aj hp];exact h1 hp
 ·simp only[ae hp];exact h2 hp
theorem iz {α:Type} {s:List UInt8} {l:List Tk} {k:Nat->List Tk->PR α} {a:Bool} (h:aC s l=true->l.tail.length<l.length->Tot a (fun f=>k f l.tail) l.tail):Tot true (fun f=>aW s l (k f)) l:=by
 unfold aW;refine dc (fun hs=> ?_) fun _=>AM (List.suffix_refl _)
 have:=dZ (bI hs);exact jT (cF l) this (h hs this)
theorem wC (l:List Tk):Tot true (fun _=>fw l) l:=by
 unfold fw;refine dc (fun h=> ?_) fun _=>AM (List.suffix_refl _)
 simp only[ee,cY,gz] at h;exact iC _ (cF l) fun _=>dZ (tH h.1 (by decide))
theorem sb (l:List Tk):Tot true (fun _=>dr l) l:=by
 unfold dr;refine dc (fun h=> ?_) fun _=>AM (List.suffix_refl _)
 simp only[eY,cY,gz] at h;exact iC _ (cF l) fun _=>dZ (tH h.1.1 (by decide))
theorem LH (l:List Tk):Tot true (fun _=>jX l) l:=by
 unfold jX;refine dc (fun h=>iC _ (cF l) fun _=>dZ (bI h)) fun _=> ?_
 refine dc (fun h=>iC _ (cF l) fun _=>dZ (bI h)) fun _=> ?_
 exact bZ (b:=false) (wC l) fun x r h1 h2=>iC _ (List.suffix_refl _) fun h=>by cases h
theorem Lu:∀(f:Nat) (t:Ty) (l:List Tk),Good false l (mr f t l)
 |0,t,l=>⟨fun x r e=>by cases e;exact⟨List.suffix_refl _,fun h=>by cases h⟩,fun r e=>by cases e⟩
 |f+1,t,l=>by
  rw[mr];by_cases h:aC [91] l=true
  ·rw[aj h];unfold aW;by_cases h2:aC [93] l.tail=true
   ·rw[aj h2];have ih:=Lu f t.up l.tail.tail;have s:l.tail.tail<:+l:=(cF _).trans (cF l);exact⟨fun x r e=>⟨(ih.ok x r e).1.trans s,fun h=>by cases h⟩,fun r e=>(ih.er r e).trans s⟩
   ·rw[ae h2];exact⟨fun x r e=>by(cases e),fun r e=>by cases e;exact cF l⟩
  ·rw[ae h];exact⟨fun x r e=>by cases e;exact⟨List.suffix_refl _,fun h=>by cases h⟩,fun r e=>by cases e⟩
theorem Mn:∀(f:Nat) (t:Ty) (l:List Tk),Good false l (lf f t l)
 |0,t,l=>⟨fun x r e=>by cases e;exact⟨List.suffix_refl _,fun h=>by cases h⟩,fun r e=>by cases e⟩
 |f+1,t,l=>by
  rw[lf];by_cases h:aC [93] l=true
  ·rw[aj h];unfold aW;by_cases h2:aC [91] l.tail=true
   ·rw[aj h2];have ih:=Mn f t.up l.tail.tail;have s:l.tail.tail<:+l:=(cF _).trans (cF l);exact⟨fun x r e=>⟨(ih.ok x r e).1.trans s,fun h=>by cases h⟩,fun r e=>(ih.er r e).trans s⟩
   ·rw[ae h2];exact⟨fun x r e=>by(cases e),fun r e=>by cases e;exact cF l⟩
  ·rw[ae h];exact⟨fun x r e=>by cases e;exact⟨List.suffix_refl _,fun h=>by cases h⟩,fun r e=>by cases e⟩
theorem KO {α:Type} {K:PR α} {l:List Tk} {a:Bool} (h:Good a l K):Tot a (fun _=>K) l:=⟨K,bG _,h⟩
theorem uR (l:List Tk):Tot true (fun _=>fN l) l:=by
 unfold fN;exact bZ (b:=false) (LH l) fun t r _ _=>KO (Lu _ _ _)
structure EX (l:List Tk):Prop where
 expr:∀n,n<=10->Tot true (fun f=>eQ f n l) l
 loop:∀n e,n<=9->Tot false (fun f=>kY f n e l) l
 unary:Tot true (fun f=>mb f l) l
 post:∀e,Tot false (fun f=>lB f e l) l
 args:Tot true (fun f=>kI f l) l
 more:∀acc,Tot true (fun f=>o7 f acc l) l
 paren:Tot true (fun f=>iT f l) l
 operand:Tot true (fun f=>qG f l) l
 key:Tot true (fun f=>rl f l) l
theorem Pg {l:List Tk} (ih:∀r:List Tk,r.length<l.length->EX r):EX l:=by
 have rf:Tot true (fun f=>kI f l) l:=by
  refine jS (h:=fun f=>aW [40] l fun r=>if aC [41] r=true then .ok ([],r.tail) else av (eQ f 0 r) fun e r2=>o7 f [e] r2) (fun f=>by rw[kI]) ?_;refine iz (a:=false) fun hs ao=> ?_
  refine dc (fun h=>iC _ (cF _) fun h=>by cases h) fun _=> ?_
  exact lx false (bZ (b:=true) ((ih _ ao).expr 0 (by decide)) fun e r h1 h2=>(ih r (by have:=h2 rfl;omega)).more _) fun h=>by cases h
 have Ov:Tot true (fun f=>iT f l) l:=by
  refine jS (h:=fun f=>aW [40] l fun r=>av (eQ f 0 r) fun e r2=>aW [41] r2 fun r3=> .ok (e,r3)) (fun f=>by rw[iT]) ?_;refine iz (a:=true) fun hs ao=> ?_
  exact bZ (b:=true) ((ih _ ao).expr 0 (by decide)) fun e r h1 h2=>iz (a:=false) fun _ _=>iC _ (List.suffix_refl _) fun h=>by cases h
 have aab:∀acc,Tot true (fun f=>o7 f acc l) l:=fun acc=>by
  refine jS (h:=fun f=>if aC [44] l=true then av (eQ f 0 l.tail) fun e r=>o7 f (acc++[e]) r else aW [41] l fun r=> .ok (acc,r)) (fun f=>by rw[o7]) ?_;refine dc (fun h=> ?_) fun _=>iz (a:=false) fun _ _=>iC _ (List.suffix_refl _) fun h=>by cases h
  have ao:=dZ (bI h);exact jT (cF l) ao (bZ (b:=true) ((ih _ ao).expr 0 (by decide)) fun e r h1 h2=>(ih r (by have:=h2 rfl;omega)).more _)
 have Z9:∀e,Tot false (fun f=>lB f e l) l:=fun e=>by
  refine jS (h:=fun f=>if aC [46] l=true then av (dr l.tail) fun s r=>
   if aC [40] r=true then av (kI f r) fun es r2=>lB f (.mk 10 0 s [] ai (e::es)) r2 else lB f (.mk 7 0 s [] ai [e]) r
   else if aC [91] l=true then av (eQ f 0 l.tail) fun i r=>aW [93] r fun r2=>lB f (.mk 9 0 [] [] ai [e,i]) r2
   else .ok (e,l)) (fun f=>by rw[lB]) ?_
  refine dc (fun h=> ?_) fun _=>dc (fun h=> ?_) fun _=>iC _ (List.suffix_refl _) fun h=>by cases h
  ·have ao:=dZ (bI h);refine qP (cF l) (lx false (bZ (b:=false) (sb l.tail) fun s r h1 h2=> ?_) fun h=>by cases h);have hr:=gn h1;refine dc (fun hp=> ?_) fun _=>(ih r (by omega)).post _
   exact lx false (bZ (b:=false) (ih r (by omega)).args fun es r2 h3 h4=>(ih r2 (by have:=gn h3;omega)).post _) fun h=>by cases h
  ·have ao:=dZ (bI h);refine qP (cF l) (lx false (bZ (b:=true) ((ih _ ao).expr 0 (by decide)) fun i r h1 h2=> ?_) fun h=>by cases h);have hr:=gn h1;exact iz (a:=false) fun _ bP=>(ih _ (by omega)).post _
 have aad:∀n e,n<=9->Tot false (fun f=>kY f n e l) l:=fun n e hn=>by
  refine jS (h:=fun f=>if iF n l=true then av (eQ f (n+1) l.tail) fun x r=>kY f n (.mk 16 0 (kQ l) [] ai [e,x]) r
   else if n=6/\aC [105,115] l=true then av (fN l.tail) fun t r=>kY f n (.mk 18 0 [] [] t [e]) r
   else if n=6/\aC [97,115] l=true then av (fN l.tail) fun t r=>kY f n (.mk 17 0 [] [] t [e]) r
   else .ok (e,l)) (fun f=>by rw[kY]) ?_
  refine dc (fun h=> ?_) fun _=>dc (fun h=> ?_) fun _=>dc (fun h=> ?_) fun _=>iC _ (List.suffix_refl _) fun h=>by cases h
  ·simp only[iF,cY,gz] at h;have ao:=dZ (tH h.1 (by decide));exact qP (cF l) (lx false (bZ (b:=false) ((ih _ ao).expr (n+1) (by omega)) fun x r h1 h2=>(ih r (by have:=gn h1;omega)).loop n _ hn) fun h=>by cases h)
  ·have ao:=dZ (bI h.2);exact qP (cF l) (lx false (bZ (b:=false) (uR l.tail) fun x r h1 h2=>(ih r (by have:=gn h1;omega)).loop n _ hn) fun h=>by cases h)
  ·have ao:=dZ (bI h.2);exact qP (cF l) (lx false (bZ (b:=false) (uR l.tail) fun x r h1 h2=>(ih r (by have:=gn h1;omega)).loop n _ hn) fun h=>by cases h)
 have rm:Tot true (fun f=>rl f l) l:=by
  refine jS (h:=fun f=>
   if aC [110,117,108,108] l=true then .ok (.mk 4 0 [] [] ai [],l.tail)
   else if aC [116,104,105,115] l=true then .ok (.mk 5 0 [] [] ai [],l.tail)
   else if aC [115,117,112,101,114] l=true then aW [46] l.tail fun r=>av (dr r) fun s r2=>av (kI f r2) fun es r3=> .ok (.mk 12 0 s [] ai es,r3)
   else if aC [110,101,119] l=true then av (jX l.tail) fun t r=>
    if t.base=76/\aC [40] r=true then av (kI f r) fun es r2=> .ok (.mk 13 0 [] t.name ai es,r2)
    else aW [91] r fun r2=>av (lf r2.length t r2) fun t2 r3=>av (eQ f 0 r3) fun e r4=>aW [93] r4 fun r5=> .ok (.mk 14 0 [] [] t2 [e],r5)
   else if aC [108,101,110] l=true then av (iT f l.tail) fun e r=> .ok (.mk 19 0 [] [] ai [e],r)
   else if aC iI l=true then av (iT f l.tail) fun e r=> .ok (.mk 20 0 [] [] ai [e],r)
   else if aC iE l=true then av (iT f l.tail) fun e r=> .ok (.mk 21 0 [] [] ai [e],r)
   else .error l) (fun f=>by rw[rl]) ?_
  have fin:∀{x:Ex} {r:List Tk},Tot false (fun _=>Except.ok (x,r)) r:=fun{x r}=>iC _ (List.suffix_refl _) fun h=>by cases h
  refine dc (fun h=>iC _ (cF l) fun _=>dZ (bI h)) fun _=>dc (fun h=>iC _ (cF l) fun _=>dZ (bI h)) fun _=>
   dc (fun h=> ?_) fun _=>dc (fun h=> ?_) fun _=>dc (fun h=> ?_) fun _=>dc (fun h=> ?_) fun _=>dc (fun h=> ?_) fun _=>AM (List.suffix_refl _)
  ·have ao:=dZ (bI h);refine jT (cF l) ao (iz (a:=true) fun _ bP=>bZ (b:=true) (sb _) fun s r2 h1 h2=> ?_);have:=gn h1;exact bZ (b:=false) (ih r2 (by omega)).args fun es r3 _ _=>fin
  ·have ao:=dZ (bI h);refine jT (cF l) ao (bZ (b:=true) (LH _) fun t r h1 h2=> ?_);have hr:=gn h1;refine dc (fun _=>bZ (b:=false) (ih r (by omega)).args fun es r2 _ _=>fin) fun _=> ?_
   refine iz (a:=true) fun _ bP=>bZ (a:=false) (b:=true) (KO (Mn _ _ _)) fun t2 r3 h3 _=> ?_
   have:=gn h3;exact bZ (b:=true) ((ih r3 (by omega)).expr 0 (by decide)) fun e r4 _ _=>iz (a:=false) fun _ _=>fin
  ·have ao:=dZ (bI h);exact jT (cF l) ao (bZ (b:=false) (ih _ ao).paren fun e r _ _=>fin)
  ·have ao:=dZ (bI h);exact jT (cF l) ao (bZ (b:=false) (ih _ ao).paren fun e r _ _=>fin)
  ·have ao:=dZ (bI h);exact jT (cF l) ao (bZ (b:=false) (ih _ ao).paren fun e r _ _=>fin)
 have MC:Tot true (fun f=>qG f l) l:=by
  refine jS (h:=fun f=>
   if mM l=3 then .ok (.mk 1 (uE l) [] [] ai [],l.tail)
   else if mM l=4 then .ok (.mk 2 (uE l) [] [] ai [],l.tail)
   else if mM l=5 then .ok (.mk 3 0 (kQ l) [] ai [],l.tail)
   else if eY l=true then av (dr l) fun s r=> .ok (.mk 6 0 s [] ai [],r)
   else if ee l=true then av (fw l) fun c r=>aW [46] r fun r2=>av (dr r2) fun s r3=>
    if aC [40] r3=true then av (kI f r3) fun es r4=> .ok (.mk 11 0 s c ai es,r4) else .ok (.mk 8 0 s c ai [],r3)
   else if aC [40] l=true then iT f l
   else rl f l) (fun f=>by rw[qG]) ?_
  have fin:∀{x:Ex} {r:List Tk},Tot false (fun _=>Except.ok (x,r)) r:=fun{x r}=>iC _ (List.suffix_refl _) fun h=>by cases h
  refine dc (fun h=>iC _ (cF l) fun _=>dZ (tH h (by decide))) fun _=>dc (fun h=>iC _ (cF l) fun _=>dZ (tH h (by decide))) fun _=>
   dc (fun h=>iC _ (cF l) fun _=>dZ (tH h (by decide))) fun _=>dc (fun h=>bZ (b:=false) (sb l) fun _ _ _ _=>fin) fun _=>
   dc (fun h=> ?_) fun _=>dc (fun _=>Ov) fun _=>rm
  refine bZ (b:=true) (wC l) fun c r h1 h2=>iz (a:=true) fun _ bP=>bZ (b:=false) (sb _) fun s r3 h3 h4=> ?_
  have q1:=gn h1;have q3:=gn h3;exact dc (fun _=>lx false (bZ (b:=false) (ih r3 (by have:=h2 rfl;omega)).args fun es r4 _ _=>fin) fun h=>by cases h) fun _=>fin
 have Ot:Tot true (fun f=>mb f l) l:=by
  refine jS (h:=fun f=>
   if aC [45] l=true then av (mb f l.tail) fun x r=> .ok (.mk 15 0 [45] [] ai [x],r)
   else if aC [33] l=true then av (mb f l.tail) fun x r=> .ok (.mk 15 0 [33] [] ai [x],r)
   else av (qG f l) fun e r=>lB f e r) (fun f=>by rw[mb]) ?_
  have fin:∀{x:Ex} {r:List Tk},Tot false (fun _=>Except.ok (x,r)) r:=fun{x r}=>iC _ (List.suffix_refl _) fun h=>by cases h
  refine dc (fun h=> ?_) fun _=>dc (fun h=> ?_) fun _=>bZ (b:=false) MC fun e r h1 h2=>(ih r (h2 rfl)).post e
  ·exact jT (cF l) (dZ (bI h)) (bZ (b:=false) (ih _ (dZ (bI h))).unary fun x r _ _=>fin)
  ·exact jT (cF l) (dZ (bI h)) (bZ (b:=false) (ih _ (dZ (bI h))).unary fun x r _ _=>fin)
 have aaj:∀k n,n+k=10->Tot true (fun f=>eQ f n l) l:=fun k=>by
  induction k with
  |zero=>
   intro n hn;exact jS (h:=fun f=>mb f l) (fun f=>by rw[eQ,aj (by omega)]) Ot
  |succ k ihk=>
   intro n hn;refine jS (h:=fun f=>av (eQ f (n+1) l) fun e r=>kY f n e r) (fun f=>by rw[eQ,ae (by omega)]) ?_;exact bZ (b:=false) (ihk (n+1) (by omega)) fun e r h1 h2=>(ih r (h2 rfl)).loop n e (by omega)
 exact⟨fun n hn=>aaj (10 - n) n (by omega),aad,Ot,Z9,rf,aab,Ov,MC,rm⟩
theorem OC:∀(N:Nat) (l:List Tk),l.length<=N->EX l
 |0,l,h=>Pg fun r hr=>by omega
 |N+1,l,h=>Pg fun r hr=>OC N r (by omega)
theorem kH (l:List Tk):EX l:=OC _ l (aq _)
/-! The answers as functions, and their equations. -/
noncomputable def cj (n:Nat) (l:List Tk):PR Ex:=jx fun f=>eQ f n l
noncomputable def vm (n:Nat) (e:Ex) (l:List Tk):PR Ex:=jx fun f=>kY f n e l
noncomputable def nW (l:List Tk):PR Ex:=jx fun f=>mb f l
noncomputable def p9 (e:Ex) (l:List Tk):PR Ex:=jx fun f=>lB f e l
noncomputable def jw (l:List Tk):PR (List Ex):=jx fun f=>kI f l
noncomputable def wV (acc:List Ex) (l:List Tk):PR (List Ex):=jx fun f=>o7 f acc l
noncomputable def gf (l:List Tk):PR Ex:=jx fun f=>iT f l
noncomputable def nI (l:List Tk):PR Ex:=jx fun f=>qG f l
noncomputable def lK (l:List Tk):PR Ex:=jx fun f=>rl f l
theorem bV {α β:Type} {g:Nat->PR α} {k:Nat->α->List Tk->PR β} {K:PR α} {k2:α->List Tk->PR β} (hg:dE g K) (hk:∀x r,dE (fun f=>k f x r) (k2 x r)):dE (fun f=>av (g f) (k f)) (av K k2):=by
 cases K with
 |error r=>exact Nq hg
 |ok p=>obtain⟨x,r⟩:=p;exact Nr hg (hk x r)
theorem nJ {α:Type} {s:List UInt8} {l:List Tk} {k:Nat->List Tk->PR α} {k2:List Tk->PR α} (hk:dE (fun f=>k f l.tail) (k2 l.tail)):dE (fun f=>aW s l (k f)) (aW s l k2):=by
 unfold aW;by_cases h:aC s l=true
 ·simp only[aj h];exact hk
 ·simp only[ae h];exact bG _
theorem dp {α:Type} {p:Prop} [Decidable p] {g h:Nat->α} {G H:α} (h1:dE g G) (h2:dE h H):dE (fun f=>if p then g f else h f) (if p then G else H):=by
 by_cases hp:p
 ·simp only[aj hp];exact h1
 ·simp only[ae hp];exact h2
theorem tM {n:Nat} (hn:n<=10) (l:List Tk):dE (fun f=>eQ f n l) (cj n l):=((kH l).expr n hn).lim
theorem Eg {n:Nat} (hn:n<=9) (e:Ex) (l:List Tk):dE (fun f=>kY f n e l) (vm n e l):=((kH l).loop n e hn).lim
theorem HF (l:List Tk):dE (fun f=>mb f l) (nW l):=(kH l).unary.lim
theorem Ef (e:Ex) (l:List Tk):dE (fun f=>lB f e l) (p9 e l):=((kH l).post e).lim
theorem A6 (l:List Tk):dE (fun f=>kI f l) (jw l):=(kH l).args.lim
theorem O2 (acc:List Ex) (l:List Tk):dE (fun f=>o7 f acc l) (wV acc l):=((kH l).more acc).lim
theorem wP (l:List Tk):dE (fun f=>iT f l) (gf l):=(kH l).paren.lim
theorem Vx (l:List Tk):dE (fun f=>qG f l) (nI l):=(kH l).operand.lim
theorem acs (l:List Tk):dE (fun f=>rl f l) (lK l):=(kH l).key.lim
theorem MI {n:Nat} (hn:n<=9) (l:List Tk):cj n l=av (cj (n+1) l) fun e r=>vm n e r:=
 jk (kB (h:=fun f=>av (eQ f (n+1) l) fun e r=>kY f n e r) (fun f=>by rw[eQ,ae (by omega)]) (bV (tM (by omega) l) fun e r=>Eg hn e r))
theorem Lp (l:List Tk):cj 10 l=nW l:=jk (kB (h:=fun f=>mb f l) (fun f=>by rw[eQ,aj rfl]) (HF l))
theorem wB {n:Nat} (hn:n<=9) (e:Ex) (l:List Tk):vm n e l=(if iF n l=true then av (cj (n+1) l.tail) fun x r=>vm n (.mk 16 0 (kQ l) [] ai [e,x]) r
  else if n=6/\aC [105,115] l=true then av (fN l.tail) fun t r=>vm n (.mk 18 0 [] [] t [e]) r
  else if n=6/\aC [97,115] l=true then av (fN l.tail) fun t r=>vm n (.mk 17 0 [] [] t [e]) r
  else .ok (e,l)):=
 jk (kB (fun f=>by rw[kY]) (dp (bV (tM (by omega) _) fun x r=>Eg hn _ r) (dp (bV (bG _) fun t r=>Eg hn _ r) (dp (bV (bG _) fun t r=>Eg hn _ r) (bG _)))))
theorem Ad (l:List Tk):nW l=(if aC [45] l=true then av (nW l.tail) fun x r=> .ok (.mk 15 0 [45] [] ai [x],r)
  else if aC [33] l=true then av (nW l.tail) fun x r=> .ok (.mk 15 0 [33] [] ai [x],r)
  else av (nI l) fun e r=>p9 e r):=
 jk (kB (fun f=>by rw[mb]) (dp (bV (HF _) fun x r=>bG _) (dp (bV (HF _) fun x r=>bG _) (bV (Vx l) fun e r=>Ef e r))))
theorem yB (e:Ex) (l:List Tk):p9 e l=(if aC [46] l=true then av (dr l.tail) fun s r=>
   if aC [40] r=true then av (jw r) fun es r2=>p9 (.mk 10 0 s [] ai (e::es)) r2
   else p9 (.mk 7 0 s [] ai [e]) r
  else if aC [91] l=true then av (cj 0 l.tail) fun i r=>aW [93] r fun r2=>p9 (.mk 9 0 [] [] ai [e,i]) r2
  else .ok (e,l)):=
 jk (kB (fun f=>by rw[lB]) (dp (bV (bG _) fun s r=>dp (bV (A6 r) fun es r2=>Ef _ r2) (Ef _ r)) (dp (bV (tM (n:=0) (by decide) _) fun i r=>nJ (Ef _ _)) (bG _))))
theorem G8 (l:List Tk):jw l=aW [40] l fun r=>if aC [41] r=true then .ok ([],r.tail) else av (cj 0 r) fun e r2=>wV [e] r2:=
 jk (kB (fun f=>by rw[kI]) (nJ (dp (bG _) (bV (tM (n:=0) (by decide) _) fun e r=>O2 _ r))))
theorem Ay (acc:List Ex) (l:List Tk):wV acc l=(if aC [44] l=true then av (cj 0 l.tail) fun e r=>wV (acc++[e]) r else aW [41] l fun r=> .ok (acc,r)):=
 jk (kB (fun f=>by rw[o7]) (dp (bV (tM (n:=0) (by decide) _) fun e r=>O2 _ r) (bG _)))
theorem Gj (l:List Tk):gf l=aW [40] l fun r=>av (cj 0 r) fun e r2=>aW [41] r2 fun r3=> .ok (e,r3):=
 jk (kB (fun f=>by rw[iT]) (by
  refine nJ ?_
  exact bV (tM (n:=0) (by decide) _) fun e r=>bG _))
theorem FH (l:List Tk):nI l=
  (if mM l=3 then .ok (.mk 1 (uE l) [] [] ai [],l.tail)
  else if mM l=4 then .ok (.mk 2 (uE l) [] [] ai [],l.tail)
  else if mM l=5 then .ok (.mk 3 0 (kQ l) [] ai [],l.tail)
  else if eY l=true then av (dr l) fun s r=> .ok (.mk 6 0 s [] ai [],r)
  else if ee l=true then av (fw l) fun c r=>aW [46] r fun r2=>av (dr r2) fun s r3=>
   if aC [40] r3=true then av (jw r3) fun es r4=> .ok (.mk 11 0 s c ai es,r4) else .ok (.mk 8 0 s c ai [],r3)
  else if aC [40] l=true then gf l
  else lK l):=
 jk (kB (fun f=>by rw[qG]) (by
  refine dp (bG _) (dp (bG _) (dp (bG _) (dp (bG _) (dp ?_ (dp (wP l) (acs l))))));refine bV (bG _) fun c r=>nJ ?_
  refine bV (bG _) fun s r3=> ?_
  exact dp (bV (A6 r3) fun es r4=>bG _) (bG _)))
theorem kV (l:List Tk):lK l=
  (if aC [110,117,108,108] l=true then .ok (.mk 4 0 [] [] ai [],l.tail)
  else if aC [116,104,105,115] l=true then .ok (.mk 5 0 [] [] ai [],l.tail)
  else if aC [115,117,112,101,114] l=true then aW [46] l.tail fun r=>av (dr r) fun s r2=>av (jw r2) fun es r3=> .ok (.mk 12 0 s [] ai es,r3)
  else if aC [110,101,119] l=true then av (jX l.tail) fun t r=>
   if t.base=76/\aC [40] r=true then av (jw r) fun es r2=> .ok (.mk 13 0 [] t.name ai es,r2)
   else aW [91] r fun r2=>av (lf r2.length t r2) fun t2 r3=>av (cj 0 r3) fun e r4=>aW [93] r4 fun r5=> .ok (.mk 14 0 [] [] t2 [e],r5)
  else if aC [108,101,110] l=true then av (gf l.tail) fun e r=> .ok (.mk 19 0 [] [] ai [e],r)
  else if aC iI l=true then av (gf l.tail) fun e r=> .ok (.mk 20 0 [] [] ai [e],r)
  else if aC iE l=true then av (gf l.tail) fun e r=> .ok (.mk 21 0 [] [] ai [e],r)
  else .error l):=
 jk (kB (fun f=>by rw[rl]) (by
  refine dp (bG _) (dp (bG _) (dp ?_ (dp ?_ (dp (bV (wP _) fun e r=>bG _) (dp (bV (wP _) fun e r=>bG _) (dp (bV (wP _) fun e r=>bG _) (bG _)))))))
  ·refine nJ ?_;exact bV (bG _) fun s r2=>bV (A6 r2) fun es r3=>bG _
  ·refine bV (bG _) fun t r=> ?_
   refine dp (bV (A6 r) fun es r2=>bG _) (nJ ?_);refine bV (bG _) fun t2 r3=> ?_
   exact bV (tM (n:=0) (by decide) r3) fun e r4=>bG _))
/-! Equal is the same. -/
def mI:List UInt8:=[105,102]
def sq:List UInt8:=[101,108,115,101]
def mQ:List UInt8:=[119,104,105,108,101]
def ox:List UInt8:=[114,101,116,117,114,110]
def oU:List UInt8:=[116,104,114,111,119]
def qd:List UInt8:=[116,114,121]
def oe:List UInt8:=[99,97,116,99,104]
def qT:List UInt8:=[115,121,110,99]
def pR:List UInt8:=[115,117,112,101,114]
def iY (l:List Tk):Bool:=if(aC iI l||aC iE l)=true then !aC [40] l.tail else ee l&& !aC [46] l.tail
mutual
def gW:Nat->List Tk->PR (List St)
 |0,l=> .error l
 |f+1,l=>aW [123] l fun r=>oV f [] r
def oV:Nat->List St->List Tk->PR (List St)
 |0,_,l=> .error l
 |f+1,acc,l=>if aC [125] l=true then .ok (acc,l.tail) else av (o4 f l) fun s r=>oV f (acc++[s]) r
def o4:Nat->List Tk->PR St
 |0,l=> .error l
 |f+1,l=>
  if aC mI l=true then av (iT f l.tail) fun e r=>av (gW f r) fun b r2=>
   if aC sq r2=true then av (gW f r2.tail) fun a r3=> .ok (.mk 4 [] ai zE e b a,r3) else .ok (.mk 4 [] ai zE e b [],r2)
  else if aC mQ l=true then av (iT f l.tail) fun e r=>av (gW f r) fun b r2=> .ok (.mk 5 [] ai zE e b [],r2)
  else if aC ox l=true then
   if aC [59] l.tail=true then .ok (.mk 6 [] ai zE zE [] [],l.tail.tail) else av (eQ f 0 l.tail) fun e r=>aW [59] r fun r2=> .ok (.mk 6 [] ai zE e [] [],r2)
  else if aC oU l=true then av (eQ f 0 l.tail) fun e r=>aW [59] r fun r2=> .ok (.mk 7 [] ai zE e [] [],r2)
  else if aC qd l=true then av (gW f l.tail) fun b r=>aW oe r fun r2=>aW [40] r2 fun r3=>av (fN r3) fun t r4=>av (dr r4) fun s r5=>aW [41] r5 fun r6=>av (gW f r6) fun a r7=> .ok (.mk 8 s t zE zE b a,r7)
  else if aC qT l=true then av (iT f l.tail) fun e r=>av (gW f r) fun b r2=> .ok (.mk 9 [] ai zE e b [],r2)
  else if aC [123] l=true then av (gW f l) fun b r=> .ok (.mk 10 [] ai zE zE b [],r)
  else if aC pR l=true/\aC [40] l.tail=true then av (kI f l.tail) fun es r=>aW [59] r fun r2=> .ok (.mk 11 [] ai zE (.mk 0 0 [] [] ai es) [] [],r2)
  else if iY l=true then av (fN l) fun t r=>av (dr r) fun s r2=>aW [61] r2 fun r3=>av (eQ f 0 r3) fun e r4=>aW [59] r4 fun r5=> .ok (.mk 1 s t zE e [] [],r5)
  else av (eQ f 0 l) fun e r=>
   if aC [61] r=true then av (eQ f 0 r.tail) fun x r2=>aW [59] r2 fun r3=> .ok (.mk 2 [] ai e x [] [],r3)
   else aW [59] r fun r2=> .ok (.mk 3 [] ai zE e [] [],r2)
end
theorem Zo {a b:BitVec 64} (h:a&&& ~~~b=0#64):a.toNat<=b.toNat:=by
 have e:a=a&&& b:=by
  apply BitVec.eq_of_getLsbD_eq
  intro i hi;have h2:=congrArg (fun x=>x.getLsbD i) h;simp only[BitVec.getLsbD_and,BitVec.getLsbD_not,hi,aF,Bool.true_and,BitVec.getLsbD_zero] at h2;rw[BitVec.getLsbD_and];cases ha:a.getLsbD i<;>cases hb:b.getLsbD i<;>simp_all
 rw[e,BitVec.toNat_and];exact Nat.and_le_right
theorem Kx {fl:Int} {al:Nat} (hI:az fl) (ha:al<=4095) (h:jv fl al=true):0<=fl/\fl<=al:=by
 have h2:(BitVec.ofInt 64 fl&&& ~~~BitVec.ofInt 64 (al:Int)).toNat=0:=by
  have ao:=(BitVec.ofInt 64 fl&&& ~~~BitVec.ofInt 64 (al:Int)).isLt;have h3:IntKind.wrap .i64 ((BitVec.ofInt 64 fl&&& ~~~BitVec.ofInt 64 (al:Int)).toNat:Int)=0:=of_decide_eq_true (p:=bits .andNot .i64 fl al=0) h;generalize (BitVec.ofInt 64 fl&&& ~~~BitVec.ofInt 64 (al:Int)).toNat=n at *
  simp [IntKind.wrap,IntKind.bits,IntKind.signed] at h3;omega
 have h4:=Zo (BitVec.eq_of_toNat_eq (by rw[h2];rfl));rw[BitVec.toNat_ofInt,BitVec.toNat_ofInt] at h4;obtain⟨i1,i2⟩:=hI;omega
def kF (fl al:Int):Bool:=decide (0<=fl)&&jv fl al
theorem Av {fl:Int} {al:Nat} (hI:az fl) (ha:al<=4095):kF fl al=jv fl al:=by
 cases h:jv fl al with
 |false=>rw[kF,h,Bool.and_false]
 |true=>rw[kF,h,bX (Kx hI ha h).1];rfl
theorem Zf {fl:Int} (hI:az fl) (h:jv fl 7=true):oS fl=kj fl/\hasB fl 1024=false:=by
 have hr:=Kx (al:=7) hI (by decide) h;have kp:∀n:Fin 8,oS (n.val:Int)=kj (n.val:Int)/\hasB (n.val:Int) 1024=false:=by decide+kernel
 have e:fl=(fl.toNat:Int):=by omega
 have:=kp ⟨fl.toNat,by omega⟩;simp only at this;rw[<- e] at this;exact this
/-! Flags. -/
def bg:List (Int×List UInt8)->Int->List Tk->Int×List Tk
 |[],fl,l=>(fl,l)
 |p::q,fl,l=>if aC p.2 l=true then bg q (fl+p.1) l.tail else bg q fl l
/-! Parameters. -/
def pU:Nat->List Pc->List Tk->PR (List Pc)
 |0,_,l=> .error l
 |f+1,acc,l=>if aC [44] l=true then av (fN l.tail) fun t r=>av (dr r) fun s r2=>pU f (acc++[⟨t,s⟩]) r2 else aW [41] l fun r=> .ok (acc,r)
def uU (f:Nat) (l:List Tk):PR (List Pc):=
 aW [40] l fun r=>if aC [41] r=true then .ok ([],r.tail) else av (fN r) fun t r2=>av (dr r2) fun s r3=>pU f [⟨t,s⟩] r3
/-! Members. -/
def zj:List UInt8:=[110,101,119]
def eT:Ty:=⟨0,86,[]⟩
def Cd.addF (d:Cd) (x:Fc):Cd:={d with fields:=d.fields++[x]}
def Cd.addM (d:Cd) (x:Md):Cd:={d with methods:=d.methods++[x]}
def Cd.addI (d:Cd) (x:List St):Cd:={d with init:=d.init++x}
def vi (f:Nat) (d:Cd) (fl:Int) (t:Ty) (s:List UInt8) (l:List Tk):PR Cd:=
 av (uU f l) fun ps r=>if aC [59] r=true then .ok (d.addM ⟨fl,t,s,ps,false,[]⟩,r.tail) else av (gW f r) fun b r2=> .ok (d.addM ⟨fl,t,s,ps,true,b⟩,r2)
def uV (f:Nat) (d:Cd) (fl:Int) (l:List Tk):PR Cd:=
 if fl=8/\aC [123] l=true then av (gW f l) fun b r=> .ok (d.addI b,r)
 else if aC zj l=true then av (uU f l.tail) fun ps r=>av (gW f r) fun b r2=> .ok (d.addM ⟨fl,eT,eH,ps,true,b⟩,r2)
 else if aC wS l=true then av (dr l.tail) fun s r=>vi f d fl eT s r
 else av (fN l) fun t r=>av (dr r) fun s r2=>if aC [59] r2=true then .ok (d.addF ⟨fl,t,s⟩,r2.tail) else vi f d fl t s r2
def o8:Nat->Cd->List Tk->PR Cd
 |0,_,l=> .error l
 |f+1,d,l=>if aC [125] l=true then .ok (d,l.tail) else av (uV f d (bg bH 0 l).1 (bg bH 0 l).2) fun e r=>o8 f e r
/-! Classes. -/
def Pr:List UInt8:=[112,117,98,108,105,99]
def Iu:List UInt8:=[102,105,110,97,108]
def BF:List UInt8:=[97,98,115,116,114,97,99,116]
def zo:List UInt8:=[105,110,116,101,114,102,97,99,101]
def gZ:List UInt8:=[101,120,116,101,110,100,115]
def lM:List UInt8:=[105,109,112,108,101,109,101,110,116,115]
def kA:List UInt8:=[99,108,97,115,115]
def fR:List (Int×List UInt8):=[(1,Pr)]
def iN:List (Int×List UInt8):=[(16,Iu),(1024,BF)]
def oZ:Nat->List (List UInt8)->List Tk->PR (List (List UInt8))
 |0,_,l=> .error l
 |f+1,acc,l=>if aC [44] l=true then av (fw l.tail) fun s r=>oZ f (acc++[s]) r else .ok (acc,l)
def vA (f:Nat) (w:List UInt8) (l:List Tk):PR (List (List UInt8)):=if aC w l=true then av (fw l.tail) fun s r=>oZ f [s] r else .ok ([],l)
def wW (f:Nat) (l:List Tk):PR Cd:=
 if aC zo (bg fR 0 l).2=true then av (fw (bg fR 0 l).2.tail) fun n r=>av (vA f gZ r) fun is r2=>aW [123] r2 fun r3=> .ok (⟨(bg fR 0 l).1+1536,n,ld,is,[],[],[]⟩,r3)
 else aW kA (bg iN (bg fR 0 l).1 (bg fR 0 l).2).2 fun r=>av (fw r) fun n r2=>aW gZ r2 fun r3=>av (fw r3) fun sp r4=>av (vA f lM r4) fun is r5=>aW [123] r5 fun r6=>
  .ok (⟨(bg iN (bg fR 0 l).1 (bg fR 0 l).2).1,n,sp,is,[],[],[]⟩,r6)
def Cx (f:Nat) (l:List Tk):PR Cd:=av (wW f l) fun d r=>o8 f d r
def p8:Nat->List Cd->List Tk->PR (List Cd)
 |0,_,l=> .error l
 |f+1,acc,l=>if l=[] then .ok (acc,[]) else av (Cx f l) fun d r=>p8 f (acc++[d]) r
structure SXs (l:List Tk):Prop where
 block:Tot true (fun f=>gW f l) l
 stmt:Tot true (fun f=>o4 f l) l
 stmts:∀acc,Tot true (fun f=>oV f acc l) l
theorem jE {α:Type} {x:α} {r:List Tk}:Tot false (fun _=>Except.ok (x,r)) r:=iC _ (List.suffix_refl _) fun h=>by cases h
theorem AN (l:List Tk):Tot true (fun f=>eQ f 0 l) l:=(kH l).expr 0 (by decide)
theorem OQ {l:List Tk} (ih:∀r:List Tk,r.length<l.length->SXs r):SXs l:=by
 have Oy:Tot true (fun f=>gW f l) l:=by
  refine jS (h:=fun f=>aW [123] l fun r=>oV f [] r) (fun f=>by rw[gW]) ?_;exact iz (a:=true) fun _ ao=>(ih _ ao).stmts _
 have I0:∀(l2:List Tk) (k:Nat->Ex->List St->List Tk->PR St),l2.length<l.length->(∀e b r,r.length<l.length->Tot false (fun f=>k f e b r) r)->Tot true (fun f=>av (iT f l2) fun e r=>av (gW f r) fun b r2=>k f e b r2) l2:=fun l2 k h1 h2=>
  bZ (b:=true) (kH l2).paren fun e r _ h3=>by
   have:=h3 rfl;exact lx true (bZ (b:=false) (ih r (by omega)).block fun b r2 h4 _=>h2 e b r2 (by have q:=gn h4;omega)) fun _=>rfl
 have O7:Tot true (fun f=>o4 f l) l:=by
  refine jS (h:=fun f=>
   if aC mI l=true then av (iT f l.tail) fun e r=>av (gW f r) fun b r2=>
    if aC sq r2=true then av (gW f r2.tail) fun a r3=> .ok (.mk 4 [] ai zE e b a,r3) else .ok (.mk 4 [] ai zE e b [],r2)
   else if aC mQ l=true then av (iT f l.tail) fun e r=>av (gW f r) fun b r2=> .ok (.mk 5 [] ai zE e b [],r2)
   else if aC ox l=true then
    if aC [59] l.tail=true then .ok (.mk 6 [] ai zE zE [] [],l.tail.tail) else av (eQ f 0 l.tail) fun e r=>aW [59] r fun r2=> .ok (.mk 6 [] ai zE e [] [],r2)
   else if aC oU l=true then av (eQ f 0 l.tail) fun e r=>aW [59] r fun r2=> .ok (.mk 7 [] ai zE e [] [],r2)
   else if aC qd l=true then av (gW f l.tail) fun b r=>aW oe r fun r2=>aW [40] r2 fun r3=>av (fN r3) fun t r4=>av (dr r4) fun s r5=>aW [41] r5 fun r6=>av (gW f r6) fun a r7=> .ok (.mk 8 s t zE zE b a,r7)
   else if aC qT l=true then av (iT f l.tail) fun e r=>av (gW f r) fun b r2=> .ok (.mk 9 [] ai zE e b [],r2)
   else if aC [123] l=true then av (gW f l) fun b r=> .ok (.mk 10 [] ai zE zE b [],r)
   else if aC pR l=true/\aC [40] l.tail=true then av (kI f l.tail) fun es r=>aW [59] r fun r2=> .ok (.mk 11 [] ai zE (.mk 0 0 [] [] ai es) [] [],r2)
   else if iY l=true then av (fN l) fun t r=>av (dr r) fun s r2=>aW [61] r2 fun r3=>av (eQ f 0 r3) fun e r4=>aW [59] r4 fun r5=> .ok (.mk 1 s t zE e [] [],r5)
   else av (eQ f 0 l) fun e r=>
    if aC [61] r=true then av (eQ f 0 r.tail) fun x r2=>aW [59] r2 fun r3=> .ok (.mk 2 [] ai e x [] [],r3)
    else aW [59] r fun r2=> .ok (.mk 3 [] ai zE e [] [],r2)) (fun f=>by rw[o4]) ?_
  refine dc (fun h=> ?_) fun _=>dc (fun h=> ?_) fun _=>dc (fun h=> ?_) fun _=>dc (fun h=> ?_) fun _=>dc (fun h=> ?_) fun _=>dc (fun h=> ?_) fun _=>
   dc (fun h=> ?_) fun _=>dc (fun h=> ?_) fun _=>dc (fun h=> ?_) fun _=> ?_
  ·have ao:=dZ (bI h);refine jT (cF l) ao (I0 l.tail _ ao fun e b r hr=> ?_);exact dc (fun h2=>qP (cF r) (lx false (bZ (b:=false) (ih _ (by have:=dZ (bI h2);omega)).block fun a r3 _ _=>jE) fun h=>by cases h)) fun _=>jE
  ·have ao:=dZ (bI h);exact jT (cF l) ao (I0 l.tail _ ao fun e b r hr=>jE)
  ·have ao:=dZ (bI h);refine dc (fun h2=>iC _ ((cF _).trans (cF l)) fun _=>by have:=gn (cF l.tail);omega) fun _=> ?_
   exact jT (cF l) ao (bZ (b:=true) (AN _) fun e r _ _=>iz (a:=false) fun _ _=>jE)
  ·have ao:=dZ (bI h);exact jT (cF l) ao (bZ (b:=true) (AN _) fun e r _ _=>iz (a:=false) fun _ _=>jE)
  ·have ao:=dZ (bI h);refine jT (cF l) ao (bZ (b:=true) (ih _ ao).block fun b r h1 _=> ?_);have q1:=gn h1;refine iz (a:=true) fun _ qs=>iz (a:=true) fun _ bP=>bZ (b:=true) (uR _) fun t r4 h2 _=> ?_
   have q2:=gn h2;refine bZ (b:=true) (sb _) fun s r5 h3 _=> ?_
   have q3:=gn h3;refine iz (a:=true) fun _ hl3=> ?_
   exact bZ (b:=false) (ih _ (by omega)).block fun a r7 _ _=>jE
  ·have ao:=dZ (bI h);exact jT (cF l) ao (I0 l.tail _ ao fun e b r hr=>jE)
  ·exact bZ (b:=false) Oy fun b r _ _=>jE
  ·have ao:=dZ (bI h.1);exact jT (cF l) ao (bZ (b:=true) (kH _).args fun es r _ _=>iz (a:=false) fun _ _=>jE)
  ·refine bZ (b:=true) (uR l) fun t r _ _=>bZ (b:=true) (sb r) fun s r2 _ _=>iz (a:=true) fun _ _=>bZ (b:=true) (AN _) fun e r4 _ _=>iz (a:=false) fun _ _=>jE
  ·refine bZ (b:=true) (AN l) fun e r _ _=>dc (fun h=> ?_) fun _=>iz (a:=false) fun _ _=>jE
   exact jT (cF r) (dZ (bI h)) (bZ (b:=true) (AN _) fun x r2 _ _=>iz (a:=false) fun _ _=>jE)
 have YV:∀acc,Tot true (fun f=>oV f acc l) l:=fun acc=>by
  refine jS (h:=fun f=>if aC [125] l=true then .ok (acc,l.tail) else av (o4 f l) fun s r=>oV f (acc++[s]) r) (fun f=>by rw[oV]) ?_;refine dc (fun h=>iC _ (cF l) fun _=>dZ (bI h)) fun _=> ?_
  exact bZ (b:=true) O7 fun s r h1 h2=>(ih r (h2 rfl)).stmts _
 exact⟨Oy,O7,YV⟩
theorem NZ:∀(N:Nat) (l:List Tk),l.length<=N->SXs l
 |0,l,h=>OQ fun r hr=>by omega
 |N+1,l,h=>OQ fun r hr=>NZ N r (by omega)
theorem pQ (l:List Tk):SXs l:=NZ _ l (aq _)
noncomputable def fE (l:List Tk):PR (List St):=jx fun f=>gW f l
noncomputable def pY (l:List Tk):PR St:=jx fun f=>o4 f l
noncomputable def yO (acc:List St) (l:List Tk):PR (List St):=jx fun f=>oV f acc l
theorem se (l:List Tk):dE (fun f=>gW f l) (fE l):=(pQ l).block.lim
theorem OZ (l:List Tk):dE (fun f=>o4 f l) (pY l):=(pQ l).stmt.lim
theorem Oc (acc:List St) (l:List Tk):dE (fun f=>oV f acc l) (yO acc l):=((pQ l).stmts acc).lim
theorem le0 (l:List Tk):dE (fun f=>eQ f 0 l) (cj 0 l):=tM (n:=0) (by decide) l
theorem LB (l:List Tk):fE l=aW [123] l fun r=>yO [] r:=
 jk (kB (fun f=>by rw[gW]) (nJ (Oc _ _)))
theorem F7 (acc:List St) (l:List Tk):yO acc l=(if aC [125] l=true then .ok (acc,l.tail) else av (pY l) fun s r=>yO (acc++[s]) r):=
 jk (kB (fun f=>by rw[oV]) (dp (bG _) (bV (OZ l) fun s r=>Oc _ _)))
theorem oP (l:List Tk):pY l=
  (if aC mI l=true then av (gf l.tail) fun e r=>av (fE r) fun b r2=>
   if aC sq r2=true then av (fE r2.tail) fun a r3=> .ok (.mk 4 [] ai zE e b a,r3) else .ok (.mk 4 [] ai zE e b [],r2)
  else if aC mQ l=true then av (gf l.tail) fun e r=>av (fE r) fun b r2=> .ok (.mk 5 [] ai zE e b [],r2)
  else if aC ox l=true then
   if aC [59] l.tail=true then .ok (.mk 6 [] ai zE zE [] [],l.tail.tail) else av (cj 0 l.tail) fun e r=>aW [59] r fun r2=> .ok (.mk 6 [] ai zE e [] [],r2)
  else if aC oU l=true then av (cj 0 l.tail) fun e r=>aW [59] r fun r2=> .ok (.mk 7 [] ai zE e [] [],r2)
  else if aC qd l=true then av (fE l.tail) fun b r=>aW oe r fun r2=>aW [40] r2 fun r3=>av (fN r3) fun t r4=>av (dr r4) fun s r5=>aW [41] r5 fun r6=>av (fE r6) fun a r7=> .ok (.mk 8 s t zE zE b a,r7)
  else if aC qT l=true then av (gf l.tail) fun e r=>av (fE r) fun b r2=> .ok (.mk 9 [] ai zE e b [],r2)
  else if aC [123] l=true then av (fE l) fun b r=> .ok (.mk 10 [] ai zE zE b [],r)
  else if aC pR l=true/\aC [40] l.tail=true then av (jw l.tail) fun es r=>aW [59] r fun r2=> .ok (.mk 11 [] ai zE (.mk 0 0 [] [] ai es) [] [],r2)
  else if iY l=true then av (fN l) fun t r=>av (dr r) fun s r2=>aW [61] r2 fun r3=>av (cj 0 r3) fun e r4=>aW [59] r4 fun r5=> .ok (.mk 1 s t zE e [] [],r5)
  else av (cj 0 l) fun e r=>
   if aC [61] r=true then av (cj 0 r.tail) fun x r2=>aW [59] r2 fun r3=> .ok (.mk 2 [] ai e x [] [],r3)
   else aW [59] r fun r2=> .ok (.mk 3 [] ai zE e [] [],r2)):=
 jk (kB (fun f=>by rw[o4]) (by
  refine dp ?_ (dp ?_ (dp (dp (bG _) ?_) (dp ?_ (dp ?_ (dp ?_ (dp ?_ (dp ?_ (dp ?_ ?_))))))))
  ·refine bV (wP _) fun e r=>bV (se _) fun b r2=> ?_
   exact dp (bV (se _) fun a r3=>bG _) (bG _)
  ·exact bV (wP _) fun e r=>bV (se _) fun b r2=>bG _
  ·exact bV (le0 _) fun e r=>bG _
  ·exact bV (le0 _) fun e r=>bG _
  ·refine bV (se _) fun b r=>nJ (nJ ?_)
   refine bV (bG _) fun t r4=> ?_
   refine bV (bG _) fun s r5=>nJ ?_
   exact bV (se _) fun a r7=>bG _
  ·exact bV (wP _) fun e r=>bV (se _) fun b r2=>bG _
  ·exact bV (se _) fun b r=>bG _
  ·exact bV (A6 _) fun es r=>bG _
  ·refine bV (bG _) fun t r=> ?_
   refine bV (bG _) fun s r2=>nJ ?_
   exact bV (le0 _) fun e r4=>bG _
  ·refine bV (le0 _) fun e r=> ?_
   exact dp (bV (le0 _) fun x r2=>bG _) (bG _)))
/-! Parameters, members, classes. -/
theorem K4:∀(N:Nat) (acc:List Pc) (l:List Tk),l.length<=N->Tot true (fun f=>pU f acc l) l:=fun N=>by
 induction N with
 |zero=>
  intro acc l h;have hl:l=[]:=List.length_eq_zero_iff.1 (by omega);subst hl;refine jS (h:=fun _=> .error []) (fun f=>by rw[pU];rfl) (AM (List.suffix_refl _))
 |succ N ih=>
  intro acc l h;refine jS (h:=fun f=>if aC [44] l=true then av (fN l.tail) fun t r=>av (dr r) fun s r2=>pU f (acc++[⟨t,s⟩]) r2 else aW [41] l fun r=> .ok (acc,r)) (fun f=>by rw[pU]) ?_;refine dc (fun hp=> ?_) fun _=>iz (a:=false) fun _ _=>jE
  have ao:=dZ (bI hp);refine jT (cF l) ao (bZ (b:=true) (uR _) fun t r h1 _=> ?_);have q1:=gn h1;refine bZ (b:=true) (sb _) fun s r2 h2 _=> ?_
  have q2:=gn h2;exact ih _ r2 (by omega)
noncomputable def yP (acc:List Pc) (l:List Tk):PR (List Pc):=jx fun f=>pU f acc l
theorem Od (acc:List Pc) (l:List Tk):dE (fun f=>pU f acc l) (yP acc l):=(K4 _ acc l (aq _)).lim
theorem Gf (acc:List Pc) (l:List Tk):yP acc l=(if aC [44] l=true then av (fN l.tail) fun t r=>av (dr r) fun s r2=>yP (acc++[⟨t,s⟩]) r2 else aW [41] l fun r=> .ok (acc,r)):=
 jk (kB (fun f=>by rw[pU]) (by
  refine dp ?_ (bG _);refine bV (bG _) fun t r=> ?_
  exact bV (bG _) fun s r2=>Od _ _))
theorem FZ (l:List Tk):Tot true (fun f=>uU f l) l:=by
 unfold uU;refine iz (a:=false) fun _ _=>dc (fun _=>iC _ (cF _) fun h=>by cases h) fun _=> ?_
 refine lx false (bZ (b:=true) (uR _) fun t r _ _=>bZ (b:=true) (sb _) fun s r3 _ _=>K4 _ _ r3 (aq _)) fun h=>by cases h
noncomputable def mP (l:List Tk):PR (List Pc):=aW [40] l fun r=>if aC [41] r=true then .ok ([],r.tail) else av (fN r) fun t r2=>av (dr r2) fun s r3=>yP [⟨t,s⟩] r3
theorem lparams (l:List Tk):dE (fun f=>uU f l) (mP l):=by
 unfold uU mP;refine nJ (dp (bG _) ?_);refine bV (bG _) fun t r=> ?_
 exact bV (bG _) fun s r3=>Od _ _
noncomputable def og (d:Cd) (fl:Int) (t:Ty) (s:List UInt8) (l:List Tk):PR Cd:=
 av (mP l) fun ps r=>if aC [59] r=true then .ok (d.addM ⟨fl,t,s,ps,false,[]⟩,r.tail) else av (fE r) fun b r2=> .ok (d.addM ⟨fl,t,s,ps,true,b⟩,r2)
noncomputable def fA (d:Cd) (fl:Int) (l:List Tk):PR Cd:=
 if fl=8/\aC [123] l=true then av (fE l) fun b r=> .ok (d.addI b,r)
 else if aC zj l=true then av (mP l.tail) fun ps r=>av (fE r) fun b r2=> .ok (d.addM ⟨fl,eT,eH,ps,true,b⟩,r2)
 else if aC wS l=true then av (dr l.tail) fun s r=>og d fl eT s r
 else av (fN l) fun t r=>av (dr r) fun s r2=>if aC [59] r2=true then .ok (d.addF ⟨fl,t,s⟩,r2.tail) else og d fl t s r2
theorem O0 (d:Cd) (fl:Int) (t:Ty) (s:List UInt8) (l:List Tk):dE (fun f=>vi f d fl t s l) (og d fl t s l):=by
 unfold vi og;refine bV (lparams _) fun ps r=>dp (bG _) ?_
 exact bV (se _) fun b r2=>bG _
theorem No (d:Cd) (fl:Int) (l:List Tk):dE (fun f=>uV f d fl l) (fA d fl l):=by
 unfold uV fA;refine dp (bV (se _) fun b r=>bG _) (dp ?_ (dp ?_ ?_))
 ·exact bV (lparams _) fun ps r=>bV (se _) fun b r2=>bG _
 ·exact bV (bG _) fun s r=>O0 _ _ _ _ _
 ·refine bV (bG _) fun t r=> ?_
  refine bV (bG _) fun s r2=> ?_
  exact dp (bG _) (O0 _ _ _ _ _)
theorem LU (d:Cd) (fl:Int) (t:Ty) (s:List UInt8) (l:List Tk):Tot true (fun f=>vi f d fl t s l) l:=by
 unfold vi;refine bZ (b:=false) (FZ _) fun ps r _ _=>dc (fun _=>iC _ (cF _) fun h=>by cases h) fun _=> ?_
 exact lx false (bZ (b:=false) (pQ r).block fun b r2 _ _=>jE) fun h=>by cases h
theorem Kz (d:Cd) (fl:Int) (l:List Tk):Tot true (fun f=>uV f d fl l) l:=by
 unfold uV;refine dc (fun _=>bZ (b:=false) (pQ l).block fun b r _ _=>jE) fun _=>dc (fun h=> ?_) fun _=>dc (fun h=> ?_) fun _=> ?_
 ·exact jT (cF l) (dZ (bI h)) (bZ (b:=true) (FZ _) fun ps r _ _=>bZ (b:=false) (pQ r).block fun b r2 _ _=>jE)
 ·exact jT (cF l) (dZ (bI h)) (bZ (b:=true) (sb _) fun s r _ _=>LU _ _ _ _ _)
 ·refine bZ (b:=true) (uR _) fun t r _ _=>bZ (b:=false) (sb _) fun s r2 _ _=> ?_
  exact dc (fun _=>iC _ (cF _) fun h=>by cases h) fun _=>lx false (LU _ _ _ _ _) fun h=>by cases h
theorem tm:∀(q:List (Int×List UInt8)) (fl:Int) (l:List Tk),(bg q fl l).2<:+l
 |[],fl,l=>List.suffix_refl _
 |p::q,fl,l=>by
  rw[bg];split
  ·exact(tm q _ _).trans (cF l)
  ·exact tm q _ _
theorem Mp:∀(N:Nat) (d:Cd) (l:List Tk),l.length<=N->Tot true (fun f=>o8 f d l) l:=fun N=>by
 have step:∀(d:Cd) (l:List Tk),(∀e (r:List Tk),r.length<l.length->Tot true (fun f=>o8 f e r) r)->Tot true (fun f=>o8 f d l) l:=fun d l ih=>by
  refine jS (h:=fun f=>if aC [125] l=true then .ok (d,l.tail) else av (uV f d (bg bH 0 l).1 (bg bH 0 l).2) fun e r=>o8 f e r) (fun f=>by rw[o8]) ?_;refine dc (fun h=>iC _ (cF l) fun _=>dZ (bI h)) fun _=> ?_
  have hs:=tm bH 0 l;have q:=gn hs;exact qP hs (bZ (b:=true) (Kz _ _ _) fun e r _ h2=>ih e r (by have:=h2 rfl;omega))
 induction N with
 |zero=>intro d l h;exact step d l fun e r hr=>by omega
 |succ N ih=>intro d l h;exact step d l fun e r hr=>ih e r (by omega)
noncomputable def yW (d:Cd) (l:List Tk):PR Cd:=jx fun f=>o8 f d l
theorem O3 (d:Cd) (l:List Tk):dE (fun f=>o8 f d l) (yW d l):=(Mp _ d l (aq _)).lim
theorem Di (d:Cd) (l:List Tk):yW d l=(if aC [125] l=true then .ok (d,l.tail) else av (fA d (bg bH 0 l).1 (bg bH 0 l).2) fun e r=>yW e r):=
 jk (kB (fun f=>by rw[o8]) (dp (bG _) (bV (No _ _ _) fun e r=>O3 _ _)))
theorem Lx:∀(N:Nat) (acc:List (List UInt8)) (l:List Tk),l.length<=N->Tot false (fun f=>oZ f acc l) l:=fun N=>by
 have step:∀(acc:List (List UInt8)) (l:List Tk),(∀a (r:List Tk),r.length<l.length->Tot false (fun f=>oZ f a r) r)->Tot false (fun f=>oZ f acc l) l:=fun acc l ih=>by
  refine jS (h:=fun f=>if aC [44] l=true then av (fw l.tail) fun s r=>oZ f (acc++[s]) r else .ok (acc,l)) (fun f=>by rw[oZ]) ?_;refine dc (fun h=> ?_) fun _=>jE
  have ao:=dZ (bI h);exact qP (cF l) (lx false (bZ (b:=false) (wC _) fun s r h1 _=>ih _ r (by have:=gn h1;omega)) fun h=>by cases h)
 induction N with
 |zero=>intro acc l h;exact step acc l fun a r hr=>by omega
 |succ N ih=>intro acc l h;exact step acc l fun a r hr=>ih a r (by omega)
noncomputable def wQ (acc:List (List UInt8)) (l:List Tk):PR (List (List UInt8)):=jx fun f=>oZ f acc l
theorem Og (acc:List (List UInt8)) (l:List Tk):dE (fun f=>oZ f acc l) (wQ acc l):=(Lx _ acc l (aq _)).lim
theorem Gy (acc:List (List UInt8)) (l:List Tk):wQ acc l=(if aC [44] l=true then av (fw l.tail) fun s r=>wQ (acc++[s]) r else .ok (acc,l)):=
 jk (kB (fun f=>by rw[oZ]) (by
  refine dp ?_ (bG _)
  exact bV (bG _) fun s r=>Og _ _))
noncomputable def gY (w:List UInt8) (l:List Tk):PR (List (List UInt8)):=if aC w l=true then av (fw l.tail) fun s r=>wQ [s] r else .ok ([],l)
theorem Pw (w:List UInt8) (l:List Tk):dE (fun f=>vA f w l) (gY w l):=by
 unfold vA gY;refine dp ?_ (bG _);exact bV (bG _) fun s r=>Og _ _
theorem Ny (w:List UInt8) (l:List Tk):Tot false (fun f=>vA f w l) l:=by
 unfold vA;refine dc (fun h=> ?_) fun _=>jE
 exact qP (cF l) (lx false (bZ (b:=false) (wC _) fun s r _ _=>Lx _ _ r (aq _)) fun h=>by cases h)
noncomputable def kZ (l:List Tk):PR Cd:=
 if aC zo (bg fR 0 l).2=true then av (fw (bg fR 0 l).2.tail) fun n r=>av (gY gZ r) fun is r2=>aW [123] r2 fun r3=> .ok (⟨(bg fR 0 l).1+1536,n,ld,is,[],[],[]⟩,r3)
 else aW kA (bg iN (bg fR 0 l).1 (bg fR 0 l).2).2 fun r=>av (fw r) fun n r2=>aW gZ r2 fun r3=>av (fw r3) fun sp r4=>av (gY lM r4) fun is r5=>aW [123] r5 fun r6=>
  .ok (⟨(bg iN (bg fR 0 l).1 (bg fR 0 l).2).1,n,sp,is,[],[],[]⟩,r6)
theorem ZV (l:List Tk):dE (fun f=>wW f l) (kZ l):=by
 unfold wW kZ;refine dp ?_ (nJ ?_)
 ·refine bV (bG _) fun n r=> ?_
  exact bV (Pw _ _) fun is r2=>bG _
 ·refine bV (bG _) fun n r2=>nJ ?_
  refine bV (bG _) fun sp r4=> ?_
  exact bV (Pw _ _) fun is r5=>bG _
theorem VF (l:List Tk):Tot true (fun f=>wW f l) l:=by
 unfold wW;have s1:=tm fR 0 l;have s2:=(tm iN (bg fR 0 l).1 (bg fR 0 l).2).trans s1;refine dc (fun h=>qP s1 ?_) fun _=>qP s2 ?_
 ·exact jT (cF _) (dZ (bI h)) (bZ (b:=true) (wC _) fun n r _ _=>bZ (a:=false) (b:=true) (Ny _ _) fun is r2 _ _=>iz (a:=false) fun _ _=>jE)
 ·exact iz (a:=true) fun _ _=>bZ (b:=true) (wC _) fun n r2 _ _=>iz (a:=true) fun _ _=>bZ (b:=true) (wC _) fun sp r4 _ _=>bZ (a:=false) (b:=true) (Ny _ _) fun is r5 _ _=>iz (a:=false) fun _ _=>jE
noncomputable def wo (l:List Tk):PR Cd:=av (kZ l) fun d r=>yW d r
theorem Qa (l:List Tk):dE (fun f=>Cx f l) (wo l):=bV (ZV l) fun d r=>O3 d r
theorem OI (l:List Tk):Tot true (fun f=>Cx f l) l:=bZ (b:=true) (VF l) fun d r _ _=>Mp _ d r (aq _)
theorem Vq:∀(N:Nat) (acc:List Cd) (l:List Tk),l.length<=N->Tot false (fun f=>p8 f acc l) l:=fun N=>by
 have step:∀(acc:List Cd) (l:List Tk),(∀a (r:List Tk),r.length<l.length->Tot false (fun f=>p8 f a r) r)->Tot false (fun f=>p8 f acc l) l:=fun acc l ih=>by
  refine jS (h:=fun f=>if l=[] then .ok (acc,[]) else av (Cx f l) fun d r=>p8 f (acc++[d]) r) (fun f=>by rw[p8]) ?_;refine dc (fun h=>iC _ (by rw[h];exact List.suffix_refl _) fun h=>by cases h) fun _=> ?_
  exact lx false (bZ (b:=false) (OI l) fun d r _ h2=>ih _ r (h2 rfl)) fun h=>by cases h
 induction N with
 |zero=>intro acc l h;exact step acc l fun a r hr=>by omega
 |succ N ih=>intro acc l h;exact step acc l fun a r hr=>ih a r (by omega)
noncomputable def lA (acc:List Cd) (l:List Tk):PR (List Cd):=jx fun f=>p8 f acc l
theorem O1 (acc:List Cd) (l:List Tk):dE (fun f=>p8 f acc l) (lA acc l):=(Vq _ acc l (aq _)).lim
theorem Aw (acc:List Cd) (l:List Tk):lA acc l=(if l=[] then .ok (acc,[]) else av (wo l) fun d r=>lA (acc++[d]) r):=
 jk (kB (fun f=>by rw[p8]) (dp (bG _) (bV (Qa l) fun d r=>O1 _ _)))
theorem D6 (ts:List Tk) (i:Nat):aO ts i=(ts.drop i).headD zT:=by
 rw[aO,List.getD_eq_getElem?_getD,List.headD_eq_head?_getD,List.head?_drop]
theorem nQ (ts:List Tk) (i:Nat):mM (ts.drop i)=(aO ts i).k:=by
 rw[D6];cases ts.drop i<;>rfl
theorem kf (ts:List Tk) (i:Nat):kQ (ts.drop i)=(aO ts i).s:=by
 rw[D6];cases ts.drop i<;>rfl
theorem ND (ts:List Tk) (i:Nat):uE (ts.drop i)=(aO ts i).n:=by
 rw[D6];cases ts.drop i<;>rfl
theorem ar (ts:List Tk) (i:Nat) (w:List UInt8):ah ts i w=aC w (ts.drop i):=by
 rw[ah,D6];cases ts.drop i with
 |nil=>simp [zT,aC]
 |cons t r=>rfl
def pw (en:Int):List Tk->Int
 |[]=>en
 |t::_=>t.at_
structure Inv (ts:List Tk) (s:PSt):Prop where
 le:s.i<=ts.length
 fl:s.fl=true->s.i=ts.length
structure Res {α:Type} (ts:List Tk) (en:Int) (s:PSt) (K:PR α) (a:α) (s' :PSt):Prop where
 inv:Inv ts s'
 mono:s.i<=s'.i
 fl:s.fl=true->s' =s
 ok:s.fl=false->∀x r,K= .ok (x,r)->a=x/\s'.fl=false/\r=ts.drop s'.i
 er:s.fl=false->∀r,K= .error r->s'.fl=true/\s'.off=pw en r
def aU (ts:List Tk) (en:Int) (s:PSt) (w:List UInt8):PSt:=if ah ts s.i w=true then s.next else jV ts en s
section
variable {ts:List Tk} {en:Int} {s s1 s' :PSt} {α β:Type}
theorem wI {i:Nat} (h:ts.length<=i):aO ts i=zT:=by rw[aO,List.getD_eq_getElem?_getD,List.getElem?_eq_none h];rfl
theorem AJ {i:Nat} (h:i<ts.length):aO ts i=ts[i]:=by rw[aO,List.getD_eq_getElem?_getD,List.getElem?_eq_getElem h];rfl
theorem Inv.nfl (h:Inv ts s) (hi:s.i<ts.length):s.fl=false:=by
 cases e:s.fl with
 |false=>rfl
 |true=>have:=h.fl e;omega
theorem Inv.next (h:Inv ts s) (hi:s.i<ts.length):Inv ts s.next:=⟨hi,fun e=>by
 have:=h.nfl hi;have e:s.fl=true:=e
 rw[this] at e;cases e⟩
theorem Lj (h:Inv ts s):Inv ts (jV ts en s):=by
 unfold jV;split
 ·exact h
 ·exact⟨aq _,fun _=>rfl⟩
theorem G1 (h:Inv ts s):s.i<=(jV ts en s).i:=by
 unfold jV;split
 ·exact aq _
 ·exact h.le
theorem Az (s:PSt):(jV ts en s).fl=true:=by
 unfold jV;split
 ·assumption
 ·rfl
theorem KD (h:s.fl=true):jV ts en s=s:=by rw[jV,aj h]
theorem Lo (h:s.fl=false):(jV ts en s).off=pw en (ts.drop s.i):=by
 rw[jV,ae (by rw[h];decide)];show(if _ then _ else _)=_;split
 ·rename_i hi;rw[AJ hi,List.drop_eq_getElem_cons hi];rfl
 ·rename_i hi;rw[List.drop_eq_nil_of_le (by omega)];rfl
theorem bY (a:α) (hs:Inv ts s):Res ts en s (.ok (a,ts.drop s.i)) a s:=
 ⟨hs,aq _,fun _=>rfl,fun h x r e=>by cases e;exact⟨rfl,h,rfl⟩,fun _ r e=>by cases e⟩
theorem Dg (a:α) (hs:Inv ts s):Res ts en s (.error (ts.drop s.i)) a (jV ts en s):=
 ⟨Lj hs,G1 hs,KD,fun _ x r e=>by(cases e),fun h r e=>by cases e;exact⟨Az s,Lo h⟩⟩
theorem aR {K1:PR α} {K2:α->List Tk->PR β} {a:α} {b:β} (h1:Res ts en s K1 a s1) (h2:Res ts en s1 (K2 a (ts.drop s1.i)) b s'):Res ts en s (av K1 K2) b s' :=by
 refine⟨h2.inv,cR h1.mono h2.mono,fun h=> ?_,fun h x r e=> ?_,fun h r e=> ?_⟩
 ·have:=h1.fl h;subst this;exact h2.fl h
 ·cases hK:K1 with
  |error r1=>rw[hK] at e;cases e
  |ok p=>
   obtain⟨x1,r1⟩:=p;obtain⟨rfl,q2,rfl⟩:=h1.ok h x1 r1 hK;rw[hK] at e;exact h2.ok q2 x r e
 ·cases hK:K1 with
  |error r1=>
   rw[hK] at e;cases e;obtain⟨q1,q2⟩:=h1.er h _ hK;have:=h2.fl q1;subst this;exact⟨q1,q2⟩
  |ok p=>
   obtain⟨x1,r1⟩:=p;obtain⟨rfl,q2,rfl⟩:=h1.ok h x1 r1 hK;rw[hK] at e;exact h2.er q2 r e
theorem ff {w:List UInt8} (h:Inv ts s):Inv ts (aU ts en s w):=by
 unfold aU;split
 ·rename_i e;exact h.next (aJ e)
 ·exact Lj h
theorem gC {w:List UInt8} (h:Inv ts s):s.i<=(aU ts en s w).i:=by
 unfold aU;split
 ·exact Nat.le_succ _
 ·exact G1 h
theorem bO {K:PR α} {a:α} (hs:Inv ts s) (hi:s.i<ts.length) (h:Res ts en s.next K a s'):Res ts en s K a s' :=by
 have hf:=hs.nfl hi;exact⟨h.inv,cR (Nat.le_succ _) h.mono,fun e=>(by rw[hf] at e;cases e),fun e=>h.ok e,fun e=>h.er e⟩
theorem bD (ts:List Tk) (s:PSt):ts.drop s.next.i=(ts.drop s.i).tail:=by
 rw[List.tail_drop];rfl
theorem WM {k:List Tk->PR α} {a:α} (hs:Inv ts s) (hi:s.i<ts.length) (h:Res ts en s.next (k (ts.drop s.next.i)) a s'):Res ts en s (k (ts.drop s.i).tail) a s' :=by
 rw[<- bD];exact bO hs hi h
theorem dI {k:List Tk->PR α} {a:α} {w:List UInt8} (hs:Inv ts s) (h:Res ts en (aU ts en s w) (k (ts.drop (aU ts en s w).i)) a s'):Res ts en s (aW w (ts.drop s.i) k) a s' :=by
 unfold aW;rw[<- ar];unfold aU at h;by_cases hc:ah ts s.i w=true
 ·rw[aj hc] at h ⊢;exact WM hs (aJ hc) h
 ·rw[ae hc] at h ⊢;refine⟨h.inv,cR (G1 hs) h.mono,fun e=> ?_,fun _ x r e=>by(cases e),fun e r e2=> ?_⟩
  ·rw[KD e] at h;exact h.fl e
  ·cases e2;have:=h.fl (Az s);rw[this];exact⟨Az s,Lo e⟩
end
end Go.Proofs.YtimddhkipjedcaaGreatDoor.E

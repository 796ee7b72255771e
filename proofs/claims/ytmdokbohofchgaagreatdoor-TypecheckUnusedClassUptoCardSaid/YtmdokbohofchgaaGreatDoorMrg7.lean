/- Several texts in one. -/
import Derived.Test.YtmdokbohofchgaaGreatDoorRows
import Derived.Test.YtmdokbohofchgaaGreatDoorCards
import Derived.Test.YtmdokbohofchgaaGreatDoorTie
import Derived.ProofKit
import Derived.OpenShut
import Derived.LaidMore
import Derived.Lay
import Derived.SevenTiedAt
import Derived.Stop.Joined
import Derived.Stop.LaidErr
import Derived.Lib.LaidTab
import Derived.Shelf.Vars
import Derived.Deep.Slices
import Derived.Deep.DeepHandedRow
import Derived.Carry
import Derived.Test.YtmdokbohofchgaaGreatDoorMrg6
set_option linter.unusedSimpArgs false
set_option linter.unusedVariables false
set_option maxHeartbeats 4000000
set_option maxRecDepth 20000
namespace Go.Proofs.YtmdokbohofchgaaGreatDoor.E
open Go
section
variable {E:List Cd}
/-! Interfaces. -/
end
/-! Closed facts of the built-in classes. -/
section
variable {pr:List Cd}
end
section
variable {E:List Cd}
/-! Members. -/
end
def wh (d:Cd):Bool:=decide (20<d.methods.length)||decide (20<d.fields.length)||decide (9<d.ifs.length)||decide (40<d.init.length)
def yS (l:List Cd):Bool:=decide (l.length<=12)&& !l.any wh
theorem TT (pr:List Cd) (p:Option Addr) (n c:Nat) (m:Mem) (h:gV m pr p n c):FnH Tryz.prog 10 [.v (.slice p n c)] ⟨[],[]⟩ m fun r H' m' =>m' =m/\H' =⟨[],[]⟩/\r= .v (.bool (yS pr)):=by
 have hn:=h.1;have uK:=h.2.2.1;have hA:(pr.drop 0).any wh=pr.any wh:=by rw[List.drop_zero]
 have hK:yS pr=(decide (pr.length<=12)&& !(pr.drop 0).any wh):=by rw[hA];rfl
 revert hK;generalize yS pr=K
 intro hK;refine br aq Tryz.func10 ?_
 ·by_cases h12:pr.length<=12
  ·rw[aP h12,Bool.true_and] at hK;have an:((12:Int)<(n:Int))=False:=eq_false (by omega);simp only[go_sem,an];refine ct aq (fun i:Nat=>⟨[⟨3,[],.v (.int .i64 i)⟩,⟨0,[],.v (.slice p n c)⟩,⟨2,[],.v (.bool false)⟩],[],[],[],0,m⟩)
    (fun i=>i<=pr.length/\K= !(pr.drop i).any wh) (fun i=>pr.length - i) 0 (by kernel_rfl) (fun _ _=>aU rfl) (fun x hx=> .inl rfl) (fun _=> ?_) ?_ ⟨aF _,hK⟩ ?_
   ·simp only[go_sem]
   ·simp only[go_sem];first |exact rfl |trace_state
   ·rintro i ⟨i1,i2⟩;by_cases hi:i<pr.length
    ·have hc:((i:Int)<(n:Int))=True:=eq_true (by omega);refine Exists.elim (lk h hi) fun X hX=> ?_
     have aL:bO p n (i:Int)=True:=eq_true ⟨by omega,by omega,hX.2.1⟩;have dQ:=kF hX.1;have r3:= @pS m (bc p (i * 7)) X.cs hX.1 3 _ rfl;have r4:= @pS m (bc p (i * 7)) X.cs hX.1 4 _ rfl;have r5:= @pS m (bc p (i * 7)) X.cs hX.1 5 _ rfl;have r6:= @pS m (bc p (i * 7)) X.cs hX.1 6 _ rfl;rw[List.drop_eq_getElem_cons hi,List.any_cons] at i2;have gC:wh pr[i]=(decide (20<X.ml)||decide (20<X.fn)||decide (9<X.il)||decide (40<X.sl)):=by rw[hX.2.2.2.ml,hX.2.2.2.fn,hX.2.2.2.il,hX.2.2.2.sl];rfl
     rw[gC] at i2;have q3:=te hX.1 3 1 (aU rfl);have q4:=te hX.1 4 1 (aU rfl);have q6:=te hX.1 6 1 (aU rfl);simp only[go_sem,hc,aL,dQ,r5];refine⟨.slice X.fa X.fn X.fc,fun _=>q4,?_⟩;simp only[go_sem,hc,aL,dQ,r5];refine⟨.slice X.ia X.il X.ic,fun _=>q3,?_⟩;simp only[go_sem,hc,aL,dQ,r5];refine⟨.slice X.sa X.sl X.sc,fun _=>q6,?_⟩;simp only[go_sem,hc,aL,dQ,r5];refine⟨fun hh=> ?_,fun hh=> ?_⟩
     ·rw[i2];rcases hh with ((hh |hh) |hh) |hh
      ·rw[aP (by omega:20<X.ml)];rfl
      ·rw[aP (by omega:20<X.fn),Bool.or_true];rfl
      ·rw[aP (by omega:9<X.il),Bool.or_true];rfl
      ·rw[aP (by omega:40<X.sl),Bool.or_true];rfl
     ·rw[ab (by omega:¬20<X.ml),ab (by omega:¬20<X.fn),ab (by omega:¬9<X.il),ab (by omega:¬40<X.sl)] at i2;exact⟨by unfold aB;omega,i+1,by simp,⟨hi,i2⟩,by omega⟩
    ·have hc:((i:Int)<(n:Int))=False:=eq_false (by omega);rw[List.drop_of_length_le (by omega),List.any_nil] at i2;simp only[go_sem,hc];exact i2.symm
  ·rw[ab h12,Bool.false_and] at hK;have an:((12:Int)<(n:Int))=True:=eq_true (by omega);simp only[go_sem,an];exact hK.symm
theorem HQ {m:Mem}:∀{l:List Cd} {xs:List Value},xs.length=l.length * 7->eu (gY m) 7 l xs->∀u∈xs,u.oneCell' =true
 |[],xs,hl,_,u,hu=>by
  have hx:xs=[]:=List.eq_nil_of_length_eq_zero (by simpa using hl);rw[hx] at hu;cases hu
 |d::r,xs,hl,h,u,hu=>by
  rw[<- List.take_append_drop 7 xs] at hu;rcases List.mem_append.1 hu with hu |hu
  ·obtain⟨X,e,_⟩:=h.1;rw[e.1] at hu;simp only[Cc.cs,List.mem_cons,List.not_mem_nil,or_false] at hu;rcases hu with rfl |rfl |rfl |rfl |rfl |rfl |rfl<;>rfl
  ·refine HQ (l:=r) (xs:=xs.drop 7) ?_ h.2 u hu;rw[gh,hl,cQ];omega
theorem Kv {α:Type} {R:α->List Value->Prop} {z:Nat}:∀{l:List α} {xs ys:List Value} {r:List α},xs.length=l.length * z->eu R z l xs->eu R z r ys->eu R z (l++r) (xs++ys)
 |[],xs,ys,r,hl,_,h2=>by
  have hx:xs=[]:=List.eq_nil_of_length_eq_zero (by simpa using hl);rw[hx];exact h2
 |a::l,xs,ys,r,hl,h1,h2=>by
  have hz:z<=xs.length:=by rw[hl,cQ,Nat.succ_mul];omega
  refine⟨?_,?_⟩
  ·rw[List.take_append_of_le_length hz];exact h1.1
  ·rw[List.drop_append_of_le_length hz];refine Kv (l:=l) ?_ h1.2 h2;rw[gh,hl,cQ,Nat.succ_mul];omega
theorem Sh (m:Mem):gY m cD [.int .i64 1,.string (bs dW),.string (bs aS),.slice none 0 0,.slice none 0 0,.slice none 0 0,.slice none 0 0]:=by
 have i1:aB 1:=by unfold aB;decide
 refine⟨⟨1,dW,aS,none,0,0,none,0,0,none,0,0,none,0,0⟩,⟨rfl,rfl,rfl,rfl⟩,⟨rfl,aA _,rfl,aA _,rfl,aA _,rfl,aA _⟩,?_,lr m 1,lr m 5,[],[],lr m 8,trivial,lr m 23,by simp only[cD,bG]⟩;exact⟨i1,aU rfl,aU rfl,aU rfl,(fun s h=>by cases h),aU rfl,(fun s h=>by cases h),aU rfl,aU rfl⟩
theorem Nt (pr:List Cd) (p:Option Addr) (n c:Nat) (m:Mem) (hg:Glob m) (Ci:∀d∈pr,CdB d) (h:gV m pr p n c):FnH Tryz.prog 4 [.v (.slice p n c)] ⟨[],[]⟩ m fun r H' m' =>ah m m' /\H' =⟨[],[]⟩/\r= .v (.bool true):=by
 have hn:=h.1;have hF:=TT pr p n c m h;have hW:=fun m' (hle:ah m m')=>PO m' (hg.upM hle)
 have eT:=fun(hf:pr.length<=1099000) m' (hle:ah m m')=>zW pr p n c m' (hg.upM hle) Ci (nC hle h) hf
 have ZI:∀d∈pr++[cD],CdB d:=fun d hd=>by
  rcases List.mem_append.1 hd with hd |hd
  ·exact Ci d hd
  ·rw[List.mem_singleton.1 hd];exact⟨by decide+kernel,by decide+kernel,by decide+kernel,by decide+kernel⟩
 have dJ:=fun(hf:pr.length<=10) m' (hle:ah m m') a c' (h' :gV m' (pr++[cD]) a (0+n+1) c')=>zW (pr++[cD]) a (0+n+1) c' m' (hg.upM hle) ZI h' (by rw[aZ,nz];omega)
 have yL:=Nu pr;revert eT dJ yL;generalize lj bb pr=T1
 generalize lj bb (pr++[cD])=T2
 intro eT dJ yL;refine enter bj aq Tryz.func4 rfl rfl (by kernel_rfl) rfl ?_ ?_
 ·clear hF hW eT dJ;simp only[go_sem]
 ·simp only[go_sem];refine ak (hF.mono ?_);clear hF;rintro r H' m1 aQ ⟨rfl,rfl,rfl⟩;by_cases hfew:yS pr=true/\pr.length<=10
  ·have dI:=hfew.1;have nq:((10:Int)<(n:Int))=False:=eq_false (by clear hW eT dJ;omega);simp only[go_sem,dI,nq];refine ct aq (fun i:Nat=>⟨[⟨3,[],.v (.int .i64 i)⟩,⟨0,[],.v (.slice p n c)⟩,⟨2,[],.v (.bool false)⟩],[],[],[],0,m1⟩)
    (fun i=>i<=pr.length/\∀d∈pr.take i,d.name≠dW) (fun i=>pr.length - i) 0 (by kernel_rfl) (fun _ _=>aU rfl) (fun x hx=> .inl rfl) (fun _=> ?_) ?_ ⟨aF _,by rw[List.take_zero];exact fun d hd=>by cases hd⟩ ?_
   ·clear hW eT dJ;simp only[go_sem]
   ·clear hW eT dJ;simp only[go_sem];first |exact rfl |trace_state
   ·rintro i ⟨i1,i2⟩;by_cases hi:i<pr.length
    ·have hc:((i:Int)<(n:Int))=True:=eq_true (by clear hW eT dJ;omega);refine Exists.elim (lk h hi) fun X hX=> ?_
     have aL:bO p n (i:Int)=True:=eq_true ⟨by clear hW eT dJ;omega,by clear hW eT dJ;omega,hX.2.1⟩;have dQ:=kF hX.1;have r1:= @pS m1 (bc p (i * 7)) X.cs hX.1 1 _ rfl;by_cases ov:X.name=dW
     ·have jC:(X.name=[122,122,47,85,110,117,115,101,100])=True:=eq_true ov;have hW:=hW m1 (.inl rfl);clear eT dJ;simp only[go_sem,hc,aL,dQ,r1,jC];refine ak (hW.mono ?_);clear hW;rintro r H' m2 aJ ⟨l2,rfl,rfl⟩;simp only[go_sem];first |exact l2 |exact⟨l2,rfl⟩
     ·have jC:(X.name=[122,122,47,85,110,117,115,101,100])=False:=eq_false ov;clear hW eT dJ;simp only[go_sem,hc,aL,dQ,r1,jC];refine⟨by unfold aB;omega,i+1,by simp,⟨hi,fun d hd=> ?_⟩,by omega⟩;rw[List.take_succ_eq_append_getElem hi] at hd;rcases List.mem_append.1 hd with hd |hd
      ·exact i2 d hd
      ·rw[List.mem_singleton.1 hd,<- hX.2.2.1];exact ov
    ·have hc:((i:Int)<(n:Int))=False:=eq_false (by clear hW eT dJ;omega);rw[jI (by clear hW eT dJ;omega)] at i2;have yL:=yL i2;have eT:=eT (by clear hW eT dJ;omega) m1 (.inl rfl);simp only[go_sem,hc];refine ak (eT.mono ?_);clear eT;rintro r H' m2 aJ ⟨l2,rfl,rfl⟩;simp only[go_sem];have ur:=nC l2 h;refine Exists.elim ur.2.2.2 fun xs fX=> ?_
     have Mp:iH Tryz.prog 33<=1000:=aU (by kernel_rfl);have XK:=hfew.2;have dJ:=dJ XK;refine⟨xs,fX.1,HQ (by rw[fX.1.1,hn]) fX.2,AV (by clear hW dJ;omega) Mp,AV (by clear hW dJ;omega) Mp,by kernel_rfl,fun a1 c1 m3 e1 e2 e3=>bF ((dJ m3 (ae l2 (.inr e1)) a1 c1 ?_).mono ?_)⟩
     ·refine⟨by rw[aZ,nz];clear hW dJ;omega,e2,by unfold aw;clear hW dJ;omega,_,e3,Kv (by rw[fX.1.1,hn]) (iT (fun _ _=>vb (.inr e1)) fX.2) ⟨Sh m3,trivial⟩⟩
     ·clear dJ;rintro r H' m4 iF ⟨l4,rfl,rfl⟩;have lQ:=ae (ae l2 (.inr e1)) l4;have hW:=hW m4 lQ;simp only[go_sem];refine ak (hW.mono ?_);clear hW;rintro r H' m5 oy ⟨l5,rfl,rfl⟩;by_cases hz:T1.2.2=0
      ·have cJ:=eq_true hz;have jA:=eq_true (yL hz);simp only[go_sem,cJ,jA];first |exact ae lQ l5 |exact⟨ae lQ l5,rfl⟩
      ·have cJ:=eq_false hz;simp only[go_sem,cJ];first |exact ae lQ l5 |exact⟨ae lQ l5,rfl⟩
  ·have hW:=hW m1 (.inl rfl);clear eT dJ;by_cases dI:yS pr=true
   ·have zB:¬pr.length<=10:=fun q=>hfew ⟨dI,q⟩
    have nq:((10:Int)<(n:Int))=True:=eq_true (by clear hW;omega);simp only[go_sem,dI,nq];refine ak (hW.mono ?_);clear hW;rintro r H' m2 aJ ⟨l2,rfl,rfl⟩;simp only[go_sem];first |exact l2 |exact⟨l2,rfl⟩
   ·have dI:=(Bool.not_eq_true _).mp dI;simp only[go_sem,dI];refine ak (hW.mono ?_);clear hW;rintro r H' m2 aJ ⟨l2,rfl,rfl⟩;simp only[go_sem];first |exact l2 |exact⟨l2,rfl⟩
end Go.Proofs.YtmdokbohofchgaaGreatDoor.E
namespace Go.Proofs.YtmdokbohofchgaaGreatDoor.E
open Go Go.ChangeShapes Go.WideShapes Go.ChangeAt Go.RowKit
def ee (W:World) (b:Nat):Nat:=match W.heap[b]? with |some (.cells c _ _)=>c.size+1 |_=>0
theorem KL (W:World):Wf W (ee W):=fun b hb=>by
 have:W.heap[b]? =none:=Array.getElem?_eq_none hb;simp [ee,this]
theorem KM {W:World} {b:Nat} {c:Array Value} {t:TypeId} {f:Nat×Nat} (h:W.heap[b]? =some (.cells c t f)):ee W b=c.size+1:=by
 simp [ee,h]
theorem R6 {W w:World} {D:Nat->Nat} {b:Nat} {c:Array Value} {t:TypeId} {f:Nat×Nat} (hle:Mem.le ⟨W,ee W⟩ ⟨w,D⟩) (h:W.heap[b]? =some (.cells c t f)):∃t' f',w.heap[b]? =some (.cells c t' f'):=by
 obtain⟨_,hk⟩:=hle b;have hd:ee W b=c.size+1:=KM h;obtain⟨_,hk⟩:=hk (by show 0<ee W b;omega);obtain⟨c',t',f',ho,hj⟩:=Hz hk h;simp only[hd] at ho hj;have e:c' =c:=by
  apply Array.ext_getElem?
  intro i;rcases Nat.lt_or_ge i (c.size+1) with hi |hi
  ·exact hj i hi
  ·have h1:=hj c.size (by omega);rw[Array.getElem?_eq_none (aA c.size)] at h1;have h2:c'.size<=c.size:=by
    rcases Nat.lt_or_ge c.size c'.size with h |h
    ·rw[Array.getElem?_eq_getElem h] at h1;cases h1
    ·exact h
   rw[Array.getElem?_eq_none (by omega),Array.getElem?_eq_none (by omega)]
 subst e;exact⟨t',f',ho⟩
theorem R7 {W w:World} {D:Nat->Nat} {g i:Nat} {v:Value} (hle:Mem.le ⟨W,ee W⟩ ⟨w,D⟩) (h:W.cell? ⟨g,i,none⟩=some v):w.cell? ⟨g,i,none⟩=some v:=by
 unfold World.cell? at h ⊢;split at h
 ·rename_i c t f hc;obtain⟨t',f',ho⟩:=R6 hle hc;dsimp only at ho;rw[ho];simpa using h
 ·cases h
theorem M0 {H:Type} {enc:TypeId×Value->H} {C:Checked} {os:Os} {f:FuncId} {fn:Func} {s:OpenSpec} {conds:List PathCond} {apart:Bool} {laid:List (String×DataW Unit)} (modest:Bool) (w0:World) (args:Array Value) (hos:w0.os=os)
  (uk:(w0.forCall (fun _ _=>0) ⟨#[],args,[]⟩).Shaped C.prog)
  (ao:Input.okWideB C.prog (w0.forCall (fun _ _=>0) ⟨#[],args,[]⟩) f ⟨#[],args,[]⟩=true)
  (qv:s.preRow enc C.prog fn conds apart laid (w0.forCall (fun _ _=>0) ⟨#[],args,[]⟩).memory args):
  ∃(w:World) (tape:Tape) (i:Input),w.os=os/\(w.forCall tape i).Shaped C.prog/\i.vars=[]/\Input.okWide C.prog (w.forCall tape i) .any w.heap.size f i/\
   s.preRow enc C.prog fn conds apart laid (w.forCall tape i).memory i.args/\({modest:=modest}:Assume).holds C.prog (lone (Frame.enter C.prog f i.args .normal) [] (w.forCall tape i)):=
 ⟨w0,fun _ _=>0,⟨#[],args,[]⟩,hos,uk,(Input.okWide_of_okWideB (base:=0) ao).1,(Input.okWide_of_okWideB ao).2,qv,by
  simp only[Assume.holds]
  exact⟨by simp,by simp,fun _=>Modest.zero,by simp,by simp⟩⟩
theorem u6 {W:World} {a:Addr} {v:Value} (h:W.cell? a=some v):a.spot=none/\a.off<ee W a.block:=by
 unfold World.cell? at h;split at h
 ·rename_i c t f hc;cases hs:a.spot with
  |some x=>rw[hs] at h;simp at h
  |none=>
   rw[hs] at h;simp only[Option.isSome_none,Bool.false_eq_true,if_false] at h;refine⟨rfl,?_⟩;rw[KM hc];have:=(Array.getElem?_eq_some_iff.1 h).1;omega
 ·cases h
theorem DJ {H:Type} {d:DataW H}:∀{l:List (DataW H)},d∈l->Rows.uptoBulk d<=Rows.uptoBulkAll l
 |[],h=>by cases h
 |x::l,h=>by
  simp only[Rows.uptoBulkAll];rcases List.mem_cons.1 h with rfl |h
  ·omega
  ·have:=DJ h;omega
theorem AE {H:Type} (d:DataW H):1<=Rows.uptoBulk d:=by
 cases d with
 |lit l=>cases l<;>simp [Rows.uptoBulk]
 |_=>simp [Rows.uptoBulk]
theorem I8 {H:Type}:∀(l:List (DataW H)),l.length<=Rows.uptoBulkAll l
 |[]=>aF _
 |d::l=>by
  have h1:=AE d;have h2:=I8 l;simp only[Rows.uptoBulkAll,cQ];omega
theorem RO {P:Program} {f:FuncId} {args:List SV} {aN:List Value} {W:World} {x:Value} (yP:∀V,args.map (den V)=aN) (h:FnH P f args ⟨[],[]⟩ ⟨W,ee W⟩ fun r H' m' =>ah ⟨W,ee W⟩ m' /\H' =⟨[],[]⟩/\r= .v x):
  Calls P f ⟨aN⟩ W fun e W' =>e= .returned x/\Below W.heap.size W W' :=by
 have:=h ⟨fun _=>0,fun _ _=>⟨none,0,0⟩⟩ W (ee W) (KL W) (Mem.le_refl ⟨W,ee W⟩ (KL W)) ⟨fun b hb=>(by cases hb),fun b hb=>(by cases hb),by simp [aE],by simp⟩;rw[yP] at this;refine this.mono ?_;rintro e w' ⟨r,V',D',H',m',rfl,_,_,_,_,hf,_,_,_,_,_,rfl,rfl⟩;exact⟨rfl,hf.os,hf.tape,hf.output,hf.size,fun b hb=>(hf.same b hb (by simp [aE])).1⟩
theorem own:ownKnob Tryz.prog.godebug=none:=by kernel_rfl
def Bd:List (String×DataW Unit):=Rows.typecheckCheckReferenceRow.laid
theorem g1 (W:World) (h:W.ShapedOpen Tryz.prog):∃k,W.cell? ⟨1,0,none⟩=some (.int .i64 k):=
 cell_of_shapedOpen_int (P:=Tryz.prog) (g:=1) (t:=3) (zero:= #[.int .i64 0]) h (of_decide_eq_true (by kernel_rfl)) (by kernel_rfl) rfl (by kernel_rfl) (by kernel_rfl) (by kernel_rfl)
theorem Vj {W:World} {rest:List (String×DataW Unit)} (h:laidMet Tryz.prog (("armature/ast.operators",Rows.laid_armature_ast_operators)::rest) W):
  ∃ad c,Rd ⟨W,ee W⟩ (.pointer (some ⟨0,0,none⟩)) [.slice (some ad) 19 c]/\19<=c/\ax ⟨W,ee W⟩ (some ad) 19 1 (strs opsL):=by
 obtain⟨ps,⟨g',t',cs,fuel,p,q,eo,ui,hvar,hd,_,_⟩,_⟩:=h;obtain rfl:=Option.some.inj ((show Tryz.prog.globalNamed "armature/ast.operators" =some 0 by kernel_rfl).symm.trans eo);obtain rfl:=Option.some.inj ((show(Tryz.prog.globals[0]?).map (·.type)=some 28 by kernel_rfl).symm.trans ui);have hl:(Rows.laid_armature_ast_operators:DataW Unit)= .slice (opsL.map fun l=> .lit (.string l)) []:=rfl;rw[hl] at hd;obtain⟨a,cap,dy,yQ,hel⟩:=open_row (P:=Tryz.prog) (e:=9) (by kernel_rfl) (by kernel_rfl) hd;have hlen:(opsL.map fun l=>(DataW.lit (.string l):DataW Unit)).length=19:=rfl;rw[hlen] at dy yQ;have bW:W.cell? ⟨0,0,none⟩=some (.slice (some a) 19 cap):=by
  have:=World.var?_cell eo hvar 0;rw[Array.eq_one_of_toList dy] at this;simpa using this
 have wJ:∀i (hi:i<19),W.cell? (a.add i)=some (.string (bs (opsL[i]'hi))):=fun i hi=>by
  obtain⟨v,n,q',hc,hr⟩:=hel i (.lit (.string (opsL[i]'hi))) (by rw[List.getElem?_map,List.getElem?_eq_getElem (by exact hi)];rfl);obtain⟨s,e1,e2,_⟩:=DataW.trod_string (show Tryz.prog.underlying 9=some .string by kernel_rfl) hr;have e3:v= .string s:=by simpa using e1
  have e4:s.data.toList=opsL[i]'hi:=by simpa using(congrArg Prod.fst e2).symm
  rw[hc,e3,<- e4];rfl
 have KV:a.spot=none:=by
  have:=(u6 (wJ 0 (by decide))).1;simpa [Addr.add] using this
 refine⟨a,cap,⟨⟨0,0,none⟩,rfl,rfl,fun j hj=> ?_⟩,yQ,rfl,fun _=>⟨a,rfl,KV,fun j hj=> ?_⟩⟩
 ·have:j=0:=by simpa using hj
  subst this;exact⟨bW,(u6 bW).2⟩
 ·have hj:j<19:=by omega
  have h1:=wJ j hj;obtain⟨p1,p2,_⟩:=kD a j KV;have h2:=(u6 h1).2;rw[p1,p2] at h2;refine⟨?_,h2⟩;rw[strs,List.getElem?_map,List.getElem?_eq_getElem (by exact hj)];exact h1
def Xv:List (Int×List UInt8):=[(1,[112,117,98,108,105,99]),(2,[112,114,105,118,97,116,101]),(4,[112,114,111,116,101,99,116,101,100]),(8,[115,116,97,116,105,99]),(16,[102,105,110,97,108]),(32,[115,121,110,99]),(1024,[97,98,115,116,114,97,99,116])]
def Bw (fl:Int):List Tk:=(Xv.filter fun p=>hasB fl p.1).map fun p=>kw p.2
def Lg (w:List UInt8):List (List UInt8)->List Tk
 |[]=>[]
 |s::r=>kw w::ik s::(r.map fun t=>[sg [44],ik t]).flatten
def Wq (f:Fc):List Tk:=Bw f.fl++rR f.ty.dim f.ty.base f.ty.name++[ik f.name]++[sg [59]]
def XM (d:Cd):List Tk:=
 if hasB d.fl 512=true then Bw (bits .andNot .i64 d.fl 1024)++[kw [105,110,116,101,114,102,97,99,101]]++[ik d.name]++Lg [101,120,116,101,110,100,115] d.ifs
 else Bw d.fl++[kw [99,108,97,115,115]]++[ik d.name]++[kw [101,120,116,101,110,100,115]]++[ik d.super]++Lg [105,109,112,108,101,109,101,110,116,115] d.ifs
def WA (IT:List Tk) (MT:Md->List Tk) (d:Cd):List Tk:=
 XM d++[sg [123]]++(d.fields.map Wq).flatten++(if 0<d.init.length then[kw [115,116,97,116,105,99]]++IT else[])++(d.methods.map MT).flatten++[sg [125]]
def qV (l:List Tk):List Tk:=sg [123]::(l++[sg [125]])
def Ex.args:Ex->List Ex | .mk _ _ _ _ _ args=>args
def stT (k:Int) (nm:List UInt8) (ty:Ty) (tg ex:Ex) (B A:List Tk) (al:Nat):List Tk:=
 if k=4 then[kw [105,102]]++lC [nW ex]++qV B++(if 0<al then[kw [101,108,115,101]]++qV A else[])
 else if k=5 then[kw [119,104,105,108,101]]++lC [nW ex]++qV B
 else if k=8 then[kw [116,114,121]]++qV B++[kw [99,97,116,99,104]]++[sg [40]]++rR ty.dim ty.base ty.name++[ik nm]++[sg [41]]++qV A
 else if k=9 then[kw [115,121,110,99]]++lC [nW ex]++qV B
 else if k=10 then qV B
 else(if k=1 then rR ty.dim ty.base ty.name++[ik nm]++[sg [61]]++nW ex
  else if k=2 then nW tg++[sg [61]]++nW ex
  else if k=3 then nW ex
  else if k=6 then[kw [114,101,116,117,114,110]]++(if ex.k≠0 then nW ex else[])
  else if k=7 then[kw [116,104,114,111,119]]++nW ex
  else if k=11 then[kw [115,117,112,101,114]]++lC (ex.args.map nW)
  else[])++[sg [59]]
mutual
def Xi:St->List Tk
 | .mk k nm ty tg ex body alt=>stT k nm ty tg ex (xP body) (xP alt) alt.length
def xP:List St->List Tk
 |[]=>[]
 |e::r=>Xi e++xP r
end
def Vg (p:Pc):List Tk:=rR p.ty.dim p.ty.base p.ty.name++[ik p.name]
def SW (d:Md):List Tk:=
 Bw d.fl++(if d.name=bB then[kw [110,101,119]] else rR d.res.dim d.res.base d.res.name++[ik d.name])++lC (d.params.map Vg)++(if d.hb=true then qV (xP d.body) else[sg [59]])
def X4 (d:Cd):List Tk:=WA (qV (xP d.init)) SW d
def Xo (l:List Cd):List Tk:=(l.map X4).flatten
def ZK (l:List Cd):List UInt8×Int:=if(dS [] l).2=0 then Xz (Xo l) else([],(dS [] l).2)
def Zj:List Cd:=[⟨0,[112,47,65],aS,[],[⟨0,⟨0,74,[]⟩,[120]⟩],[],[]⟩]
def aad:List Cd:=[⟨0,[112,47,97],aS,[],[],[],[]⟩]
set_option maxRecDepth 100000 in
theorem My:ZK Zj=([99,108,97,115,115,32,112,58,58,65,32,101,120,116,101,110,100,115,32,108,97,110,103,58,58,79,98,106,101,99,116,32,123,32,108,111,110,103,32,120,32,59,32,125],0):=by decide+kernel
theorem Mx:(dS [] aad).2=4:=by decide+kernel
theorem KY {m:Mem} {k n:Int} {s c:List UInt8} {ty:Ty} {args:List Ex} {a:Option Addr} {cp:Nat} {xs:List Value} (bN:args.length<=cp) (hr:ax m a args.length 8 xs) (ao:BN k n s c ty args.length) (cF:dB m args xs):
  aW m (.mk k n s c ty args) (dZ k n s c ty (.slice a args.length cp)):=by
 simp only[aW];exact⟨a,cp,xs,rfl,bN,hr,ao,cF⟩
theorem TV {m:Mem} {xs:List Value}:dB m [] xs:=by simp only[dB]
end Go.Proofs.YtmdokbohofchgaaGreatDoor.E
namespace Go.Proofs.YtmdokbohofchgaaGreatDoor.E
open Go Go.ChangeShapes Go.WideShapes Go.ChangeAt Go.RowKit
theorem IK {α:Type} {p:Nat->α->Prop}:∀(n:Nat),(∀i,i<n->∃t,p i t)->∃ts:List α,ts.length=n/\∀i (hi:i<ts.length),p i ts[i]
 |0,_=>⟨[],rfl,fun i hi=>absurd hi (Nat.not_lt_zero _)⟩
 |n+1,h=>by
  obtain⟨ts,h1,h2⟩:=IK n fun i hi=>h i (by omega)
  obtain⟨t,ht⟩:=h n (Nat.lt_succ_self _);refine⟨ts++[t],by simp [h1],fun i hi=> ?_⟩;rcases Nat.lt_or_ge i ts.length with h3 |h3
  ·rw[List.getElem_append_left h3];exact h2 i h3
  ·have:i=n:=by rw[aZ,nz] at hi;omega
   subst this;rw[List.getElem_append_right h3];simpa using ht
theorem Jp {α:Type} {W:World} {a:Addr} {len sz:Nat} (eQ:0<sz) {p:Nat->α->List Value->Prop} (h:∀i,i<len->∃(x:α) (cs:List Value),cs.length=sz/\(∀j,j<sz->W.cell? (a.add (i * sz+j))=cs[j]?)/\p i x cs):
  ∃(l:List α) (xs:List Value),l.length=len/\ax ⟨W,ee W⟩ (some a) len sz xs/\∀i (hi:i<l.length),p i l[i] ((xs.drop (i * sz)).take sz):=by
 obtain⟨ts,hl,hp⟩:=IK (α:=α×{cs:List Value // cs.length=sz}) (p:=fun i x=>(∀j,j<sz->W.cell? (a.add (i * sz+j))=x.2.1[j]?)/\p i x.1 x.2.1) len fun i hi=>by
  obtain⟨x,cs,h1,h2,h3⟩:=h i hi;exact⟨⟨x,cs,h1⟩,h2,h3⟩
 have Mm:∀{i:Nat} (hi:i<ts.length),((flat (fun x=>x.2.1) ts).drop (i * sz)).take sz=ts[i].2.1:=fun hi=>my (fun x=>x.2.2) hi
 have gS:∀(l:List (α×{cs:List Value // cs.length=sz})),(flat (fun x=>x.2.1) l).length=l.length * sz:=fun l=>by
  induction l with
  |nil=>simp [flat]
  |cons x r ih=>
   simp only[flat,aG,List.flatten_cons,aZ,cQ,Nat.succ_mul] at ih ⊢;rw[ih,x.2.2];omega
 refine⟨ts.map (·.1),flat (fun x=>x.2.1) ts,by simp [hl],⟨by rw[gS,hl],fun h0=>⟨a,rfl,?_,fun j hj=> ?_⟩⟩,fun i hi=> ?_⟩
 ·have h1:=(hp 0 (by omega)).1 0 eQ;have h2:(ts[0]'(by omega)).2.1[0]? =some ((ts[0]'(by omega)).2.1[0]'(by rw[(ts[0]'(by omega)).2.2];exact eQ)):=List.getElem?_eq_getElem _;rw[h2] at h1;have:=(u6 h1).1;simpa [Addr.add] using this
 ·have hq:j / sz<ts.length:=by rw[hl];exact Nat.div_lt_of_lt_mul (by rw[Nat.mul_comm];exact hj)
  have hr:j % sz<sz:=Nat.mod_lt _ eQ;have Ml:j / sz * sz+j % sz=j:=Nat.div_add_mod' j sz;have h1:=(hp (j / sz) hq).1 (j % sz) hr;rw[Ml] at h1;have h2:(flat (fun x=>x.2.1) ts)[j]? =(ts[j / sz]'hq).2.1[j % sz]? :=by
   rw[<- Mm hq,List.getElem?_take,ai hr,List.getElem?_drop,Ml]
  have h3:(ts[j / sz]'hq).2.1[j % sz]? =some ((ts[j / sz]'hq).2.1[j % sz]'(by rw[(ts[j / sz]'hq).2.2];exact hr)):=List.getElem?_eq_getElem _;refine⟨by rw[h2];exact h1,?_⟩;rw[h3] at h1;have h4:=u6 h1;have Mw:=(hp 0 (by omega)).1 0 eQ;have h5:(ts[0]'(by omega)).2.1[0]? =some ((ts[0]'(by omega)).2.1[0]'(by rw[(ts[0]'(by omega)).2.2];exact eQ)):=List.getElem?_eq_getElem _;rw[h5] at Mw;have hs:a.spot=none:=by
   have:=(u6 Mw).1;simpa [Addr.add] using this
  obtain⟨p1,p2,_⟩:=kD a j hs;rw[p1,p2] at h4;exact h4.2
 ·have kV:i<ts.length:=by simpa using hi
  rw[Mm kV];simpa using(hp i kV).2
theorem HH {m:Mem}:∀(l:List Ex) (xs:List Value),(∀i (hi:i<l.length),aW m l[i] ((xs.drop (i * 8)).take 8))->dB m l xs
 |[],_,_=>by simp only[dB]
 |e::r,xs,h=>by
  simp only[dB];have h0:=h 0 (by simp);rw[Nat.zero_mul,List.drop_zero,List.getElem_cons_zero] at h0;refine⟨h0,HH r (xs.drop 8) fun i hi=> ?_⟩;have:=h (i+1) (by simpa using hi);rw[List.getElem_cons_succ] at this;rw[List.drop_drop,show 8+i * 8=(i+1) * 8 by omega];exact this
theorem Ha {H:Type}:∀(l:List Ex) (ds:List (DataW H)),l.length=ds.length->(∀i (h:i<l.length) (h' :i<ds.length),nP l[i]<=Rows.uptoBulk ds[i])->oQ l<=Rows.uptoBulkAll ds
 |[],_,_,_=>by simp [oQ]
 |e::r,[],h,_=>by simp at h
 |e::r,d::ds,h,hp=>by
  have h1:=hp 0 (by simp) (by simp);have h2:=Ha r ds (by simpa using h) fun i h3 h4=>by
   have:=hp (i+1) (by simpa using h3) (by simpa using h4);simp only[List.getElem_cons_succ] at this;exact this
  simp only[oQ,Rows.uptoBulkAll];simp only[List.getElem_cons_zero] at h1;omega
mutual
theorem CU:∀(e:Ex),eL e<=nP e
 | .mk _ _ _ _ _ args=>by
  have:=Gt args;simp only[eL,nP];omega
theorem Gt:∀(l:List Ex),iP l<=oQ l
 |[]=>by simp [iP]
 |e::r=>by
  have h1:=CU e;have h2:=Gt r;simp only[iP,oQ];omega
end
theorem Hy:∀(l:List Ex),l.length<=oQ l
 |[]=>aF _
 | .mk _ _ _ _ _ args::r=>by
  have:=Hy r;simp only[cQ,oQ,nP];omega
section
variable {H:Type} {enc:TypeId×Value->H} {W:World}
theorem ti {z:Int} (w:(Lit.int .i64 z).wf=true):aB z:=by
 have h:decide (IntKind.min .i64<=z)=true/\decide (z<=IntKind.max .i64)=true:=Bool.and_eq_true_iff.1 w;exact⟨of_decide_eq_true h.1,of_decide_eq_true h.2⟩
set_option maxRecDepth 100000 in
theorem xF {fuel:Nat} {cs:List Value} {d:DataW H} {p:List MemPlace} (h:DataW.trod enc Tryz.prog W 0 (fun _=>true) true fuel 35 cs=some (d,p)):∃t:Ty,cs=tZ t/\aB t.dim/\(0<=t.base/\t.base<256)/\t.name.length<=Rows.uptoBulk d:=by
 obtain⟨ys,n',_,hy,hlen,fW,hf⟩:=DataW.trod_struct Tryz.underlying35 h;have hC:Tryz.prog.cellsOf 35=3:=by kernel_rfl
 have k3:Tryz.prog.cellsOf 3=1:=by kernel_rfl
 have k5:Tryz.prog.cellsOf 5=1:=by kernel_rfl
 have k9:Tryz.prog.cellsOf 9=1:=by kernel_rfl
 rw[hC] at hlen;match cs,hlen with
 |[c0,c1,c2],_=>
  match ys,fW with
  |[y0,y1,y2],_=>
   have f0:DataW.trod enc Tryz.prog W 0 (fun _=>true) true n' 3 [c0]=some y0:=by have this:DataW.trod enc Tryz.prog W 0 (fun _=>true) true n' 3 (([c0,c1,c2].drop 0).take (Tryz.prog.cellsOf 3))=some y0:=hf 0 _ rfl;rw[k3] at this;exact this
   have f1:DataW.trod enc Tryz.prog W 0 (fun _=>true) true n' 5 [c1]=some y1:=by have this:DataW.trod enc Tryz.prog W 0 (fun _=>true) true n' 5 (([c0,c1,c2].drop 1).take (Tryz.prog.cellsOf 5))=some y1:=hf 1 _ rfl;rw[k5] at this;exact this
   have f2:DataW.trod enc Tryz.prog W 0 (fun _=>true) true n' 9 [c2]=some y2:=by have this:DataW.trod enc Tryz.prog W 0 (fun _=>true) true n' 9 (([c0,c1,c2].drop 2).take (Tryz.prog.cellsOf 9))=some y2:=hf 2 _ rfl;rw[k9] at this;exact this
   obtain⟨z0,e0,_,w0⟩:=DataW.trod_int Tryz.underlying3 f0;obtain⟨z1,e1,_,w1⟩:=DataW.trod_int Tryz.underlying5 f1;obtain⟨s,e2,x2,_⟩:=DataW.trod_string Tryz.underlying9 f2;cases e0;cases e1;cases e2;refine⟨⟨z0,z1,tl s⟩,by simp only[tZ,eW],ti w0,?_,?_⟩
   ·have h:decide (IntKind.min .u8<=z1)=true/\decide (z1<=IntKind.max .u8)=true:=Bool.and_eq_true_iff.1 w1;have h1:IntKind.min .u8<=z1:=of_decide_eq_true h.1;have h2:z1<=IntKind.max .u8:=of_decide_eq_true h.2;have h3:IntKind.min .u8=0:=by decide
    have h4:IntKind.max .u8=255:=by decide
    simp only;omega
   ·have hD:d= .agg [y0.1,y1.1,y2.1]:=(Prod.mk.inj hy).1;have h2:Rows.uptoBulk d=Rows.uptoBulk y0.1+(Rows.uptoBulk y1.1+(Rows.uptoBulk y2.1+0))+1:=by rw[hD];rfl
    have h3:Rows.uptoBulk y2.1=s.data.toList.length+1:=by rw[x2];rfl
    show(tl s).length<=_;have e:(tl s).length=s.data.toList.length:=rfl;omega
set_option maxHeartbeats 1000000 in
set_option maxRecDepth 100000 in
theorem Jz:∀(B:Nat) (fuel:Nat) (cs:List Value) (d:DataW H) (p:List MemPlace),DataW.trod enc Tryz.prog W 0 (fun _=>true) true fuel 57 cs=some (d,p)->Rows.uptoBulk d<=B->B<=1048576->∃e:Ex,aW ⟨W,ee W⟩ e cs/\nP e<=Rows.uptoBulk d:=by
 intro B;induction B with
 |zero=>intro fuel cs d p _ hB _;have:=AE d;omega
 |succ B ih=>
  intro fuel cs d p h hB hb;obtain⟨ys,n',_,hy,hlen,fW,hf⟩:=DataW.trod_struct Tryz.underlying57 h;have hC:Tryz.prog.cellsOf 57=8:=by kernel_rfl
  have kT:Tryz.prog.cellsOf 35=3:=by kernel_rfl
  have kL:Tryz.prog.cellsOf 55=1:=by kernel_rfl
  have k3:Tryz.prog.cellsOf 3=1:=by kernel_rfl
  have k9:Tryz.prog.cellsOf 9=1:=by kernel_rfl
  rw[hC] at hlen;match cs,hlen with
  |[c0,c1,c2,c3,c4,c5,c6,c7],_=>
   match ys,fW with
   |[y0,y1,y2,y3,y4,y5],_=>
    have f0:DataW.trod enc Tryz.prog W 0 (fun _=>true) true n' 3 [c0]=some y0:=by have this:DataW.trod enc Tryz.prog W 0 (fun _=>true) true n' 3 (([c0,c1,c2,c3,c4,c5,c6,c7].drop 0).take (Tryz.prog.cellsOf 3))=some y0:=hf 0 _ rfl;rw[k3] at this;exact this
    have f1:DataW.trod enc Tryz.prog W 0 (fun _=>true) true n' 3 [c1]=some y1:=by have this:DataW.trod enc Tryz.prog W 0 (fun _=>true) true n' 3 (([c0,c1,c2,c3,c4,c5,c6,c7].drop 1).take (Tryz.prog.cellsOf 3))=some y1:=hf 1 _ rfl;rw[k3] at this;exact this
    have f2:DataW.trod enc Tryz.prog W 0 (fun _=>true) true n' 9 [c2]=some y2:=by have this:DataW.trod enc Tryz.prog W 0 (fun _=>true) true n' 9 (([c0,c1,c2,c3,c4,c5,c6,c7].drop 2).take (Tryz.prog.cellsOf 9))=some y2:=hf 2 _ rfl;rw[k9] at this;exact this
    have f3:DataW.trod enc Tryz.prog W 0 (fun _=>true) true n' 9 [c3]=some y3:=by have this:DataW.trod enc Tryz.prog W 0 (fun _=>true) true n' 9 (([c0,c1,c2,c3,c4,c5,c6,c7].drop 3).take (Tryz.prog.cellsOf 9))=some y3:=hf 3 _ rfl;rw[k9] at this;exact this
    have f4:DataW.trod enc Tryz.prog W 0 (fun _=>true) true n' 35 [c4,c5,c6]=some y4:=by have this:DataW.trod enc Tryz.prog W 0 (fun _=>true) true n' 35 (([c0,c1,c2,c3,c4,c5,c6,c7].drop 4).take (Tryz.prog.cellsOf 35))=some y4:=hf 4 _ rfl;rw[kT] at this;exact this
    have f5:DataW.trod enc Tryz.prog W 0 (fun _=>true) true n' 55 [c7]=some y5:=by have this:DataW.trod enc Tryz.prog W 0 (fun _=>true) true n' 55 (([c0,c1,c2,c3,c4,c5,c6,c7].drop 7).take (Tryz.prog.cellsOf 55))=some y5:=hf 5 _ rfl;rw[kL] at this;exact this
    obtain⟨z0,e0,_,w0⟩:=DataW.trod_int Tryz.underlying3 f0;obtain⟨z1,e1,_,w1⟩:=DataW.trod_int Tryz.underlying3 f1;obtain⟨s2,e2,x2,_⟩:=DataW.trod_string Tryz.underlying9 f2;obtain⟨s3,e3,x3,_⟩:=DataW.trod_string Tryz.underlying9 f3;obtain⟨ty,e4,t1,t2,t3⟩:=xF (d:=y4.1) (p:=y4.2) f4;have hD:d= .agg [y0.1,y1.1,y2.1,y3.1,y4.1,y5.1]:=(Prod.mk.inj hy).1;have oC:Rows.uptoBulk d=Rows.uptoBulk y0.1+(Rows.uptoBulk y1.1+(Rows.uptoBulk y2.1+(Rows.uptoBulk y3.1+(Rows.uptoBulk y4.1+(Rows.uptoBulk y5.1+0)))))+1:=by rw[hD];rfl
    have b2:Rows.uptoBulk y2.1=s2.data.toList.length+1:=by rw[x2];rfl
    have b3:Rows.uptoBulk y3.1=s3.data.toList.length+1:=by rw[x3];rfl
    have l2:(tl s2).length=s2.data.toList.length:=rfl;have l3:(tl s3).length=s3.data.toList.length:=rfl;simp only[tZ,List.cons.injEq,and_true] at e4;obtain⟨rfl,rfl,rfl⟩:=e4;cases e0;cases e1;cases e2;cases e3;have ao:∀l:Nat,l<=aw->BN z0 z1 (tl s2) (tl s3) ty l:=fun l hl=>⟨ti w0,ti w1,by simp only[aw];omega,by simp only[aw];omega,⟨t1,t2,by simp only[aw];omega⟩,hl⟩
    have dy:∀c7,[Value.int .i64 z0,.int .i64 z1,.string s2,.string s3,.int .i64 ty.dim,.int .u8 ty.base,.string (bs ty.name),c7]=dZ z0 z1 (tl s2) (tl s3) ty c7:=fun c7=>by simp only[dZ,eW]
    rcases Deep.open_slice Tryz.underlying55 f5 with ⟨hc,hx⟩ |⟨a,len,cap,m,n,D,Pl,hcs7,_,hl,hm,hmm,hx,hi⟩
    ·have uG:c7= .slice none 0 0:=by simpa using hc
     subst uG;refine⟨.mk z0 z1 (tl s2) (tl s3) ty [],?_,by simp only[nP,oQ];omega⟩;rw[dy];exact KY (args:=[]) (aA _) gE (ao _ (aF _)) TV
    ·have uG:c7= .slice (some a) len cap:=by simpa using hcs7
     have aJ:m=cap:=by simpa using hmm
     subst uG;have FF:y5.1= .slice (List.map D (List.range len)) (List.map (fun j=>D (len+j)) (List.range (m - len))):=(Prod.mk.inj hx).1;have hb5:Rows.uptoBulk y5.1=Rows.uptoBulkAll (List.map D (List.range len))+Rows.uptoBulkAll (List.map (fun j=>D (len+j)) (List.range (m - len)))+1:=by rw[FF];rfl
     obtain⟨l,xs,nj,hr,hp⟩:=Jp (W:=W) (a:=a) (len:=len) (sz:=8) (by decide) (p:=fun i (x:Ex) cs=>aW ⟨W,ee W⟩ x cs/\nP x<=Rows.uptoBulk (D i)) fun i dp=>by
      obtain⟨bh,hc,ui⟩:=hi i (by omega);rw[hC] at hc;obtain⟨_,bq,wJ⟩:=World.cells?_some hc;have qx:D i∈List.map D (List.range len):=List.mem_map.2 ⟨i,List.mem_range.2 dp,rfl⟩;have jG:=DJ qx;obtain⟨e,he,hs⟩:=ih n bh (D i) (Pl i) ui (by omega) (by omega);exact⟨e,bh,bq,fun j hj=>by rw[<- Deep.add_add];exact wJ j hj,he,hs⟩
     have eQ:=Ha l (List.map D (List.range len)) (by simp [nj]) fun i h1 h2=>by simpa using(hp i h1).2
     have sJ:=Hy l;subst nj;refine⟨.mk z0 z1 (tl s2) (tl s3) ty l,?_,by simp only[nP];omega⟩;rw[dy];exact KY hl hr (ao _ (by simp only[aw];omega)) (HH l xs fun i hi=>(hp i hi).1)
end
mutual
def nO:St->Nat
 | .mk _ _ _ tg ex body alt=>1+nP ex+nP tg+iO body+iO alt
def iO:List St->Nat
 |[]=>0
 |e::r=>nO e+iO r
end
end Go.Proofs.YtmdokbohofchgaaGreatDoor.E
namespace Go.Proofs.YtmdokbohofchgaaGreatDoor.E
open Go Go.ChangeShapes Go.WideShapes Go.ChangeAt Go.RowKit
theorem AQ {α:Type} {f:α->List Value} {sz:Nat} (hf:∀x,(f x).length=sz):∀(l:List α) (xs:List Value),xs.length=l.length * sz->(∀i (hi:i<l.length),(xs.drop (i * sz)).take sz=f l[i])->xs=flat f l
 |[],xs,h,_=>by
  have:xs=[]:=List.length_eq_zero_iff.1 (by simpa using h);subst this;rfl
 |x::r,xs,h,hp=>by
  have h0:=hp 0 (by simp);rw[Nat.zero_mul,List.drop_zero,List.getElem_cons_zero] at h0;have hl:(xs.drop sz).length=r.length * sz:=by
   rw[gh,h,cQ,Nat.succ_mul];omega
  have hr:=AQ hf r (xs.drop sz) hl fun i hi=>by
   have:=hp (i+1) (by simpa using hi);rw[List.getElem_cons_succ] at this;rw[List.drop_drop,<- this,Nat.succ_mul,Nat.add_comm]
  have e:flat f (x::r)=f x++flat f r:=rfl;rw[e,<- h0,<- hr,List.take_append_drop]
theorem HE:∀l:List (List UInt8),flat (fun s=>[.string (bs s)]) l=strs l
 |[]=>rfl
 |a::r=>by
  have h:=HE r;simp only[flat,strs,aG,List.flatten_cons,fh,List.nil_append] at h ⊢;rw[h]
theorem Dz {α:Type} {R:α->List Value->Prop} {sz:Nat}:∀(l:List α) (xs:List Value),(∀i (hi:i<l.length),R l[i] ((xs.drop (i * sz)).take sz))->eu R sz l xs
 |[],_,_=>trivial
 |x::r,xs,h=>by
  have h0:=h 0 (by simp);rw[Nat.zero_mul,List.drop_zero,List.getElem_cons_zero] at h0;refine⟨h0,Dz r (xs.drop sz) fun i hi=> ?_⟩;have:=h (i+1) (by simpa using hi);rw[List.getElem_cons_succ] at this;rw[List.drop_drop,show sz+i * sz=(i+1) * sz by rw[Nat.succ_mul,Nat.add_comm]];exact this
theorem xa {m:Mem}:∀(l:List St) (xs:List Value),(∀i (hi:i<l.length),eg m l[i] ((xs.drop (i * 23)).take 23))->bG m l xs
 |[],_,_=>by simp only[bG]
 |x::r,xs,h=>by
  simp only[bG];have h0:=h 0 (by simp);rw[Nat.zero_mul,List.drop_zero,List.getElem_cons_zero] at h0;refine⟨h0,xa r (xs.drop 23) fun i hi=> ?_⟩;have:=h (i+1) (by simpa using hi);rw[List.getElem_cons_succ] at this;rw[List.drop_drop,show 23+i * 23=(i+1) * 23 by omega];exact this
theorem H9 {H:Type} {α:Type} {size:α->Nat}:∀(l:List α) (ds:List (DataW H)),l.length=ds.length->(∀i (h:i<l.length) (h' :i<ds.length),size l[i]<=Rows.uptoBulk ds[i])->(l.map size).sum<=Rows.uptoBulkAll ds
 |[],_,_,_=>by simp
 |e::r,[],h,_=>by simp at h
 |e::r,d::ds,h,hp=>by
  have h1:=hp 0 (by simp) (by simp);have h2:=H9 (size:=size) r ds (by simpa using h) fun i h3 h4=>by
   have:=hp (i+1) (by simpa using h3) (by simpa using h4);simp only[List.getElem_cons_succ] at this;exact this
  simp only[aG,List.sum_cons,Rows.uptoBulkAll];simp only[List.getElem_cons_zero] at h1;omega
theorem zX:∀(l:List St),(l.map nO).sum=iO l
 |[]=>rfl
 |e::r=>by simp only[aG,List.sum_cons,iO,zX r]
section
variable {H:Type} {enc:TypeId×Value->H} {W:World}
theorem pI {α:Type} {t e:TypeId} {sz:Nat} (ht:Tryz.prog.underlying t=some (.slice e)) (hC:Tryz.prog.cellsOf e=sz) (eQ:0<sz) (R:α->List Value->Prop) (size:α->Nat) {fuel:Nat} {c:Value} {d:DataW H} {p:List MemPlace}
  (h:DataW.trod enc Tryz.prog W 0 (fun _=>true) true fuel t [c]=some (d,p)) (ih:∀n bh D Pl,DataW.trod enc Tryz.prog W 0 (fun _=>true) true n e bh=some (D,Pl)->Rows.uptoBulk D<Rows.uptoBulk d->∃x,R x bh/\size x<=Rows.uptoBulk D):
  ∃(l:List α) (a:Option Addr) (n cp:Nat) (xs:List Value),c= .slice a n cp/\n=l.length/\n<=cp/\ax ⟨W,ee W⟩ a n sz xs/\(∀i (hi:i<l.length),R l[i] ((xs.drop (i * sz)).take sz))/\(l.map size).sum+1<=Rows.uptoBulk d/\l.length+1<=Rows.uptoBulk d:=by
 rcases Deep.open_slice ht h with ⟨hc,hx⟩ |⟨a,len,cap,m,n,D,Pl,hcs7,_,hl,hm,hmm,hx,hi⟩
 ·have uG:c= .slice none 0 0:=by simpa using hc
  have:=AE d;exact⟨[],none,0,0,[],uG,rfl,aA _,gE,fun i hi=>absurd hi (Nat.not_lt_zero _),by simpa using this,by simpa using this⟩
 ·have uG:c= .slice (some a) len cap:=by simpa using hcs7
  have aJ:m=cap:=by simpa using hmm
  have FF:d= .slice (List.map D (List.range len)) (List.map (fun j=>D (len+j)) (List.range (m - len))):=(Prod.mk.inj hx).1;have hb5:Rows.uptoBulk d=Rows.uptoBulkAll (List.map D (List.range len))+Rows.uptoBulkAll (List.map (fun j=>D (len+j)) (List.range (m - len)))+1:=by rw[FF];rfl
  obtain⟨l,xs,nj,hr,hp⟩:=Jp (W:=W) (a:=a) (len:=len) (sz:=sz) eQ (p:=fun i (x:α) cs=>R x cs/\size x<=Rows.uptoBulk (D i)) fun i dp=>by
   obtain⟨bh,hc,ui⟩:=hi i (by omega);rw[hC] at hc;obtain⟨_,bq,wJ⟩:=World.cells?_some hc;have qx:D i∈List.map D (List.range len):=List.mem_map.2 ⟨i,List.mem_range.2 dp,rfl⟩;have jG:=DJ qx;obtain⟨e,he,hs⟩:=ih n bh (D i) (Pl i) ui (by omega);exact⟨e,bh,bq,fun j hj=>by rw[<- Deep.add_add];exact wJ j hj,he,hs⟩
  have ab7:=H9 (size:=size) l (List.map D (List.range len)) (by simp [nj]) fun i h1 h2=>by simpa using(hp i h1).2
  have hlen:=I8 (List.map D (List.range len));rw[List.length_map,List.length_range] at hlen;exact⟨l,some a,len,cap,xs,uG,nj.symm,hl,hr,fun i hi=>(hp i hi).1,by omega,by omega⟩
set_option maxHeartbeats 2000000 in
set_option maxRecDepth 100000 in
theorem Jy:∀(B:Nat) (fuel:Nat) (cs:List Value) (d:DataW H) (p:List MemPlace),DataW.trod enc Tryz.prog W 0 (fun _=>true) true fuel 59 cs=some (d,p)->Rows.uptoBulk d<=B->B<=1048576->∃e:St,eg ⟨W,ee W⟩ e cs/\nO e<=Rows.uptoBulk d:=by
 intro B;induction B with
 |zero=>intro fuel cs d p _ hB _;have:=AE d;omega
 |succ B ih=>
  intro fuel cs d p h hB hb;obtain⟨ys,n',_,hy,hlen,fW,hf⟩:=DataW.trod_struct Tryz.underlying59 h;rw[show Tryz.prog.cellsOf 59=23 by kernel_rfl] at hlen;match cs,hlen with
  |[c0,c1,c2,c3,c4,c5,c6,c7,c8,c9,sQ,sP,sO,c13,c14,c15,c16,c17,c18,c19,c20,c21,c22],_=>
  match ys,fW with
  |[y0,y1,y2,y3,y4,y5,y6],_=>
   have f0:DataW.trod enc Tryz.prog W 0 (fun _=>true) true n' 3 [c0]=some y0:=by have this:DataW.trod enc Tryz.prog W 0 (fun _=>true) true n' 3 (([c0,c1,c2,c3,c4,c5,c6,c7,c8,c9,sQ,sP,sO,c13,c14,c15,c16,c17,c18,c19,c20,c21,c22].drop 0).take (Tryz.prog.cellsOf 3))=some y0:=hf 0 _ rfl;rw[show Tryz.prog.cellsOf 3=1 by kernel_rfl] at this;exact this
   have f1:DataW.trod enc Tryz.prog W 0 (fun _=>true) true n' 9 [c1]=some y1:=by have this:DataW.trod enc Tryz.prog W 0 (fun _=>true) true n' 9 (([c0,c1,c2,c3,c4,c5,c6,c7,c8,c9,sQ,sP,sO,c13,c14,c15,c16,c17,c18,c19,c20,c21,c22].drop 1).take (Tryz.prog.cellsOf 9))=some y1:=hf 1 _ rfl;rw[show Tryz.prog.cellsOf 9=1 by kernel_rfl] at this;exact this
   have f2:DataW.trod enc Tryz.prog W 0 (fun _=>true) true n' 35 [c2,c3,c4]=some y2:=by have this:DataW.trod enc Tryz.prog W 0 (fun _=>true) true n' 35 (([c0,c1,c2,c3,c4,c5,c6,c7,c8,c9,sQ,sP,sO,c13,c14,c15,c16,c17,c18,c19,c20,c21,c22].drop 2).take (Tryz.prog.cellsOf 35))=some y2:=hf 2 _ rfl;rw[show Tryz.prog.cellsOf 35=3 by kernel_rfl] at this;exact this
   have f3:DataW.trod enc Tryz.prog W 0 (fun _=>true) true n' 57 [c5,c6,c7,c8,c9,sQ,sP,sO]=some y3:=by have this:DataW.trod enc Tryz.prog W 0 (fun _=>true) true n' 57 (([c0,c1,c2,c3,c4,c5,c6,c7,c8,c9,sQ,sP,sO,c13,c14,c15,c16,c17,c18,c19,c20,c21,c22].drop 5).take (Tryz.prog.cellsOf 57))=some y3:=hf 3 _ rfl;rw[show Tryz.prog.cellsOf 57=8 by kernel_rfl] at this;exact this
   have f4:DataW.trod enc Tryz.prog W 0 (fun _=>true) true n' 57 [c13,c14,c15,c16,c17,c18,c19,c20]=some y4:=by have this:DataW.trod enc Tryz.prog W 0 (fun _=>true) true n' 57 (([c0,c1,c2,c3,c4,c5,c6,c7,c8,c9,sQ,sP,sO,c13,c14,c15,c16,c17,c18,c19,c20,c21,c22].drop 13).take (Tryz.prog.cellsOf 57))=some y4:=hf 4 _ rfl;rw[show Tryz.prog.cellsOf 57=8 by kernel_rfl] at this;exact this
   have f5:DataW.trod enc Tryz.prog W 0 (fun _=>true) true n' 31 [c21]=some y5:=by have this:DataW.trod enc Tryz.prog W 0 (fun _=>true) true n' 31 (([c0,c1,c2,c3,c4,c5,c6,c7,c8,c9,sQ,sP,sO,c13,c14,c15,c16,c17,c18,c19,c20,c21,c22].drop 21).take (Tryz.prog.cellsOf 31))=some y5:=hf 5 _ rfl;rw[show Tryz.prog.cellsOf 31=1 by kernel_rfl] at this;exact this
   have f6:DataW.trod enc Tryz.prog W 0 (fun _=>true) true n' 31 [c22]=some y6:=by have this:DataW.trod enc Tryz.prog W 0 (fun _=>true) true n' 31 (([c0,c1,c2,c3,c4,c5,c6,c7,c8,c9,sQ,sP,sO,c13,c14,c15,c16,c17,c18,c19,c20,c21,c22].drop 22).take (Tryz.prog.cellsOf 31))=some y6:=hf 6 _ rfl;rw[show Tryz.prog.cellsOf 31=1 by kernel_rfl] at this;exact this
   have hD:d= .agg [y0.1,y1.1,y2.1,y3.1,y4.1,y5.1,y6.1]:=(Prod.mk.inj hy).1;have oC:Rows.uptoBulk d=Rows.uptoBulk y0.1+(Rows.uptoBulk y1.1+(Rows.uptoBulk y2.1+(Rows.uptoBulk y3.1+(Rows.uptoBulk y4.1+(Rows.uptoBulk y5.1+(Rows.uptoBulk y6.1+0))))))+1:=by rw[hD];rfl
   obtain⟨z0,e0,_,w0⟩:=DataW.trod_int Tryz.underlying3 f0;cases e0;obtain⟨s1,e1,x1,_⟩:=DataW.trod_string Tryz.underlying9 f1;cases e1;have b1:Rows.uptoBulk y1.1=s1.data.toList.length+1:=by rw[x1];rfl
   have l1:(tl s1).length=s1.data.toList.length:=rfl;obtain⟨LH,e2,t2a,t2b,t2c⟩:=xF (d:=y2.1) (p:=y2.2) f2;simp only[tZ,List.cons.injEq,and_true] at e2;obtain⟨rfl,rfl,rfl⟩:=e2;obtain⟨My,h3a,h3b⟩:=Jz (Rows.uptoBulk y3.1) n' _ y3.1 y3.2 f3 (aA _) (by omega);obtain⟨N3,e3⟩:=ri h3a;rw[e3] at h3a;simp only[Nd.cs,List.cons.injEq,and_true] at e3;obtain⟨rfl,rfl,rfl,rfl,rfl,rfl,rfl,rfl⟩:=e3;obtain⟨Mx,h4a,h4b⟩:=Jz (Rows.uptoBulk y4.1) n' _ y4.1 y4.2 f4 (aA _) (by omega);obtain⟨N4,e4⟩:=ri h4a;rw[e4] at h4a;simp only[Nd.cs,List.cons.injEq,and_true] at e4;obtain⟨rfl,rfl,rfl,rfl,rfl,rfl,rfl,rfl⟩:=e4;obtain⟨body,a5,n5,k5,xs5,e5,g5a,g5b,g5c,g5d,g5e,g5f⟩:=pI (Tryz.underlying31) (show Tryz.prog.cellsOf 59=23 by kernel_rfl) (by decide) (eg ⟨W,ee W⟩) nO (d:=y5.1) (p:=y5.2) f5 fun n bh D Pl ht an=>ih n bh D Pl ht (by omega) (by omega)
   obtain⟨alt,a6,n6,k6,xs6,e6,g6a,g6b,g6c,g6d,g6e,g6f⟩:=pI (Tryz.underlying31) (show Tryz.prog.cellsOf 59=23 by kernel_rfl) (by decide) (eg ⟨W,ee W⟩) nO (d:=y6.1) (p:=y6.2) f6 fun n bh D Pl ht an=>ih n bh D Pl ht (by omega) (by omega)
   subst e5 e6;rw[zX] at g5e g6e;refine⟨.mk z0 (tl s1) LH My Mx body alt,?_,by simp only[nO];omega⟩;have:=fA (m:=⟨W,ee W⟩) (⟨z0,tl s1,LH,N3,N4,a5,n5,k5,a6,n6,k6⟩:Sd) h3a h4a g5a g5b g6a g6b ⟨ti w0,by simp only[aw];omega,⟨t2a,t2b,by simp only[aw];omega⟩,by simp only[aw];omega,by simp only[aw];omega⟩ g5c g6c (xa body xs5 g5d) (xa alt xs6 g6d);simp only[Sd.cs,eW] at this;exact this
end
def aam (l:List Cd):Prop:=∀d∈l,iO d.init<=aw/\∀e∈d.methods,iO e.body<=aw
end Go.Proofs.YtmdokbohofchgaaGreatDoor.E
namespace Go.Proofs.YtmdokbohofchgaaGreatDoor.E
open Go Go.ChangeShapes Go.WideShapes Go.ChangeAt Go.RowKit
def pW (d:Md):Nat:=1+d.params.length+iO d.body
def rH (d:Cd):Nat:=1+d.fields.length+d.ifs.length+iO d.init+(d.methods.map pW).sum
section
variable {H:Type} {enc:TypeId×Value->H} {W:World}
set_option maxRecDepth 100000 in
theorem SI {fuel:Nat} {cs:List Value} {d:DataW H} {p:List MemPlace} (h:DataW.trod enc Tryz.prog W 0 (fun _=>true) true fuel 95 cs=some (d,p)) (hb:Rows.uptoBulk d<=1048576):∃f:Pc,cs=f.cs/\PcOk f:=by
 obtain⟨ys,n',_,hy,hlen,fW,hf⟩:=DataW.trod_struct Tryz.underlying95 h;rw[show Tryz.prog.cellsOf 95=4 by kernel_rfl] at hlen;match cs,hlen with
 |[c0,c1,c2,c3],_=>
 match ys,fW with
 |[y0,y1],_=>
  have f0:DataW.trod enc Tryz.prog W 0 (fun _=>true) true n' 35 [c0,c1,c2]=some y0:=by have this:DataW.trod enc Tryz.prog W 0 (fun _=>true) true n' 35 (([c0,c1,c2,c3].drop 0).take (Tryz.prog.cellsOf 35))=some y0:=hf 0 _ rfl;rw[show Tryz.prog.cellsOf 35=3 by kernel_rfl] at this;exact this
  have f1:DataW.trod enc Tryz.prog W 0 (fun _=>true) true n' 9 [c3]=some y1:=by have this:DataW.trod enc Tryz.prog W 0 (fun _=>true) true n' 9 (([c0,c1,c2,c3].drop 3).take (Tryz.prog.cellsOf 9))=some y1:=hf 1 _ rfl;rw[show Tryz.prog.cellsOf 9=1 by kernel_rfl] at this;exact this
  have hD:d= .agg [y0.1,y1.1]:=(Prod.mk.inj hy).1;have oC:Rows.uptoBulk d=Rows.uptoBulk y0.1+(Rows.uptoBulk y1.1+0)+1:=by rw[hD];rfl
  obtain⟨ty0,e0,t0a,t0b,t0c⟩:=xF (d:=y0.1) (p:=y0.2) f0;simp only[tZ,List.cons.injEq,and_true] at e0;obtain⟨rfl,rfl,rfl⟩:=e0;obtain⟨s1,e1,x1,_⟩:=DataW.trod_string Tryz.underlying9 f1;cases e1;have b1:Rows.uptoBulk y1.1=s1.data.toList.length+1:=by rw[x1];rfl
  have l1:(tl s1).length=s1.data.toList.length:=rfl;exact⟨⟨ty0,tl s1⟩,by simp only[Pc.cs,eW],⟨⟨t0a,t0b,by simp only[aw];omega⟩,by simp only[aw];omega⟩⟩
set_option maxRecDepth 100000 in
theorem SK {fuel:Nat} {cs:List Value} {d:DataW H} {p:List MemPlace} (h:DataW.trod enc Tryz.prog W 0 (fun _=>true) true fuel 40 cs=some (d,p)) (hb:Rows.uptoBulk d<=1048576):∃f:Fc,cs=f.cs/\FcOk f:=by
 obtain⟨ys,n',_,hy,hlen,fW,hf⟩:=DataW.trod_struct Tryz.underlying40 h;rw[show Tryz.prog.cellsOf 40=5 by kernel_rfl] at hlen;match cs,hlen with
 |[c0,c1,c2,c3,c4],_=>
 match ys,fW with
 |[y0,y1,y2],_=>
  have f0:DataW.trod enc Tryz.prog W 0 (fun _=>true) true n' 3 [c0]=some y0:=by have this:DataW.trod enc Tryz.prog W 0 (fun _=>true) true n' 3 (([c0,c1,c2,c3,c4].drop 0).take (Tryz.prog.cellsOf 3))=some y0:=hf 0 _ rfl;rw[show Tryz.prog.cellsOf 3=1 by kernel_rfl] at this;exact this
  have f1:DataW.trod enc Tryz.prog W 0 (fun _=>true) true n' 35 [c1,c2,c3]=some y1:=by have this:DataW.trod enc Tryz.prog W 0 (fun _=>true) true n' 35 (([c0,c1,c2,c3,c4].drop 1).take (Tryz.prog.cellsOf 35))=some y1:=hf 1 _ rfl;rw[show Tryz.prog.cellsOf 35=3 by kernel_rfl] at this;exact this
  have f2:DataW.trod enc Tryz.prog W 0 (fun _=>true) true n' 9 [c4]=some y2:=by have this:DataW.trod enc Tryz.prog W 0 (fun _=>true) true n' 9 (([c0,c1,c2,c3,c4].drop 4).take (Tryz.prog.cellsOf 9))=some y2:=hf 2 _ rfl;rw[show Tryz.prog.cellsOf 9=1 by kernel_rfl] at this;exact this
  have hD:d= .agg [y0.1,y1.1,y2.1]:=(Prod.mk.inj hy).1;have oC:Rows.uptoBulk d=Rows.uptoBulk y0.1+(Rows.uptoBulk y1.1+(Rows.uptoBulk y2.1+0))+1:=by rw[hD];rfl
  obtain⟨z0,e0,_,w0⟩:=DataW.trod_int Tryz.underlying3 f0;cases e0;obtain⟨BO,e1,t1a,t1b,t1c⟩:=xF (d:=y1.1) (p:=y1.2) f1;simp only[tZ,List.cons.injEq,and_true] at e1;obtain⟨rfl,rfl,rfl⟩:=e1;obtain⟨s2,e2,x2,_⟩:=DataW.trod_string Tryz.underlying9 f2;cases e2;have b2:Rows.uptoBulk y2.1=s2.data.toList.length+1:=by rw[x2];rfl
  have l2:(tl s2).length=s2.data.toList.length:=rfl;exact⟨⟨z0,BO,tl s2⟩,by simp only[Fc.cs,eW],⟨ti w0,⟨t1a,t1b,by simp only[aw];omega⟩,by simp only[aw];omega⟩⟩
set_option maxHeartbeats 2000000 in
set_option maxRecDepth 100000 in
theorem SJ {fuel:Nat} {cs:List Value} {d:DataW H} {p:List MemPlace} (h:DataW.trod enc Tryz.prog W 0 (fun _=>true) true fuel 45 cs=some (d,p)) (hb:Rows.uptoBulk d<=1048576):∃f:Md,gW ⟨W,ee W⟩ f cs/\pW f<=Rows.uptoBulk d:=by
 obtain⟨ys,n',_,hy,hlen,fW,hf⟩:=DataW.trod_struct Tryz.underlying45 h;rw[show Tryz.prog.cellsOf 45=8 by kernel_rfl] at hlen;match cs,hlen with
 |[c0,c1,c2,c3,c4,c5,c6,c7],_=>
 match ys,fW with
 |[y0,y1,y2,y3,y4,y5],_=>
  have f0:DataW.trod enc Tryz.prog W 0 (fun _=>true) true n' 3 [c0]=some y0:=by have this:DataW.trod enc Tryz.prog W 0 (fun _=>true) true n' 3 (([c0,c1,c2,c3,c4,c5,c6,c7].drop 0).take (Tryz.prog.cellsOf 3))=some y0:=hf 0 _ rfl;rw[show Tryz.prog.cellsOf 3=1 by kernel_rfl] at this;exact this
  have f1:DataW.trod enc Tryz.prog W 0 (fun _=>true) true n' 35 [c1,c2,c3]=some y1:=by have this:DataW.trod enc Tryz.prog W 0 (fun _=>true) true n' 35 (([c0,c1,c2,c3,c4,c5,c6,c7].drop 1).take (Tryz.prog.cellsOf 35))=some y1:=hf 1 _ rfl;rw[show Tryz.prog.cellsOf 35=3 by kernel_rfl] at this;exact this
  have f2:DataW.trod enc Tryz.prog W 0 (fun _=>true) true n' 9 [c4]=some y2:=by have this:DataW.trod enc Tryz.prog W 0 (fun _=>true) true n' 9 (([c0,c1,c2,c3,c4,c5,c6,c7].drop 4).take (Tryz.prog.cellsOf 9))=some y2:=hf 2 _ rfl;rw[show Tryz.prog.cellsOf 9=1 by kernel_rfl] at this;exact this
  have f3:DataW.trod enc Tryz.prog W 0 (fun _=>true) true n' 43 [c5]=some y3:=by have this:DataW.trod enc Tryz.prog W 0 (fun _=>true) true n' 43 (([c0,c1,c2,c3,c4,c5,c6,c7].drop 5).take (Tryz.prog.cellsOf 43))=some y3:=hf 3 _ rfl;rw[show Tryz.prog.cellsOf 43=1 by kernel_rfl] at this;exact this
  have f4:DataW.trod enc Tryz.prog W 0 (fun _=>true) true n' 4 [c6]=some y4:=by have this:DataW.trod enc Tryz.prog W 0 (fun _=>true) true n' 4 (([c0,c1,c2,c3,c4,c5,c6,c7].drop 6).take (Tryz.prog.cellsOf 4))=some y4:=hf 4 _ rfl;rw[show Tryz.prog.cellsOf 4=1 by kernel_rfl] at this;exact this
  have f5:DataW.trod enc Tryz.prog W 0 (fun _=>true) true n' 31 [c7]=some y5:=by have this:DataW.trod enc Tryz.prog W 0 (fun _=>true) true n' 31 (([c0,c1,c2,c3,c4,c5,c6,c7].drop 7).take (Tryz.prog.cellsOf 31))=some y5:=hf 5 _ rfl;rw[show Tryz.prog.cellsOf 31=1 by kernel_rfl] at this;exact this
  have hD:d= .agg [y0.1,y1.1,y2.1,y3.1,y4.1,y5.1]:=(Prod.mk.inj hy).1;have oC:Rows.uptoBulk d=Rows.uptoBulk y0.1+(Rows.uptoBulk y1.1+(Rows.uptoBulk y2.1+(Rows.uptoBulk y3.1+(Rows.uptoBulk y4.1+(Rows.uptoBulk y5.1+0)))))+1:=by rw[hD];rfl
  obtain⟨z0,e0,_,w0⟩:=DataW.trod_int Tryz.underlying3 f0;cases e0;obtain⟨BO,e1,t1a,t1b,t1c⟩:=xF (d:=y1.1) (p:=y1.2) f1;simp only[tZ,List.cons.injEq,and_true] at e1;obtain⟨rfl,rfl,rfl⟩:=e1;obtain⟨s2,e2,x2,_⟩:=DataW.trod_string Tryz.underlying9 f2;cases e2;have b2:Rows.uptoBulk y2.1=s2.data.toList.length+1:=by rw[x2];rfl
  have l2:(tl s2).length=s2.data.toList.length:=rfl;obtain⟨z4,e4,_⟩:=DataW.trod_bool Tryz.underlying4 f4;cases e4;obtain⟨ps,a3,n3,k3,wk,e3,g3a,g3b,g3c,g3d,g3e,g3f⟩:=pI (Tryz.underlying43) (show Tryz.prog.cellsOf 95=4 by kernel_rfl) (by decide) (fun(f:Pc) cs=>cs=f.cs/\PcOk f) (fun _=>0) (d:=y3.1) (p:=y3.2) f3 fun n bh D Pl ht an=>by
   obtain⟨f,h1,h2⟩:=SI ht (by omega);exact⟨f,⟨h1,h2⟩,aF _⟩
  obtain⟨body,a5,n5,k5,xs5,e5,g5a,g5b,g5c,g5d,g5e,g5f⟩:=pI (Tryz.underlying31) (show Tryz.prog.cellsOf 59=23 by kernel_rfl) (by decide) (eg ⟨W,ee W⟩) nO (d:=y5.1) (p:=y5.2) f5 fun n bh D Pl ht an=>Jy (Rows.uptoBulk D) n bh D Pl ht (aA _) (by omega)
  subst e3 e5;rw[zX] at g5e;have zn:wk=flat Pc.cs ps:=AQ (f:=Pc.cs) (sz:=4) (fun _=>rfl) ps wk (by rw[g3c.1,g3a]) fun i hi=>(g3d i hi).1
  refine⟨⟨z0,BO,tl s2,ps,z4,body⟩,⟨⟨z0,BO,tl s2,a3,n3,k3,z4,a5,n5,k5⟩,⟨by simp only[Mc.cs,eW],rfl,rfl,rfl,rfl⟩,⟨g3a,g3b,g5a,g5b⟩,⟨ti w0,⟨t1a,t1b,by simp only[aw];omega⟩,by simp only[aw];omega,by simp only[aw];omega,fun q hq=> ?_,by simp only[aw];omega⟩,by rw[<- zn];exact g3c,xs5,g5c,xa body xs5 g5d⟩,by simp only[pW];omega⟩;obtain⟨i,hi,rfl⟩:=List.getElem_of_mem hq;exact(g3d i hi).2
set_option maxHeartbeats 2000000 in
set_option maxRecDepth 100000 in
theorem SL {fuel:Nat} {cs:List Value} {d:DataW H} {p:List MemPlace} (h:DataW.trod enc Tryz.prog W 0 (fun _=>true) true fuel 33 cs=some (d,p)) (hb:Rows.uptoBulk d<=1048576):∃f:Cd,(gY ⟨W,ee W⟩ f cs/\iO f.init<=aw/\∀e∈f.methods,iO e.body<=aw)/\rH f<=Rows.uptoBulk d:=by
 obtain⟨ys,n',_,hy,hlen,fW,hf⟩:=DataW.trod_struct Tryz.underlying33 h;rw[show Tryz.prog.cellsOf 33=7 by kernel_rfl] at hlen;match cs,hlen with
 |[c0,c1,c2,c3,c4,c5,c6],_=>
 match ys,fW with
 |[y0,y1,y2,y3,y4,y5,y6],_=>
  have f0:DataW.trod enc Tryz.prog W 0 (fun _=>true) true n' 3 [c0]=some y0:=by have this:DataW.trod enc Tryz.prog W 0 (fun _=>true) true n' 3 (([c0,c1,c2,c3,c4,c5,c6].drop 0).take (Tryz.prog.cellsOf 3))=some y0:=hf 0 _ rfl;rw[show Tryz.prog.cellsOf 3=1 by kernel_rfl] at this;exact this
  have f1:DataW.trod enc Tryz.prog W 0 (fun _=>true) true n' 9 [c1]=some y1:=by have this:DataW.trod enc Tryz.prog W 0 (fun _=>true) true n' 9 (([c0,c1,c2,c3,c4,c5,c6].drop 1).take (Tryz.prog.cellsOf 9))=some y1:=hf 1 _ rfl;rw[show Tryz.prog.cellsOf 9=1 by kernel_rfl] at this;exact this
  have f2:DataW.trod enc Tryz.prog W 0 (fun _=>true) true n' 9 [c2]=some y2:=by have this:DataW.trod enc Tryz.prog W 0 (fun _=>true) true n' 9 (([c0,c1,c2,c3,c4,c5,c6].drop 2).take (Tryz.prog.cellsOf 9))=some y2:=hf 2 _ rfl;rw[show Tryz.prog.cellsOf 9=1 by kernel_rfl] at this;exact this
  have f3:DataW.trod enc Tryz.prog W 0 (fun _=>true) true n' 28 [c3]=some y3:=by have this:DataW.trod enc Tryz.prog W 0 (fun _=>true) true n' 28 (([c0,c1,c2,c3,c4,c5,c6].drop 3).take (Tryz.prog.cellsOf 28))=some y3:=hf 3 _ rfl;rw[show Tryz.prog.cellsOf 28=1 by kernel_rfl] at this;exact this
  have f4:DataW.trod enc Tryz.prog W 0 (fun _=>true) true n' 29 [c4]=some y4:=by have this:DataW.trod enc Tryz.prog W 0 (fun _=>true) true n' 29 (([c0,c1,c2,c3,c4,c5,c6].drop 4).take (Tryz.prog.cellsOf 29))=some y4:=hf 4 _ rfl;rw[show Tryz.prog.cellsOf 29=1 by kernel_rfl] at this;exact this
  have f5:DataW.trod enc Tryz.prog W 0 (fun _=>true) true n' 30 [c5]=some y5:=by have this:DataW.trod enc Tryz.prog W 0 (fun _=>true) true n' 30 (([c0,c1,c2,c3,c4,c5,c6].drop 5).take (Tryz.prog.cellsOf 30))=some y5:=hf 5 _ rfl;rw[show Tryz.prog.cellsOf 30=1 by kernel_rfl] at this;exact this
  have f6:DataW.trod enc Tryz.prog W 0 (fun _=>true) true n' 31 [c6]=some y6:=by have this:DataW.trod enc Tryz.prog W 0 (fun _=>true) true n' 31 (([c0,c1,c2,c3,c4,c5,c6].drop 6).take (Tryz.prog.cellsOf 31))=some y6:=hf 6 _ rfl;rw[show Tryz.prog.cellsOf 31=1 by kernel_rfl] at this;exact this
  have hD:d= .agg [y0.1,y1.1,y2.1,y3.1,y4.1,y5.1,y6.1]:=(Prod.mk.inj hy).1;have oC:Rows.uptoBulk d=Rows.uptoBulk y0.1+(Rows.uptoBulk y1.1+(Rows.uptoBulk y2.1+(Rows.uptoBulk y3.1+(Rows.uptoBulk y4.1+(Rows.uptoBulk y5.1+(Rows.uptoBulk y6.1+0))))))+1:=by rw[hD];rfl
  obtain⟨z0,e0,_,w0⟩:=DataW.trod_int Tryz.underlying3 f0;cases e0;obtain⟨s1,e1,x1,_⟩:=DataW.trod_string Tryz.underlying9 f1;cases e1;have b1:Rows.uptoBulk y1.1=s1.data.toList.length+1:=by rw[x1];rfl
  have l1:(tl s1).length=s1.data.toList.length:=rfl;obtain⟨s2,e2,x2,_⟩:=DataW.trod_string Tryz.underlying9 f2;cases e2;have b2:Rows.uptoBulk y2.1=s2.data.toList.length+1:=by rw[x2];rfl
  have l2:(tl s2).length=s2.data.toList.length:=rfl;obtain⟨ifs,a3,n3,k3,wk,e3,g3a,g3b,g3c,g3d,g3e,g3f⟩:=pI (Tryz.underlying28) (show Tryz.prog.cellsOf 9=1 by kernel_rfl) (by decide) (fun(s:List UInt8) cs=>cs=[.string (bs s)]/\s.length<=aw) (fun _=>0) (d:=y3.1) (p:=y3.2) f3 fun n bh D Pl ht an=>by
   obtain⟨s,h1,h2,_⟩:=DataW.trod_string Tryz.underlying9 ht;have h3:Rows.uptoBulk D=s.data.toList.length+1:=by rw[(Prod.mk.inj h2).1];rfl
   have h4:(tl s).length=s.data.toList.length:=rfl;exact⟨tl s,⟨by rw[h1,eW],by simp only[aw];omega⟩,aF _⟩
  obtain⟨fds,a4,n4,k4,LG,e4,g4a,g4b,g4c,g4d,g4e,g4f⟩:=pI (Tryz.underlying29) (show Tryz.prog.cellsOf 40=5 by kernel_rfl) (by decide) (fun(f:Fc) cs=>cs=f.cs/\FcOk f) (fun _=>0) (d:=y4.1) (p:=y4.2) f4 fun n bh D Pl ht an=>by
   obtain⟨f,h1,h2⟩:=SK ht (by omega);exact⟨f,⟨h1,h2⟩,aF _⟩
  obtain⟨LQ,a5,n5,k5,xs5,e5,g5a,g5b,g5c,g5d,g5e,g5f⟩:=pI (Tryz.underlying30) (show Tryz.prog.cellsOf 45=8 by kernel_rfl) (by decide) (fun(f:Md) cs=>gW ⟨W,ee W⟩ f cs/\iO f.body<=aw) pW (d:=y5.1) (p:=y5.2) f5 fun n bh D Pl ht an=>by
   obtain⟨f,h1,h2⟩:=SJ ht (by omega);have h3:iO f.body<=pW f:=by simp only[pW];omega
   exact⟨f,⟨h1,by simp only[aw];omega⟩,h2⟩
  obtain⟨init,a6,n6,k6,xs6,e6,g6a,g6b,g6c,g6d,g6e,g6f⟩:=pI (Tryz.underlying31) (show Tryz.prog.cellsOf 59=23 by kernel_rfl) (by decide) (eg ⟨W,ee W⟩) nO (d:=y6.1) (p:=y6.2) f6 fun n bh D Pl ht an=>Jy (Rows.uptoBulk D) n bh D Pl ht (aA _) (by omega)
  subst e3 e4 e5 e6;rw[zX] at g6e;have zn:wk=strs ifs:=by
   have h1:wk=flat (fun s=>[.string (bs s)]) ifs:=AQ (f:=fun s=>[.string (bs s)]) (sz:=1) (fun _=>rfl) ifs wk (by rw[g3c.1,g3a]) fun i hi=>(g3d i hi).1
   rw[h1,HE]
  have hx4:LG=flat Fc.cs fds:=AQ (f:=Fc.cs) (sz:=5) (fun _=>rfl) fds LG (by rw[g4c.1,g4a]) fun i hi=>(g4d i hi).1
  refine⟨⟨z0,tl s1,tl s2,ifs,fds,LQ,init⟩,⟨⟨⟨z0,tl s1,tl s2,a3,n3,k3,a4,n4,k4,a5,n5,k5,a6,n6,k6⟩,⟨by simp only[Cc.cs,eW],rfl,rfl,rfl⟩,⟨g3a,g3b,g4a,g4b,g5a,g5b,g6a,g6b⟩,?_,by rw[<- zn];exact g3c,by rw[<- hx4];exact g4c,xs5,xs6,g5c,Dz LQ xs5 fun i hi=>(g5d i hi).1,g6c,xa init xs6 g6d⟩,by simp only[aw];omega,fun e he=> ?_⟩,by simp only[rH];omega⟩
  ·refine⟨ti w0,by simp only[aw];omega,by simp only[aw];omega,by simp only[aw];omega,fun q hq=> ?_,by simp only[aw];omega,fun q hq=> ?_,by simp only[aw];omega,by simp only[aw];omega⟩
   ·obtain⟨i,hi,rfl⟩:=List.getElem_of_mem hq;exact(g3d i hi).2
   ·obtain⟨i,hi,rfl⟩:=List.getElem_of_mem hq;exact(g4d i hi).2
  ·obtain⟨i,hi,rfl⟩:=List.getElem_of_mem he;exact(g5d i hi).2
set_option maxRecDepth 100000 in
theorem OZ {v:Value} {d:DataW H} {p:List MemPlace} {r:Reach} {b0:Nat} (v7:Value.okWide Tryz.prog W r b0 22 v) (h:DataW.Trod enc Tryz.prog W 0 (fun _=>true) true 22 v d p) (hb:Rows.uptoBulk d<=1048576):
  ∃(l:List Cd) (a:Option Addr) (n c:Nat),v= .slice a n c/\gV ⟨W,ee W⟩ l a n c/\aam l/\(l.map rH).sum<=1048576:=by
 obtain⟨va,vl,vc,hv0⟩:=okWide_slice Tryz.underlying22 v7;have hcv:v.cells.toList=[v]:=by rw[hv0];rfl
 obtain⟨fuel,h⟩:=h;rw[hcv] at h;obtain⟨l,a,n,c,xs,e,ga,gb,gc,gd,ge,gf⟩:=pI (Tryz.underlying22) (show Tryz.prog.cellsOf 33=7 by kernel_rfl) (by decide) (fun(f:Cd) cs=>gY ⟨W,ee W⟩ f cs/\iO f.init<=aw/\∀e∈f.methods,iO e.body<=aw) rH h fun n bh D Pl ht an=>by
  obtain⟨f,h1,h2⟩:=SL ht (by omega);exact⟨f,h1,h2⟩
 refine⟨l,a,n,c,e,⟨ga,gb,by simp only[aw];omega,xs,gc,Dz l xs fun i hi=>(gd i hi).1⟩,fun q hq=> ?_,by omega⟩;obtain⟨i,hi,rfl⟩:=List.getElem_of_mem hq;exact(gd i hi).2
end
/-! Depths against sizes. -/
mutual
theorem Pv:∀(s:St),fN s<=nO s/\nY s<=nO s
 | .mk k nm ty tg ex body alt=>by
  have h1:=wZ body;have h2:=wZ alt;have h3:=CU tg;have h4:=CU ex;have h5:yu ex<=eL ex:=by cases ex;simp [yu,eL]
  simp only[fN,nY,nO];constructor
  ·omega
  ·split<;>omega
theorem wZ:∀(l:List St),b9 l<=iO l/\cT l<=iO l
 |[]=>by simp [b9,cT]
 |e::r=>by
  have h1:=Pv e;have h2:=wZ r;simp only[b9,cT,iO];omega
end
theorem IE:∀(l:List Md),ig l<=(l.map pW).sum/\iY l<=(l.map pW).sum
 |[]=>by simp [ig,iY]
 |e::r=>by
  have h1:=wZ e.body;have h2:=IE r;simp only[ig,iY,aG,List.sum_cons,pW];omega
theorem RN {d:Cd} (h:rH d<=1048576):CdB d:=by
 have h1:=wZ d.init;have h2:=IE d.methods;simp only[rH] at h;exact⟨by simp only[aw];omega,by simp only[aw];omega,by simp only[aw];omega,by simp only[aw];omega⟩
theorem Jl {α:Type} {f:α->Nat}:∀{l:List α},∀x∈l,f x<=(l.map f).sum
 |[],x,hx=>by cases hx
 |y::r,x,hx=>by
  simp only[aG,List.sum_cons];rcases List.mem_cons.1 hx with rfl |hx
  ·omega
  ·have:=Jl (f:=f) x hx;omega
theorem QD {l:List Cd} (h:(l.map rH).sum<=1048576):∀d∈l,CdB d:=fun d hd=>RN (dk (Jl (f:=rH) d hd) h)
end Go.Proofs.YtmdokbohofchgaaGreatDoor.E
namespace Go.Proofs.YtmdokbohofchgaaGreatDoor.E
open Go Go.ChangeShapes Go.WideShapes Go.ChangeAt Go.RowKit
theorem Tg {W:World} (hL:laidMetH Tryz.prog Bd W) (hs:W.ShapedOpen Tryz.prog):Glob ⟨W,ee W⟩:=by
 rw[MakeChecks.laidMetH_plain _ _ _ (by kernel_rfl)] at hL;obtain⟨k,hk⟩:=g1 W hs;exact⟨fun w D hle=>⟨⟨k,R7 hle hk⟩,trivial⟩,Vj hL⟩
end Go.Proofs.YtmdokbohofchgaaGreatDoor.E

/- Several texts in one. -/
import Derived.Test.YtimddhkipjedcaaGreatDoorMrg6
set_option linter.unusedSimpArgs false
set_option linter.unusedVariables false
set_option maxHeartbeats 4000000
set_option maxRecDepth 20000
namespace Go.Proofs.YtimddhkipjedcaaGreatDoor.E
open Go
section
variable {ts:List Tk}
theorem YZ (l:List Tk):sj 4 l=av (gf l) fun e r=>av (fE r) fun b r2=>if aC sq r2=true then av (fE r2.tail) fun a r3=> .ok (.mk 4 [] ai zE e b a,r3) else .ok (.mk 4 [] ai zE e b [],r2):=by
 unfold sj;simp only[true_and]
theorem Oz {kd:Int} (h:kd≠4) (l:List Tk):sj kd l=av (gf l) fun e r=>av (fE r) fun b r2=> .ok (.mk kd [] ai zE e b [],r2):=by
 unfold sj;simp only[h,false_and,if_false]
theorem DW {i:Nat} (h:ah ts i pR=false):¬(aC pR (ts.drop i)=true/\aC [40] (ts.drop i).tail=true):=fun g=>by
 rw[<- ar,h] at g;exact absurd g.1 (by decide)
theorem acq {i:Nat} (h:(aO ts i).k≠1):ee (ts.drop i)=false:=by
 rw[ee,nQ,bo h];rfl
theorem US (hT:TsR ts) {i:Nat} (hi:i<=ts.length) (ew:xt ts i) (hB:∀j,i<j->j<=ts.length->xt ts j):yb 39 ts pY i:=fun a c m hr=>by
 have hl:=hT.few;have ck:i<=100000:=by omega
 generalize hK0:pY (ts.drop i)=K0
 rw[oP] at hK0;by_cases h1:ah ts i [123]=true
 ·rw[aT (be h1 (by decide)),aT (be h1 (by decide)),aT (be h1 (by decide)),aT (be h1 (by decide)),aT (be h1 (by decide)),aT (be h1 (by decide)),eI h1] at hK0;have hb:=ew a c m hr;refine enter (cd ts) (bu hT) Tryz.func39 rfl rfl (by kernel_rfl) rfl ?_ ?_
  ·simp only[go_sem]
  ·simp only[go_sem,hr,ck,h1,dX];refine ab (hb.mono ?_);clear hb ew hB;rintro r H' m1 aN ⟨l1,rfl,a1,n1,c1,k1,b1,rfl,aV,hb⟩;simp only[go_sem];rcases hb with ⟨rfl,es,xs,hK,rfl,bl,hn,hxr,j7⟩ |⟨rfl,hK⟩
   ·exact qn l1 ⟨10,[],ai,aM,aM,a1,es.length,c1,none,0,0⟩ k1 (.mk 10 [] ai zE zE es []) aV (by rw[<- hK0,bz hK]) (iX (alt:=[]) ⟨by decide,by decide⟩ (au _) cI eA eA hn bl hxr j7 (au _) (aq _) (cX _ _) (dN _ _))
   ·exact j5 l1 ⟨10,[],ai,aM,aM,a1,n1,c1,none,0,0⟩ k1 aV (by rw[<- hK0,cV hK])
 have h1:=bK h1;by_cases h2:(aO ts i).k=2
 ·have bW:ee (ts.drop i)=false:=acq (by rw[h2];decide);have ao:i<ts.length:=by
   rcases Nat.lt_or_ge i ts.length with g |g
   ·exact g
   ·rw[wI g] at h2;exact absurd h2 (by decide)
  have ot:decide ((aO ts i).s=[105,110,116])=ah ts i [105,110,116]:=mF hT h2 rfl;have oc:decide ((aO ts i).s=[108,111,110,103])=ah ts i [108,111,110,103]:=mF hT h2 rfl;have oC:decide ((aO ts i).s=[105,102])=ah ts i [105,102]:=mF hT h2 rfl;have nS:decide ((aO ts i).s=[119,104,105,108,101])=ah ts i [119,104,105,108,101]:=mF hT h2 rfl;have oa:decide ((aO ts i).s=[115,121,110,99])=ah ts i [115,121,110,99]:=mF hT h2 rfl;have oq:decide ((aO ts i).s=[116,114,121])=ah ts i [116,114,121]:=mF hT h2 rfl;have nL:decide ((aO ts i).s=[114,101,116,117,114,110])=ah ts i [114,101,116,117,114,110]:=mF hT h2 rfl;have nT:decide ((aO ts i).s=[116,104,114,111,119])=ah ts i [116,104,114,111,119]:=mF hT h2 rfl;have nU:decide ((aO ts i).s=[115,117,112,101,114])=ah ts i [115,117,112,101,114]:=mF hT h2 rfl;by_cases hw:ah ts i [105,110,116]=true
  ·clear ew;have gG:ah ts i [105,110,116]=true:=hw;have gE:ah ts i [108,111,110,103]=false:=be hw (by decide);have fQ:ah ts i [105,102]=false:=be hw (by decide);have fW:ah ts i [119,104,105,108,101]=false:=be hw (by decide);have gV:ah ts i [115,121,110,99]=false:=be hw (by decide);have gF:ah ts i [116,114,121]=false:=be hw (by decide);have gb:ah ts i [114,101,116,117,114,110]=false:=be hw (by decide);have gp:ah ts i [116,104,114,111,119]=false:=be hw (by decide);have ik:ah ts i [115,117,112,101,114]=false:=be hw (by decide);rw[aT (show ah ts i mI=false from fQ),aT (show ah ts i mQ=false from fW),aT (show ah ts i ox=false from gb),aT (show ah ts i oU=false from gp),aT (show ah ts i qd=false from gF),aT (show ah ts i qT=false from gV),aT h1,ae (DW (show ah ts i pR=false from ik))] at hK0;by_cases db:ah ts (i+1) [40]=true
   ·have mL:¬iY (ts.drop i)=true:=by
     unfold iY;rw[<- ar,<- ar,show ah ts i iI=true from gG,show ah ts i iE=false from gE,List.tail_drop,<- ar,db];simp
    rw[ae mL] at hK0;have hb:FnH Tryz.prog 89 [.v (.slice a ts.length c),.v (.int .i64 (i:Int))] ⟨[],[]⟩ m (mw ts (vh (ts.drop i)) m):=Ag hT hi a c m hr;clear hB;refine enter (cd ts) (bu hT) Tryz.func39 rfl rfl (by kernel_rfl) rfl ?_ ?_
    ·simp only[go_sem]
    ·simp only[go_sem,hr,ck,h1,dX,h2,bW,Int.reduceEq,aF,not_true_eq_false,Bool.false_eq_true,false_and,ot,gG,oc,gE,oC,fQ,nS,fW,oa,gV,oq,gF,nL,gb,nT,gp,nU,ik,db];refine ab (hb.mono ?_);clear hb;rintro r H' m1 aN ⟨l1,rfl,x1,k1,b1,rfl,aV,hb⟩;simp only[go_sem];exact⟨l1,rfl,x1,k1,b1,rfl,aV,by rw[<- hK0];exact hb⟩
   ·have db:=bK db;have mL:iY (ts.drop i)=true:=by
     unfold iY;rw[<- ar,<- ar,show ah ts i iI=true from gG,show ah ts i iE=false from gE,List.tail_drop,<- ar,db];simp
    rw[aj mL] at hK0;have hb:FnH Tryz.prog 88 [.v (.slice a ts.length c),.v (.int .i64 (i:Int))] ⟨[],[]⟩ m (mw ts (ze (ts.drop i)) m):=Gb hT hi a c m hr;clear hB;refine enter (cd ts) (bu hT) Tryz.func39 rfl rfl (by kernel_rfl) rfl ?_ ?_
    ·simp only[go_sem]
    ·simp only[go_sem,hr,ck,h1,dX,h2,bW,Int.reduceEq,aF,not_true_eq_false,Bool.false_eq_true,false_and,ot,gG,oc,gE,oC,fQ,nS,fW,oa,gV,oq,gF,nL,gb,nT,gp,nU,ik,db];refine ab (hb.mono ?_);clear hb;rintro r H' m1 aN ⟨l1,rfl,x1,k1,b1,rfl,aV,hb⟩;simp only[go_sem];exact⟨l1,rfl,x1,k1,b1,rfl,aV,by rw[<- hK0];exact hb⟩
  have gG:ah ts i [105,110,116]=false:=bK hw;clear hw;by_cases hw:ah ts i [108,111,110,103]=true
  ·clear ew;have gG:ah ts i [105,110,116]=false:=be hw (by decide);have gE:ah ts i [108,111,110,103]=true:=hw;have fQ:ah ts i [105,102]=false:=be hw (by decide);have fW:ah ts i [119,104,105,108,101]=false:=be hw (by decide);have gV:ah ts i [115,121,110,99]=false:=be hw (by decide);have gF:ah ts i [116,114,121]=false:=be hw (by decide);have gb:ah ts i [114,101,116,117,114,110]=false:=be hw (by decide);have gp:ah ts i [116,104,114,111,119]=false:=be hw (by decide);have ik:ah ts i [115,117,112,101,114]=false:=be hw (by decide);rw[aT (show ah ts i mI=false from fQ),aT (show ah ts i mQ=false from fW),aT (show ah ts i ox=false from gb),aT (show ah ts i oU=false from gp),aT (show ah ts i qd=false from gF),aT (show ah ts i qT=false from gV),aT h1,ae (DW (show ah ts i pR=false from ik))] at hK0;by_cases db:ah ts (i+1) [40]=true
   ·have mL:¬iY (ts.drop i)=true:=by
     unfold iY;rw[<- ar,<- ar,show ah ts i iI=false from gG,show ah ts i iE=true from gE,List.tail_drop,<- ar,db];simp
    rw[ae mL] at hK0;have hb:FnH Tryz.prog 89 [.v (.slice a ts.length c),.v (.int .i64 (i:Int))] ⟨[],[]⟩ m (mw ts (vh (ts.drop i)) m):=Ag hT hi a c m hr;clear hB;refine enter (cd ts) (bu hT) Tryz.func39 rfl rfl (by kernel_rfl) rfl ?_ ?_
    ·simp only[go_sem]
    ·simp only[go_sem,hr,ck,h1,dX,h2,bW,Int.reduceEq,aF,not_true_eq_false,Bool.false_eq_true,false_and,ot,gG,oc,gE,oC,fQ,nS,fW,oa,gV,oq,gF,nL,gb,nT,gp,nU,ik,db];refine ab (hb.mono ?_);clear hb;rintro r H' m1 aN ⟨l1,rfl,x1,k1,b1,rfl,aV,hb⟩;simp only[go_sem];exact⟨l1,rfl,x1,k1,b1,rfl,aV,by rw[<- hK0];exact hb⟩
   ·have db:=bK db;have mL:iY (ts.drop i)=true:=by
     unfold iY;rw[<- ar,<- ar,show ah ts i iI=false from gG,show ah ts i iE=true from gE,List.tail_drop,<- ar,db];simp
    rw[aj mL] at hK0;have hb:FnH Tryz.prog 88 [.v (.slice a ts.length c),.v (.int .i64 (i:Int))] ⟨[],[]⟩ m (mw ts (ze (ts.drop i)) m):=Gb hT hi a c m hr;clear hB;refine enter (cd ts) (bu hT) Tryz.func39 rfl rfl (by kernel_rfl) rfl ?_ ?_
    ·simp only[go_sem]
    ·simp only[go_sem,hr,ck,h1,dX,h2,bW,Int.reduceEq,aF,not_true_eq_false,Bool.false_eq_true,false_and,ot,gG,oc,gE,oC,fQ,nS,fW,oa,gV,oq,gF,nL,gb,nT,gp,nU,ik,db];refine ab (hb.mono ?_);clear hb;rintro r H' m1 aN ⟨l1,rfl,x1,k1,b1,rfl,aV,hb⟩;simp only[go_sem];exact⟨l1,rfl,x1,k1,b1,rfl,aV,by rw[<- hK0];exact hb⟩
  have gE:ah ts i [108,111,110,103]=false:=bK hw;clear hw;by_cases hw:ah ts i [105,102]=true
  ·clear ew;have gG:ah ts i [105,110,116]=false:=be hw (by decide);have gE:ah ts i [108,111,110,103]=false:=be hw (by decide);have fQ:ah ts i [105,102]=true:=hw;have fW:ah ts i [119,104,105,108,101]=false:=be hw (by decide);have gV:ah ts i [115,121,110,99]=false:=be hw (by decide);have gF:ah ts i [116,114,121]=false:=be hw (by decide);have gb:ah ts i [114,101,116,117,114,110]=false:=be hw (by decide);have gp:ah ts i [116,104,114,111,119]=false:=be hw (by decide);have ik:ah ts i [115,117,112,101,114]=false:=be hw (by decide);rw[eI (show ah ts i mI=true from fQ),List.tail_drop,<- YZ] at hK0;have hb:FnH Tryz.prog 90 [.v (.slice a ts.length c),.v (.int .i64 ((i:Int)+1)),.v (.int .i64 4)] ⟨[],[]⟩ m (mw ts (sj 4 (ts.drop (i+1))) m):=Gc hT ⟨by decide,by decide⟩ ao (fun j h3 h4=>hB j (by omega) h4) a c m hr;clear hB;refine enter (cd ts) (bu hT) Tryz.func39 rfl rfl (by kernel_rfl) rfl ?_ ?_
   ·simp only[go_sem]
   ·simp only[go_sem,hr,ck,h1,dX,h2,bW,Int.reduceEq,aF,not_true_eq_false,Bool.false_eq_true,false_and,ot,gG,oc,gE,oC,fQ,nS,fW,oa,gV,oq,gF,nL,gb,nT,gp,nU,ik];refine ab (hb.mono ?_);clear hb;rintro r H' m1 aN ⟨l1,rfl,x1,k1,b1,rfl,aV,hb⟩;simp only[go_sem];exact⟨l1,rfl,x1,k1,b1,rfl,aV,by rw[<- hK0];exact hb⟩
  have fQ:ah ts i [105,102]=false:=bK hw;clear hw;by_cases hw:ah ts i [119,104,105,108,101]=true
  ·clear ew;have gG:ah ts i [105,110,116]=false:=be hw (by decide);have gE:ah ts i [108,111,110,103]=false:=be hw (by decide);have fQ:ah ts i [105,102]=false:=be hw (by decide);have fW:ah ts i [119,104,105,108,101]=true:=hw;have gV:ah ts i [115,121,110,99]=false:=be hw (by decide);have gF:ah ts i [116,114,121]=false:=be hw (by decide);have gb:ah ts i [114,101,116,117,114,110]=false:=be hw (by decide);have gp:ah ts i [116,104,114,111,119]=false:=be hw (by decide);have ik:ah ts i [115,117,112,101,114]=false:=be hw (by decide);rw[aT (show ah ts i mI=false from fQ),eI (show ah ts i mQ=true from fW),List.tail_drop,<- Oz (kd:=5) (by decide)] at hK0;have hb:FnH Tryz.prog 90 [.v (.slice a ts.length c),.v (.int .i64 ((i:Int)+1)),.v (.int .i64 5)] ⟨[],[]⟩ m (mw ts (sj 5 (ts.drop (i+1))) m):=Gc hT ⟨by decide,by decide⟩ ao (fun j h3 h4=>hB j (by omega) h4) a c m hr;clear hB;refine enter (cd ts) (bu hT) Tryz.func39 rfl rfl (by kernel_rfl) rfl ?_ ?_
   ·simp only[go_sem]
   ·simp only[go_sem,hr,ck,h1,dX,h2,bW,Int.reduceEq,aF,not_true_eq_false,Bool.false_eq_true,false_and,ot,gG,oc,gE,oC,fQ,nS,fW,oa,gV,oq,gF,nL,gb,nT,gp,nU,ik];refine ab (hb.mono ?_);clear hb;rintro r H' m1 aN ⟨l1,rfl,x1,k1,b1,rfl,aV,hb⟩;simp only[go_sem];exact⟨l1,rfl,x1,k1,b1,rfl,aV,by rw[<- hK0];exact hb⟩
  have fW:ah ts i [119,104,105,108,101]=false:=bK hw;clear hw;by_cases hw:ah ts i [115,121,110,99]=true
  ·clear ew;have gG:ah ts i [105,110,116]=false:=be hw (by decide);have gE:ah ts i [108,111,110,103]=false:=be hw (by decide);have fQ:ah ts i [105,102]=false:=be hw (by decide);have fW:ah ts i [119,104,105,108,101]=false:=be hw (by decide);have gV:ah ts i [115,121,110,99]=true:=hw;have gF:ah ts i [116,114,121]=false:=be hw (by decide);have gb:ah ts i [114,101,116,117,114,110]=false:=be hw (by decide);have gp:ah ts i [116,104,114,111,119]=false:=be hw (by decide);have ik:ah ts i [115,117,112,101,114]=false:=be hw (by decide);rw[aT (show ah ts i mI=false from fQ),aT (show ah ts i mQ=false from fW),aT (show ah ts i ox=false from gb),aT (show ah ts i oU=false from gp),aT (show ah ts i qd=false from gF),eI (show ah ts i qT=true from gV),List.tail_drop,<- Oz (kd:=9) (by decide)] at hK0;have hb:FnH Tryz.prog 90 [.v (.slice a ts.length c),.v (.int .i64 ((i:Int)+1)),.v (.int .i64 9)] ⟨[],[]⟩ m (mw ts (sj 9 (ts.drop (i+1))) m):=Gc hT ⟨by decide,by decide⟩ ao (fun j h3 h4=>hB j (by omega) h4) a c m hr;clear hB;refine enter (cd ts) (bu hT) Tryz.func39 rfl rfl (by kernel_rfl) rfl ?_ ?_
   ·simp only[go_sem]
   ·simp only[go_sem,hr,ck,h1,dX,h2,bW,Int.reduceEq,aF,not_true_eq_false,Bool.false_eq_true,false_and,ot,gG,oc,gE,oC,fQ,nS,fW,oa,gV,oq,gF,nL,gb,nT,gp,nU,ik];refine ab (hb.mono ?_);clear hb;rintro r H' m1 aN ⟨l1,rfl,x1,k1,b1,rfl,aV,hb⟩;simp only[go_sem];exact⟨l1,rfl,x1,k1,b1,rfl,aV,by rw[<- hK0];exact hb⟩
  have gV:ah ts i [115,121,110,99]=false:=bK hw;clear hw;by_cases hw:ah ts i [116,114,121]=true
  ·clear ew;have gG:ah ts i [105,110,116]=false:=be hw (by decide);have gE:ah ts i [108,111,110,103]=false:=be hw (by decide);have fQ:ah ts i [105,102]=false:=be hw (by decide);have fW:ah ts i [119,104,105,108,101]=false:=be hw (by decide);have gV:ah ts i [115,121,110,99]=false:=be hw (by decide);have gF:ah ts i [116,114,121]=true:=hw;have gb:ah ts i [114,101,116,117,114,110]=false:=be hw (by decide);have gp:ah ts i [116,104,114,111,119]=false:=be hw (by decide);have ik:ah ts i [115,117,112,101,114]=false:=be hw (by decide);rw[aT (show ah ts i mI=false from fQ),aT (show ah ts i mQ=false from fW),aT (show ah ts i ox=false from gb),aT (show ah ts i oU=false from gp),eI (show ah ts i qd=true from gF),List.tail_drop] at hK0;have hb:FnH Tryz.prog 91 [.v (.slice a ts.length c),.v (.int .i64 ((i:Int)+1))] ⟨[],[]⟩ m (mw ts (Bo (ts.drop (i+1))) m):=Tq hT ao (hB (i+1) (by omega) ao) (fun j h3 h4=>hB j (by omega) h4) a c m hr;clear hB;refine enter (cd ts) (bu hT) Tryz.func39 rfl rfl (by kernel_rfl) rfl ?_ ?_
   ·simp only[go_sem]
   ·simp only[go_sem,hr,ck,h1,dX,h2,bW,Int.reduceEq,aF,not_true_eq_false,Bool.false_eq_true,false_and,ot,gG,oc,gE,oC,fQ,nS,fW,oa,gV,oq,gF,nL,gb,nT,gp,nU,ik];refine ab (hb.mono ?_);clear hb;rintro r H' m1 aN ⟨l1,rfl,x1,k1,b1,rfl,aV,hb⟩;simp only[go_sem];exact⟨l1,rfl,x1,k1,b1,rfl,aV,by rw[<- hK0];exact hb⟩
  have gF:ah ts i [116,114,121]=false:=bK hw;clear hw;by_cases hw:ah ts i [114,101,116,117,114,110]=true
  ·clear ew;have gG:ah ts i [105,110,116]=false:=be hw (by decide);have gE:ah ts i [108,111,110,103]=false:=be hw (by decide);have fQ:ah ts i [105,102]=false:=be hw (by decide);have fW:ah ts i [119,104,105,108,101]=false:=be hw (by decide);have gV:ah ts i [115,121,110,99]=false:=be hw (by decide);have gF:ah ts i [116,114,121]=false:=be hw (by decide);have gb:ah ts i [114,101,116,117,114,110]=true:=hw;have gp:ah ts i [116,104,114,111,119]=false:=be hw (by decide);have ik:ah ts i [115,117,112,101,114]=false:=be hw (by decide);rw[aT (show ah ts i mI=false from fQ),aT (show ah ts i mQ=false from fW),eI (show ah ts i ox=true from gb),List.tail_drop] at hK0;clear hB;by_cases da:ah ts (i+1) [59]=true
   ·rw[eI da,List.tail_drop] at hK0;refine enter (cd ts) (bu hT) Tryz.func39 rfl rfl (by kernel_rfl) rfl ?_ ?_
    ·simp only[go_sem]
    ·simp only[go_sem,hr,ck,h1,dX,h2,bW,Int.reduceEq,aF,not_true_eq_false,Bool.false_eq_true,false_and,ot,gG,oc,gE,oC,fQ,nS,fW,oa,gV,oq,gF,nL,gb,nT,gp,nU,ik,da];exact qn (.inl rfl) ⟨6,[],ai,aM,aM,none,0,0,none,0,0⟩ (i+2) (.mk 6 [] ai zE zE [] []) (aJ da) hK0.symm (iX (body:=[]) (alt:=[]) ⟨by decide,by decide⟩ (au _) cI eA eA (au _) (aq _) (cX _ _) (dN _ _) (au _) (aq _) (cX _ _) (dN _ _))
   ·have da:=bK da;rw[aT da] at hK0;have hb:FnH Tryz.prog 35 [.v (.slice a ts.length c),.v (.int .i64 ((i:Int)+1)),.v (.int .i64 1)] ⟨[],[]⟩ m (iK ts (cj 0 (ts.drop (i+1))) m):=(xy hT ao).bin 0 (by decide) a c m hr;refine enter (cd ts) (bu hT) Tryz.func39 rfl rfl (by kernel_rfl) rfl ?_ ?_
    ·simp only[go_sem]
    ·simp only[go_sem,hr,ck,h1,dX,h2,bW,Int.reduceEq,aF,not_true_eq_false,Bool.false_eq_true,false_and,ot,gG,oc,gE,oC,fQ,nS,fW,oa,gV,oq,gF,nL,gb,nT,gp,nU,ik,da];refine ab (hb.mono ?_);clear hb;rintro r H' m1 aN ⟨l1,rfl,x1,k1,b1,rfl,aV,hb⟩;have aS:=aD l1 hr;have j3:=yu hT ⟨6,[],ai,aM,x1,none,0,0,none,0,0⟩ k1 b1 a c m1 aV aS;simp only[go_sem];refine ab (j3.mono ?_);clear j3;rintro r H' m3 bN ⟨rfl,rfl,⟨rfl,da,rfl⟩ |⟨da,rfl⟩⟩
     ·simp only[go_sem];rcases hb with ⟨_,e2,hK2,hx2⟩ |⟨h,_⟩
      ·exact qn l1 ⟨6,[],ai,aM,x1,none,0,0,none,0,0⟩ (k1+1) (.mk 6 [] ai zE e2 [] []) (aJ da) (by rw[<- hK0,bz hK2,gI da]) (iX (body:=[]) (alt:=[]) ⟨by decide,by decide⟩ (au _) cI eA hx2 (au _) (aq _) (cX _ _) (dN _ _) (au _) (aq _) (cX _ _) (dN _ _))
      ·cases h
     ·simp only[go_sem];refine j5 l1 ⟨6,[],ai,aM,x1,none,0,0,none,0,0⟩ k1 aV ?_;rw[<- hK0];rcases hb with ⟨rfl,e2,hK2,hx2⟩ |⟨_,hK2⟩
      ·rw[bz hK2,gJ (da rfl)]
      ·rw[cV hK2]
  have gb:ah ts i [114,101,116,117,114,110]=false:=bK hw;clear hw;by_cases hw:ah ts i [116,104,114,111,119]=true
  ·clear ew;have gG:ah ts i [105,110,116]=false:=be hw (by decide);have gE:ah ts i [108,111,110,103]=false:=be hw (by decide);have fQ:ah ts i [105,102]=false:=be hw (by decide);have fW:ah ts i [119,104,105,108,101]=false:=be hw (by decide);have gV:ah ts i [115,121,110,99]=false:=be hw (by decide);have gF:ah ts i [116,114,121]=false:=be hw (by decide);have gb:ah ts i [114,101,116,117,114,110]=false:=be hw (by decide);have gp:ah ts i [116,104,114,111,119]=true:=hw;have ik:ah ts i [115,117,112,101,114]=false:=be hw (by decide);rw[aT (show ah ts i mI=false from fQ),aT (show ah ts i mQ=false from fW),aT (show ah ts i ox=false from gb),eI (show ah ts i oU=true from gp),List.tail_drop] at hK0;clear hB;have hb:FnH Tryz.prog 35 [.v (.slice a ts.length c),.v (.int .i64 ((i:Int)+1)),.v (.int .i64 1)] ⟨[],[]⟩ m (iK ts (cj 0 (ts.drop (i+1))) m):=(xy hT ao).bin 0 (by decide) a c m hr;refine enter (cd ts) (bu hT) Tryz.func39 rfl rfl (by kernel_rfl) rfl ?_ ?_
   ·simp only[go_sem]
   ·simp only[go_sem,hr,ck,h1,dX,h2,bW,Int.reduceEq,aF,not_true_eq_false,Bool.false_eq_true,false_and,ot,gG,oc,gE,oC,fQ,nS,fW,oa,gV,oq,gF,nL,gb,nT,gp,nU,ik];refine ab (hb.mono ?_);clear hb;rintro r H' m1 aN ⟨l1,rfl,x1,k1,b1,rfl,aV,hb⟩;have aS:=aD l1 hr;have j3:=yu hT ⟨7,[],ai,aM,x1,none,0,0,none,0,0⟩ k1 b1 a c m1 aV aS;simp only[go_sem];refine ab (j3.mono ?_);clear j3;rintro r H' m3 bN ⟨rfl,rfl,⟨rfl,da,rfl⟩ |⟨da,rfl⟩⟩
    ·simp only[go_sem];rcases hb with ⟨_,e2,hK2,hx2⟩ |⟨h,_⟩
     ·exact qn l1 ⟨7,[],ai,aM,x1,none,0,0,none,0,0⟩ (k1+1) (.mk 7 [] ai zE e2 [] []) (aJ da) (by rw[<- hK0,bz hK2,gI da]) (iX (body:=[]) (alt:=[]) ⟨by decide,by decide⟩ (au _) cI eA hx2 (au _) (aq _) (cX _ _) (dN _ _) (au _) (aq _) (cX _ _) (dN _ _))
     ·cases h
    ·simp only[go_sem];refine j5 l1 ⟨7,[],ai,aM,x1,none,0,0,none,0,0⟩ k1 aV ?_;rw[<- hK0];rcases hb with ⟨rfl,e2,hK2,hx2⟩ |⟨_,hK2⟩
     ·rw[bz hK2,gJ (da rfl)]
     ·rw[cV hK2]
  have gp:ah ts i [116,104,114,111,119]=false:=bK hw;clear hw;by_cases hw:ah ts i [115,117,112,101,114]=true
  ·clear ew;have gG:ah ts i [105,110,116]=false:=be hw (by decide);have gE:ah ts i [108,111,110,103]=false:=be hw (by decide);have fQ:ah ts i [105,102]=false:=be hw (by decide);have fW:ah ts i [119,104,105,108,101]=false:=be hw (by decide);have gV:ah ts i [115,121,110,99]=false:=be hw (by decide);have gF:ah ts i [116,114,121]=false:=be hw (by decide);have gb:ah ts i [114,101,116,117,114,110]=false:=be hw (by decide);have gp:ah ts i [116,104,114,111,119]=false:=be hw (by decide);have ik:ah ts i [115,117,112,101,114]=true:=hw;clear hB;rw[aT (show ah ts i mI=false from fQ),aT (show ah ts i mQ=false from fW),aT (show ah ts i ox=false from gb),aT (show ah ts i oU=false from gp),aT (show ah ts i qd=false from gF),aT (show ah ts i qT=false from gV),aT h1] at hK0;by_cases db:ah ts (i+1) [40]=true
   ·have cA:=aJ db;rw[aj ⟨by rw[<- ar];exact ik,by rw[List.tail_drop,<- ar];exact db⟩,List.tail_drop] at hK0;have hb:FnH Tryz.prog 93 [.v (.slice a ts.length c),.v (.int .i64 ((i:Int)+1))] ⟨[],[]⟩ m (Bm ts (jw (ts.drop (i+1))) m):=(xy hT ao).args a c m hr;refine enter (cd ts) (bu hT) Tryz.func39 rfl rfl (by kernel_rfl) rfl ?_ ?_
    ·simp only[go_sem]
    ·simp only[go_sem,hr,ck,h1,dX,h2,bW,Int.reduceEq,aF,not_true_eq_false,Bool.false_eq_true,false_and,ot,gG,oc,gE,oC,fQ,nS,fW,oa,gV,oq,gF,nL,gb,nT,gp,nU,ik,db];refine ab (hb.mono ?_);clear hb;rintro r H' m1 aN ⟨l1,rfl,a1,n1,c1,k1,b1,rfl,aV,hb⟩;have aS:=aD l1 hr;have j3:=yu hT ⟨11,[],ai,aM,⟨0,0,[],[],ai,a1,n1,c1⟩,none,0,0,none,0,0⟩ k1 b1 a c m1 aV aS;simp only[go_sem];refine ab (j3.mono ?_);clear j3;rintro r H' m3 bN ⟨rfl,rfl,⟨rfl,da,rfl⟩ |⟨da,rfl⟩⟩
     ·simp only[go_sem];rcases hb with ⟨_,es,xs,hK2,rfl,bl,hn,hxr,j7⟩ |⟨h,_⟩
      ·exact qn l1 ⟨11,[],ai,aM,⟨0,0,[],[],ai,a1,es.length,c1⟩,none,0,0,none,0,0⟩ (k1+1) (.mk 11 [] ai zE (.mk 0 0 [] [] ai es) [] []) (aJ da) (by rw[<- hK0,bz hK2,gI da]) (iX (body:=[]) (alt:=[]) ⟨by decide,by decide⟩ (au _) cI eA (fC ⟨by decide,by decide⟩ ⟨by decide,by decide⟩ (au _) (au _) cI (by omega) bl hxr j7) (au _) (aq _) (cX _ _) (dN _ _) (au _) (aq _) (cX _ _) (dN _ _))
      ·cases h
     ·simp only[go_sem];refine j5 l1 ⟨11,[],ai,aM,⟨0,0,[],[],ai,a1,n1,c1⟩,none,0,0,none,0,0⟩ k1 aV ?_;rw[<- hK0];rcases hb with ⟨rfl,es,xs,hK2,za⟩ |⟨_,hK2⟩
      ·rw[bz hK2,gJ (da rfl)]
      ·rw[cV hK2]
   ·have db:=bK db;have I2:¬(aC pR (ts.drop i)=true/\aC [40] (ts.drop i).tail=true):=fun g=>by
     have g2:=g.2;rw[List.tail_drop,<- ar,db] at g2;cases g2
    have mL:¬iY (ts.drop i)=true:=by
     unfold iY;rw[<- ar,<- ar,show ah ts i iI=false from gG,show ah ts i iE=false from gE,bW];simp
    rw[ae I2,ae mL] at hK0;have hb:FnH Tryz.prog 89 [.v (.slice a ts.length c),.v (.int .i64 (i:Int))] ⟨[],[]⟩ m (mw ts (vh (ts.drop i)) m):=Ag hT hi a c m hr;refine enter (cd ts) (bu hT) Tryz.func39 rfl rfl (by kernel_rfl) rfl ?_ ?_
    ·simp only[go_sem]
    ·simp only[go_sem,hr,ck,h1,dX,h2,bW,Int.reduceEq,aF,not_true_eq_false,Bool.false_eq_true,false_and,ot,gG,oc,gE,oC,fQ,nS,fW,oa,gV,oq,gF,nL,gb,nT,gp,nU,ik,db];refine ab (hb.mono ?_);clear hb;rintro r H' m1 aN ⟨l1,rfl,x1,k1,b1,rfl,aV,hb⟩;simp only[go_sem];exact⟨l1,rfl,x1,k1,b1,rfl,aV,by rw[<- hK0];exact hb⟩
  have ik:ah ts i [115,117,112,101,114]=false:=bK hw;clear hw;clear hB ew;have mL:¬iY (ts.drop i)=true:=by
   unfold iY;rw[<- ar,<- ar,show ah ts i iI=false from gG,show ah ts i iE=false from gE,bW];simp
  rw[aT (show ah ts i mI=false from fQ),aT (show ah ts i mQ=false from fW),aT (show ah ts i ox=false from gb),aT (show ah ts i oU=false from gp),aT (show ah ts i qd=false from gF),aT (show ah ts i qT=false from gV),aT h1,ae (DW (show ah ts i pR=false from ik)),ae mL] at hK0;have hb:FnH Tryz.prog 89 [.v (.slice a ts.length c),.v (.int .i64 (i:Int))] ⟨[],[]⟩ m (mw ts (vh (ts.drop i)) m):=Ag hT hi a c m hr;refine enter (cd ts) (bu hT) Tryz.func39 rfl rfl (by kernel_rfl) rfl ?_ ?_
  ·simp only[go_sem]
  ·simp only[go_sem,hr,ck,h1,dX,h2,bW,Int.reduceEq,aF,not_true_eq_false,Bool.false_eq_true,false_and,ot,gG,oc,gE,oC,fQ,nS,fW,oa,gV,oq,gF,nL,gb,nT,gp,nU,ik];refine ab (hb.mono ?_);clear hb;rintro r H' m1 aN ⟨l1,rfl,x1,k1,b1,rfl,aV,hb⟩;simp only[go_sem];exact⟨l1,rfl,x1,k1,b1,rfl,aV,by rw[<- hK0];exact hb⟩
 ·have zS:((aO ts i).k=2)=False:=eq_false h2;have no:∀w,eU w=true->ah ts i w=false:=fun w hw=>by rw[AV hT hw,bo h2];rfl
  rw[aT (no mI rfl),aT (no mQ rfl),aT (no ox rfl),aT (no oU rfl),aT (no qd rfl),aT (no qT rfl),aT h1,ae (DW (no pR rfl))] at hK0;have eD:iY (ts.drop i)=(ee (ts.drop i)&& !ah ts (i+1) [46]):=by
   unfold iY;rw[<- ar,<- ar,no iI rfl,no iE rfl,List.tail_drop,<- ar,ae (by decide),<- ar]
  rw[eD] at hK0;have Jm:FnH Tryz.prog 88 [.v (.slice a ts.length c),.v (.int .i64 (i:Int))] ⟨[],[]⟩ m (mw ts (ze (ts.drop i)) m):=Gb hT hi a c m hr;have Jl:FnH Tryz.prog 89 [.v (.slice a ts.length c),.v (.int .i64 (i:Int))] ⟨[],[]⟩ m (mw ts (vh (ts.drop i)) m):=Ag hT hi a c m hr;clear hB ew;refine enter (cd ts) (bu hT) Tryz.func39 rfl rfl (by kernel_rfl) rfl ?_ ?_
  ·simp only[go_sem]
  ·simp only[go_sem,hr,ck,h1,dX,zS,not_false_eq_true,false_and];refine⟨fun hd=> ?_,fun hd=> ?_⟩
   ·rw[aj (by rw[hd.1,hd.2];rfl)] at hK0;clear Jl;refine ab (Jm.mono ?_);clear Jm;rintro r H' m1 aN ⟨l1,rfl,x1,k1,b1,rfl,aV,hb⟩;simp only[go_sem];exact⟨l1,rfl,x1,k1,b1,rfl,aV,by rw[<- hK0];exact hb⟩
   ·rw[ae (fun g=>by
     have g:=Bool.and_eq_true_iff.1 g;rcases hd with h |h
     ·rw[h] at g;exact absurd g.1 (by decide)
     ·rw[h] at g;exact absurd g.2 (by decide))] at hK0
    clear Jm;refine ab (Jl.mono ?_);clear Jl;rintro r H' m1 aN ⟨l1,rfl,x1,k1,b1,rfl,aV,hb⟩;simp only[go_sem];exact⟨l1,rfl,x1,k1,b1,rfl,aV,by rw[<- hK0];exact hb⟩
end
structure RSX (ts:List Tk) (i:Nat):Prop where
 st:yb 39 ts pY i
 blk:xt ts i
theorem Yu {ts:List Tk} (hT:TsR ts) {i:Nat} (hi:i<=ts.length) (ih:∀j,i<j->j<=ts.length->RSX ts j):RSX ts i:=by
 have hB:=Tx hT hi fun j h1 h2=>(ih j h1 h2).st
 exact⟨US hT hi hB fun j h1 h2=>(ih j h1 h2).blk,hB⟩
theorem M2 {ts:List Tk} (hT:TsR ts):∀(L i:Nat),i<=ts.length->ts.length - i<L->RSX ts i
 |0,_,_,h=>absurd h (Nat.not_lt_zero _)
 |L+1,i,hi,h=>Yu hT hi fun j h1 h2=>M2 hT L j h2 (by omega)
theorem P0 {ts:List Tk} (hT:TsR ts) {i:Nat} (hi:i<=ts.length):RSX ts i:=M2 hT _ i hi (Nat.lt_succ_self _)
theorem ZM {ts:List Tk} (hT:TsR ts) {i:Nat} (hi:i<=ts.length):Pm ts i:=LY hT hi fun j _ h2=>(P0 hT h2).st
def qj (b:List St):Cd:=⟨0,[65],ld,[],[],[],b⟩
noncomputable def u9 (t:List UInt8):List St×Int×Int:=
 if(aP t).2.2=0 then(match pq [] (aP t).1 with
  | .error r=>([],pw t.length r,71)
  | .ok x=>if(gg [] [qj x.1]).2=0 then(x.1,0,0) else([],0,(gg [] [qj x.1]).2))
 else([],(aP t).2.1,(aP t).2.2)
def PS (m:Mem) (l:List St) (a:Option Addr) (n c:Nat):Prop:=n=l.length/\n<=c/\n<=aA/\∃xs,aK m a n 23 xs/\bF m l xs
theorem G7 (m:Mem):PS m [] none 0 0:=⟨rfl,aq _,au _,[],cX m 23,dN _ _⟩
abbrev adW (x:List St×Int×Int) (m:Mem):SV->Hp->Mem->Prop:=fun r H' m' =>an m m' /\∃(a:Option Addr) (n c:Nat),r= .tup [.v (.slice a n c),.v (.int .i64 x.2.1),.v (.int .i64 x.2.2)]/\PS m' x.1 a n c/\H' =⟨[],[]⟩
theorem Wd (t:List UInt8) (m:Mem) (hg:GlobX m) (ht:t.length<=4611686018427387904):FnH Tryz.prog 15 [.v (.string (bs t))] ⟨[],[]⟩ m (adW (u9 t) m):=by
 have hk:=fun m' (h:an m m')=>Ft t m' (by rcases h with rfl |h;exact hg;exact hg.up h) ht
 have hT:=DE t;by_cases h0:(aP t).2.2=0
 ·have h1:=Hj ht (hk m (.inl rfl)) h0
  have e0:u9 t=(match pq [] (aP t).1 with
   | .error r=>([],pw t.length r,71)
   | .ok x=>if(gg [] [qj x.1]).2=0 then(x.1,0,0) else([],0,(gg [] [qj x.1]).2)):=aj h0
  refine iA (aL ay Tryz.func15 ?_)
  ·simp only[go_sem];refine ab (h1.mono ?_);clear h1;rintro r H' m1 aN ⟨l1,rfl,rfl⟩;simp only[go_sem];refine⟨fun h=>absurd trivial h,?_⟩;refine pO 8 73 23 (by decide) rfl ?_;refine cO ay (fun y:PSt×List St×List Value×Nat×Mem=>⟨[⟨5,[],.box 1 0⟩,⟨8,[],.vec 2 y.2.2.2.1⟩],[],[IL t.length y.1],[⟨2,y.2.2.2.1,73,23,y.2.1.length,y.2.2.1⟩,Eo (aP t).1],40,y.2.2.2.2⟩)
    (fun y=>an m1 y.2.2.2.2/\Inv (aP t).1 y.1/\y.2.1.length<=y.1.i+(if y.1.fl=true then 1 else 0)/\y.2.2.1.length=y.2.1.length * 23/\bF y.2.2.2.2 y.2.1 y.2.2.1/\∀a s',Res (aP t).1 t.length y.1 (pq y.2.1 ((aP t).1.drop y.1.i)) a s' ->Res (aP t).1 t.length ⟨0,false,0⟩ (pq [] (aP t).1) a s')
    (fun y=>if y.1.fl=true then 0 else(aP t).1.length - y.1.i+1) (⟨0,false,0⟩,[],[],0,m1) (fun _ _=>dL rfl) (fun y hy=>hy.1) ?_ ?_ ?_
   ·simp only[go_sem];exact rfl
   ·exact⟨.inl rfl,⟨au _,fun h=>(by cases h)⟩,au _,rfl,dN _ _,fun a s' h=>h⟩
   ·rintro⟨s4,ds,xs,u,m4⟩ ⟨q1,q2,q3,q4,q5,q6⟩;dsimp only at q1 q2 q3 q4 q5 q6;have hl:=hT.len;have dM:=q2.le;have hm:=Gn (en:=t.length) (s:=s4) hT m4;by_cases hi:s4.i<(aP t).1.length
    ·have hf:=q2.nfl hi;rw[bX hi] at hm;have hb:=fun m' =>stw (en:=t.length) hT q2 m'
     rw[ae (by rw[hf];decide)] at q3;simp only[go_sem];refine ab (hm.mono ?_);clear hm;rintro r H' m5 cW ⟨rfl,rfl,rfl⟩;simp only[go_sem];refine ab ((hb m5).mono ?_);clear hb;rintro r H' m6 fb ⟨l6,x6,d6,s6,rfl,hd6,rfl,hR6⟩;have sL:=hR6.mono;have fI:=lW hR6 hf (MW _);have xT:=hR6.inv.le;simp only[go_sem];refine⟨fK (by omega) (by decide),(s6,ds++[d6],xs++x6.cs,u+1,m6),⟨rfl,⟨rfl,rfl,rfl⟩,⟨rfl,by simp,rfl⟩,.inl rfl⟩,⟨aa q1 l6,hR6.inv,?_,by simp only[bM,fr,q4,Sd.cs,cv,eM];omega,De hd6 q4 (nN l6 q5),fun a s' h=>q6 a s' ?_⟩,?_⟩
     ·dsimp only;rw[bM,fr];rcases fI with h |h
      ·rw[aj h];omega
      ·omega
     ·rw[MZ,ae (fun h=>by have:=congrArg List.length h;rw[cH] at this;simp at this;omega)];exact aR hR6 h
     ·dsimp only;rw[ae (by rw[hf];decide:¬s4.fl=true)];rcases fI with h |h
      ·rw[aj h];omega
      ·split<;>omega
    ·rw[bo hi] at hm;have lP:(aP t).1.drop s4.i=[]:=List.drop_eq_nil_of_le (by omega);have b9:Res (aP t).1 t.length ⟨0,false,0⟩ (pq [] (aP t).1) ds s4:=by
      refine q6 _ _ ?_;by_cases hf:s4.fl=true
      ·exact AP ds q2 hf
      ·rw[MZ,aj lP,<- lP];exact bY _ q2
     simp only[go_sem];refine ab (hm.mono ?_);clear hm;rintro r H' m5 cW ⟨rfl,rfl,rfl⟩;simp only[go_sem];refine⟨fun hf=> ?_,fun hf=> ?_⟩
     ·refine cg (.hoist 0 (.hoist 1 (.hoist 2 (.hoist 3 (.hoist 4 (.hoist 5 (.hoist 6 .done))))))) ay (by kernel_rfl) (by kernel_rfl) ?_;simp only[go_sem];have e:u9 t=([],s4.off,71):=by
       cases hK:pq [] (aP t).1 with
       |ok p=>
        obtain⟨x,r⟩:=p;have:=(b9.ok rfl x r hK).2.1;rw[hf] at this;cases this
       |error r=>
        rw[e0,hK,(b9.er rfl r hK).2]
      rw[e];exact .inl ⟨aa l1 q1,none,0,0,rfl,(G7 _),rfl⟩
     ·intro a c m6 w1 w2 w3;refine⟨by kernel_rfl,fun a9 c9 m7 v1 v2 v3=>dh ?_⟩;have hK:pq [] (aP t).1= .ok (ds,[]):=by
       cases hK:pq [] (aP t).1 with
       |error r=>
        have:=(b9.er rfl r hK).1;rw[hf] at this;cases this
       |ok p=>
        obtain⟨x,r⟩:=p;obtain⟨k1,k2,k3⟩:=b9.ok rfl x r hK;rw[k1,k3,lP]
      have j9:([qj ds].map fG).sum<=1048576:=by
       have:=WI (aP t).1 ds [] hK;have:=uS t;simp only[br,List.map_nil,List.sum_cons,List.sum_nil,fG,qj,eM] at *;omega
      rw[hK] at e0;have sN:ds.length<=aA:=by unfold aA;have:=uS t;have hb:(if s4.fl=true then 1 else 0)<=1:=(by split<;>decide);omega
      have xP:CdOk (qj ds):=⟨(⟨by decide,by decide⟩:az 0),(by decide:([65]:List UInt8).length<=aA),(by decide:ld.length<=aA),au _,fun s hs=>(by cases hs),au _,fun s hs=>(by cases hs),au _,sN⟩;have hcd:jW m7 (qj ds) (Cc.cs ⟨0,[65],ld,none,0,0,none,0,0,none,0,0,a,ds.length,c⟩):=
       ⟨_,⟨rfl,rfl,rfl,rfl⟩,⟨rfl,aq _,rfl,aq _,rfl,aq _,rfl,w2⟩,xP,cX _ _,cX _ _,[],xs,cX _ _,trivial,aD (.inr v1) w3,nN (aa (.inr w1) (.inr v1)) q5⟩
      have bh:qW m7 [qj ds] a9 1 c9:=⟨rfl,v2,by decide,_,v3,⟨hcd,trivial⟩⟩;have hc:=KJ [qj ds] a9 1 c9 m7 (hg.upM (aa l1 (aa q1 (aa (.inr w1) (.inr v1))))).1 (L4 j9) bh;refine hc.mono ?_;clear hc;rintro r H' m8 ku ⟨l8,rfl,rfl⟩;simp only[go_sem];refine⟨fun aV=> ?_,fun aV=> ?_⟩
      ·have e:u9 t=([],0,(gg [] [qj ds]).2):=by rw[e0];exact ae aV
       rw[e];exact .inl ⟨aa l1 (aa q1 (aa (.inr w1) (aa (.inr v1) l8))),none,0,0,rfl,G7 _,rfl⟩
      ·have e:u9 t=(ds,0,0):=by rw[e0];exact aj aV
       rw[e];exact wH (b:=⟨2,u,73,23,ds.length,xs⟩) (by simp [cN]) fun a8 c8 mz x1 x2 x3=>⟨aa l1 (aa q1 (aa (.inr w1) (aa (.inr v1) (aa l8 (.inr x1))))),a8,ds.length,c8,rfl,⟨rfl,x2,sN,xs,x3,nN (aa (.inr w1) (aa (.inr v1) (aa l8 (.inr x1)))) q5⟩,rfl⟩
 ·have h1:=Hk ht (hk m (.inl rfl)) h0;have e0:u9 t=([],(aP t).2.1,(aP t).2.2):=ae h0;rw[e0];refine aL ay Tryz.func15 ?_
  ·simp only[go_sem];refine ab (h1.mono ?_);clear h1;rintro r H' m1 aN ⟨l1,rfl,rfl⟩;simp only[go_sem];refine⟨fun _=>⟨l1,none,0,0,rfl,(G7 _),rfl⟩,fun h=>absurd h h0⟩
noncomputable def mR (t:List UInt8):Ex×Int×Int:=
 if(aP t).2.2=0 then(match pt (aP t).1 with
  | .error r=>(zE,pw t.length r,71)
  | .ok x=>if dS x.1=true then(if 24<bL x.1 then(zE,0,9) else(x.1,0,0)) else(zE,0,4))
 else(zE,(aP t).2.1,(aP t).2.2)
abbrev adR (x:Ex×Int×Int) (m:Mem):SV->Hp->Mem->Prop:=fun r H' m' =>an m m' /\∃(y:Nd),r= .tup [.agg y.svs,.v (.int .i64 x.2.1),.v (.int .i64 x.2.2)]/\bk m' x.1 y.cs/\H' =⟨[],[]⟩
theorem C4 (t:List UInt8) (m:Mem) (hg:GlobX m) (ht:t.length<=4611686018427387904):FnH Tryz.prog 13 [.v (.string (bs t))] ⟨[],[]⟩ m (adR (mR t) m):=by
 have hk:=fun m' (h:an m m')=>Ft t m' (hg.upM h) ht
 have hT:=DE t;have hl:=uS t;have hz:∀m',bk m' zE (Nd.cs ⟨0,0,[],[],ai,none,0,0⟩):=fun m' =>lY ⟨by decide,by decide⟩ ⟨by decide,by decide⟩ (au _) (au _) cI
 by_cases h0:(aP t).2.2=0
 ·have h1:=Hj ht (hk m (.inl rfl)) h0
  have e0:mR t=(match pt (aP t).1 with
   | .error r=>(zE,pw t.length r,71)
   | .ok x=>if dS x.1=true then(if 24<bL x.1 then(zE,0,9) else(x.1,0,0)) else(zE,0,4)):=aj h0
  have Fh:Inv (aP t).1 ⟨0,false,0⟩:=⟨au _,fun h=>(by cases h)⟩;have hE:∀m' :Mem,FnH Tryz.prog 31 [.box 0 0,.v (.int .i64 0)] (pH (aP t).1 t.length ⟨0,false,0⟩) m' (gu (aP t).1 t.length ⟨0,false,0⟩ (cj 0 (aP t).1) m'):=(tb hT Fh).expr 0 (by decide);refine aL ay Tryz.func13 ?_
  ·simp only[go_sem];refine ab (h1.mono ?_);clear h1;rintro r H' m1 aN ⟨l1,rfl,rfl⟩;simp only[go_sem];refine⟨fun h=>absurd trivial h,by kernel_rfl,dh ((hE m1).mono ?_)⟩;clear hE;rintro r H' m2 aH ⟨l2,x,e,s2,rfl,hx,rfl,hR⟩;have vZ:=Gn (en:=t.length) (s:=s2) hT m2;have Je:=fun m' =>Aj (aP t).1 t.length s2 m' hT.l8
   simp only[go_sem];by_cases hi:s2.i<(aP t).1.length
   ·rw[bX hi] at vZ;have b9:Res (aP t).1 t.length ⟨0,false,0⟩ (pt (aP t).1) e (jV (aP t).1 t.length s2):=by
     refine aR hR ?_;rw[ae (fun h=>by have:=congrArg List.length h;rw[cH] at this;simp at this;omega)];exact Dg _ hR.inv
    refine ab (vZ.mono ?_);clear vZ;rintro r H' m3 bN ⟨rfl,rfl,rfl⟩;simp only[go_sem];refine ab ((Je m3).mono ?_);clear Je;rintro r H' m4 dd ⟨rfl,rfl,rfl⟩;simp only[go_sem];refine⟨fun hf=> ?_,fun hf=> ?_⟩
    ·refine cg (.hoist 0 (.hoist 1 (.hoist 2 (.hoist 3 (.hoist 4 (.alt 5 [4,3,2,1] (.hoist 6 (.hoist 7 .done)) .stop)))))) ay (by kernel_rfl) (by kernel_rfl) ?_;simp only[go_sem];have e1:mR t=(zE,(jV (aP t).1 t.length s2).off,71):=by
      cases hK:pt (aP t).1 with
      |ok p=>
       obtain⟨y,r⟩:=p;have:=(b9.ok rfl y r hK).2.1;rw[hf] at this;cases this
      |error r=>rw[e0,hK,(b9.er rfl r hK).2]
     rw[e1];exact⟨(aa l1 l2),⟨0,0,[],[],ai,none,0,0⟩,rfl,hz _,rfl⟩
    ·rw[Az] at hf;cases hf
   ·rw[bo hi] at vZ;have lP:(aP t).1.drop s2.i=[]:=List.drop_eq_nil_of_le (by omega);have b9:Res (aP t).1 t.length ⟨0,false,0⟩ (pt (aP t).1) e s2:=by
     refine aR hR ?_;by_cases hf:s2.fl=true
     ·exact AP e hR.inv hf
     ·rw[aj lP,<- lP];exact bY _ hR.inv
    refine ab (vZ.mono ?_);clear vZ Je;rintro r H' m3 bN ⟨e3,rfl,rfl⟩;have l3:an m2 m3:= .inl e3.symm;simp only[go_sem];refine⟨fun hf=> ?_,fun hf=> ?_⟩
    ·refine cg (.hoist 0 (.hoist 1 (.hoist 2 (.hoist 3 (.hoist 4 (.alt 5 [4,3,2,1] (.hoist 6 (.hoist 7 .done)) .stop)))))) ay (by kernel_rfl) (by kernel_rfl) ?_;simp only[go_sem];have e1:mR t=(zE,(s2).off,71):=by
      cases hK:pt (aP t).1 with
      |ok p=>
       obtain⟨y,r⟩:=p;have:=(b9.ok rfl y r hK).2.1;rw[hf] at this;cases this
      |error r=>rw[e0,hK,(b9.er rfl r hK).2]
     rw[e1];exact⟨(aa l1 (aa l2 l3)),⟨0,0,[],[],ai,none,0,0⟩,rfl,hz _,rfl⟩
    ·have hK:pt (aP t).1= .ok (e,[]):=by
      cases hK:pt (aP t).1 with
      |error r=>
       have:=(b9.er rfl r hK).1;rw[hf] at this;cases this
      |ok p=>
       obtain⟨y,r⟩:=p;obtain⟨k1,k2,k3⟩:=b9.ok rfl y r hK;rw[k1,k3,lP]
     have ac8:bL e<=aA:=by
      have h1:=VR (aP t).1;cases hE:cj 0 (aP t).1 with
      |error r=>rw[pt,hE] at hK;cases hK
      |ok p=>
       obtain⟨y,r⟩:=p;obtain⟨k1,_,_⟩:=hR.ok rfl y r hE;have:=h1 y r hE;have:=yo e;rw[<- k1] at *;unfold aA;omega
     rw[hK] at e0;have hv:=aX (jY:=[.agg x.svs]) (pM _ e x.cs m3 (aq _) (hg.upM (aa l1 (aa l2 l3))).1 (aZ l3 hx)) (fun V=>rfl);refine ab (hv.mono ?_);clear hv;rintro r H' m4 dd ⟨l4,rfl,rfl⟩;simp only[go_sem];refine⟨fun hv=> ?_,fun hv=> ?_⟩
     ·have e1:mR t=(zE,0,4):=by rw[e0];exact ae (by rw[hv];decide)
      rw[e1];exact⟨aa (aa l1 (aa l2 l3)) l4,⟨0,0,[],[],ai,none,0,0⟩,rfl,hz _,rfl⟩
     ·have hd:=aX (jY:=[.agg x.svs]) (An _ e x.cs m4 (aq _) ac8 (aZ (aa l3 l4) hx)) (fun V=>rfl);refine ab (hd.mono ?_);clear hd;rintro r H' m5 cW ⟨l5,rfl,rfl⟩;simp only[go_sem];have e1:mR t=if 24<bL e then(zE,0,9) else(e,0,0):=by rw[e0];exact aj hv
      refine⟨fun hd=> ?_,fun hd=> ?_⟩
      ·rw[e1,aj (by omega)];exact⟨aa (aa l1 (aa l2 l3)) (aa l4 l5),⟨0,0,[],[],ai,none,0,0⟩,rfl,hz _,rfl⟩
      ·rw[e1,ae (by omega)];exact⟨aa (aa l1 (aa l2 l3)) (aa l4 l5),x,rfl,aZ (aa l3 (aa l4 l5)) hx,rfl⟩
 ·have h1:=Hk ht (hk m (.inl rfl)) h0;have e0:mR t=(zE,(aP t).2.1,(aP t).2.2):=ae h0;rw[e0];refine aL ay Tryz.func13 ?_
  ·simp only[go_sem];refine ab (h1.mono ?_);clear h1;rintro r H' m1 aN ⟨l1,rfl,rfl⟩;simp only[go_sem];refine⟨fun _=>⟨l1,⟨0,0,[],[],ai,none,0,0⟩,rfl,hz _,rfl⟩,fun h=>absurd h h0⟩
theorem yI {α:Type} {g:Nat->PR α} {K:PR α} (F:Nat) (h:∀f,g (f+F)=K):jx g=K:=jk ⟨F,fun f hf=>by
 have:=h (f - F)
 rwa [Nat.sub_add_cancel hf] at this⟩
def w1:List UInt8:=[97,32,43,32,98,32,42,32,45,32,99]
def w2:List UInt8:=[120,32,105,115,32,65,32,61,61,32,49]
def w3:List UInt8:=[97,32,43]
def w4:List UInt8:=[97,32,43,32,41,32,98]
def w5:List UInt8:=[99,108,97,115,115,32,65,32,101,120,116,101,110,100,115,32,66]
def w6:List UInt8:=[49,32,61,32,50,32,59]
def loc (s:List UInt8):Ex:= .mk 6 0 s [] ai []
def v1:Ex:= .mk 16 0 [43] [] ai [loc [97],.mk 16 0 [42] [] ai [loc [98],.mk 15 0 [45] [] ai [loc [99]]]]
def v2:Ex:= .mk 16 0 [61,61] [] ai [.mk 18 0 [] [] ⟨0,76,[65]⟩ [loc [120]],.mk 1 1 [] [] ai []]
def t1:List Tk:=[⟨1,[97],0,0⟩,⟨6,[43],0,2⟩,⟨1,[98],0,4⟩,⟨6,[42],0,6⟩,⟨6,[45],0,8⟩,⟨1,[99],0,10⟩]
def t2:List Tk:=[⟨1,[120],0,0⟩,⟨2,[105,115],0,2⟩,⟨1,[65],0,5⟩,⟨6,[61,61],0,7⟩,⟨3,[],1,10⟩]
def t3:List Tk:=[⟨1,[97],0,0⟩,⟨6,[43],0,2⟩]
def t4:List Tk:=[⟨1,[97],0,0⟩,⟨6,[43],0,2⟩,⟨6,[41],0,4⟩,⟨1,[98],0,6⟩]
def t5:List Tk:=[⟨2,[99,108,97,115,115],0,0⟩,⟨1,[65],0,6⟩,⟨2,[101,120,116,101,110,100,115],0,8⟩,⟨1,[66],0,16⟩]
def t6:List Tk:=[⟨3,[],1,0⟩,⟨6,[61],0,2⟩,⟨3,[],2,4⟩,⟨6,[59],0,6⟩]
def s6:List St:=[.mk 2 [] ai (.mk 1 1 [] [] ai []) (.mk 1 2 [] [] ai []) [] []]
theorem tk1:aP w1=(t1,0,0):=by kernel_rfl
theorem tk2:aP w2=(t2,0,0):=by kernel_rfl
theorem tk3:aP w3=(t3,0,0):=by kernel_rfl
theorem tk4:aP w4=(t4,0,0):=by kernel_rfl
theorem tk5:aP w5=(t5,0,0):=by kernel_rfl
theorem tk6:aP w6=(t6,0,0):=by kernel_rfl
theorem kx1:cj 0 t1= .ok (v1,[]):=yI 60 fun f=>by kernel_rfl
theorem kx2:cj 0 t2= .ok (v2,[]):=yI 60 fun f=>by kernel_rfl
theorem kx3:cj 0 t3= .error []:=yI 60 fun f=>by kernel_rfl
theorem kx4:cj 0 t4= .error [⟨6,[41],0,4⟩,⟨1,[98],0,6⟩]:=yI 60 fun f=>by kernel_rfl
theorem kx5:lA [] t5= .error []:=yI 60 fun f=>by kernel_rfl
theorem kx6:pq [] t6= .ok (s6,[]):=yI 60 fun f=>by kernel_rfl
theorem acd:mR w1=(v1,0,0):=by
 have hv:dS v1=true:=by kernel_rfl
 have hd:¬24<bL v1:=by rw[show bL v1=4 by kernel_rfl];decide
 unfold mR pt;rw[tk1,aj rfl];dsimp only;rw[kx1];simp only[av,aj,hv,ae hd]
theorem acb:mR w2=(v2,0,0):=by
 have hv:dS v2=true:=by kernel_rfl
 have hd:¬24<bL v2:=by rw[show bL v2=3 by kernel_rfl];decide
 unfold mR pt;rw[tk2,aj rfl];dsimp only;rw[kx2];simp only[av,aj,hv,ae hd]
theorem aca:mR w3=(zE,3,71):=by
 unfold mR pt;rw[tk3,aj rfl];dsimp only;rw[kx3];rfl
theorem ab9:mR w4=(zE,4,71):=by
 unfold mR pt;rw[tk4,aj rfl];dsimp only;rw[kx4];rfl
theorem ab8:lX w5=([],17,71):=by
 unfold lX;rw[tk5,aj rfl];dsimp only;rw[kx5];rfl
theorem ab7:u9 w6=([],0,4):=by
 have hc:(gg [] [qj s6]).2=4:=by kernel_rfl
 unfold u9;rw[tk6,aj rfl];dsimp only;rw[kx6];dsimp only;rw[hc];rfl
theorem Ak {m:Mem} {k n:Int} {s c:List UInt8} {ty:Ty} {es:List Ex} {y:Nd} (h:bk m (.mk k n s c ty es) y.cs):∃(a:Option Addr) (cp:Nat) (xs:List Value),y.svs=Nd.svs ⟨k,n,s,c,ty,a,es.length,cp⟩/\y.cs=Nd.cs ⟨k,n,s,c,ty,a,es.length,cp⟩/\es.length<=cp/\aK m a es.length 8 xs/\ea m es xs:=by
 simp only[bk] at h;obtain⟨a,cp,xs,h1,h2,h3,h4,h5⟩:=h;refine⟨a,cp,xs,?_,h1,h2,h3,h5⟩;clear h3 h4 h5;simp only[Nd.cs,dt,List.cons.injEq,Value.int.injEq,Value.string.injEq,Value.slice.injEq,true_and,and_true] at h1;obtain⟨e1,e2,e3,e4,e5,e6,e7,e8,e9,gQ⟩:=h1;simp only[Nd.svs,e1,e2,e3,e4,e5,e6,e7,e8,e9,gQ]
theorem Hs {m:Mem} {e1 e2:Ex} {xs:List Value} (hl:xs.length=2 * 8) (h:ea m [e1,e2] xs):∃y1 y2:Nd,xs=y1.cs++y2.cs/\bk m e1 y1.cs/\bk m e2 y2.cs:=by
 simp only[ea,and_true] at h;obtain⟨y1,h1⟩:=qI h.1;obtain⟨y2,h2⟩:=qI h.2;have e:(xs.drop 8).take 8=xs.drop 8:=gm (by rw[cH];omega);refine⟨y1,y2,?_,by rw[<- h1];exact h.1,by rw[<- h2];exact h.2⟩;rw[<- h1,<- h2,e,List.take_append_drop]
theorem Wu (m:Mem) (hg:GlobX m):FnH Tryz.prog 13 [.v (.string (bs w1))] ⟨[],[]⟩ m fun r H' m' =>an m m' /\∃(a b d:Option Addr) (cp cq cr:Nat) (z1 u1:Nd),r= .tup [.agg (Nd.svs ⟨16,0,[43],[],ai,a,2,cp⟩),.v (.int .i64 0),.v (.int .i64 0)]/\
  aK m' a 2 8 (z1.cs++Nd.cs ⟨16,0,[42],[],ai,b,2,cq⟩)/\aK m' b 2 8 (u1.cs++Nd.cs ⟨15,0,[45],[],ai,d,1,cr⟩)/\H' =⟨[],[]⟩:=by
 have h:=C4 w1 m hg (by decide);rw[acd] at h;refine h.mono ?_;rintro r H' m' hm ⟨l1,y,rfl,hy,rfl⟩;obtain⟨a,cp,xs,ey,_,bl,hr,hs⟩:=Ak hy;obtain⟨z1,z2,rfl,sV,uA⟩:=Hs hr.1 hs;obtain⟨b,cq,xs2,_,ez,wa,bJ,uB⟩:=Ak uA;obtain⟨u1,u2,rfl,hu1,hu2⟩:=Hs bJ.1 uB;obtain⟨d,cr,xs3,_,eu,Jg,hr3,hs3⟩:=Ak hu2;rw[ez] at hr;rw[eu] at bJ;exact⟨l1,a,b,d,cp,cq,cr,z1,u1,by rw[ey];rfl,hr,bJ,rfl⟩
theorem Wt (m:Mem) (hg:GlobX m):FnH Tryz.prog 13 [.v (.string (bs w2))] ⟨[],[]⟩ m fun r H' m' =>an m m' /\∃(a b:Option Addr) (cp cq:Nat) (z2:Nd),r= .tup [.agg (Nd.svs ⟨16,0,[61,61],[],ai,a,2,cp⟩),.v (.int .i64 0),.v (.int .i64 0)]/\
  aK m' a 2 8 (Nd.cs ⟨18,0,[],[],⟨0,76,[65]⟩,b,1,cq⟩++z2.cs)/\H' =⟨[],[]⟩:=by
 have h:=C4 w2 m hg (by decide);rw[acb] at h;refine h.mono ?_;rintro r H' m' hm ⟨l1,y,rfl,hy,rfl⟩;obtain⟨a,cp,xs,ey,_,bl,hr,hs⟩:=Ak hy;obtain⟨z1,z2,rfl,sV,uA⟩:=Hs hr.1 hs;obtain⟨b,cq,xs2,_,ez,wa,bJ,uB⟩:=Ak sV;rw[ez] at hr;exact⟨l1,a,b,cp,cq,z2,by rw[ey];rfl,hr,rfl⟩
theorem AQ {m:Mem} {x:Value} {cs:List Value} (h:Rd m x cs):Ei x:=by obtain⟨a,rfl,_⟩:=h;exact⟨a,rfl⟩
theorem R2 (m:Mem) (hg:GlobX m):FnH Tryz.prog 9 [] ⟨[],[]⟩ m fun r H' m' =>an m m' /\r= .v (.bool true)/\H' =⟨[],[]⟩:=by
 have h1:=fun m' (h:an m m')=>Wu m' (hg.upM h)
 have h2:=fun m' (h:an m m')=>Wt m' (hg.upM h)
 have h3:=fun m' (h:an m m')=>C4 w3 m' (hg.upM h) (by decide)
 have h4:=fun m' (h:an m m')=>C4 w4 m' (hg.upM h) (by decide)
 have h5:=fun m' (h:an m m')=>K3 w5 m' (hg.upM h) (by decide)
 have h6:=fun m' (h:an m m')=>Wd w6 m' (hg.upM h) (by decide)
 rw[aca] at h3;rw[ab9] at h4;rw[ab8] at h5;rw[ab7] at h6;refine aL ay Tryz.func9 ?_
 ·simp only[go_sem];refine ab ((h1 m (.inl rfl)).mono ?_);clear h1;rintro r H' m1 aN ⟨l1,a,b,d,cp,cq,cr,z1,u1,rfl,hr,bJ,rfl⟩;simp only[go_sem];refine ab ((h2 m1 l1).mono ?_);clear h2;rintro r H' m2 aH ⟨l2,a',b',cp',cq',z2,rfl,hr3,rfl⟩;simp only[go_sem];refine ab ((h3 m2 (aa l1 l2)).mono ?_);clear h3;rintro r H' m3 bN ⟨l3,y3,rfl,vV,rfl⟩;simp only[go_sem];refine ab ((h4 m3 (aa (aa l1 l2) l3)).mono ?_);clear h4;rintro r H' m4 dd ⟨l4,y4,rfl,hy4,rfl⟩;simp only[go_sem];refine ab ((h5 m4 (aa (aa (aa l1 l2) l3) l4)).mono ?_);clear h5;rintro r H' m5 cW ⟨l5,a5,n5,c5,rfl,hp5,rfl⟩;simp only[go_sem];refine ab ((h6 m5 (aa (aa (aa (aa l1 l2) l3) l4) l5)).mono ?_);clear h6;rintro r H' m6 fb ⟨l6,a6,n6,c6,rfl,hp6,rfl⟩;simp only[go_sem];have u1:an m1 m6:=aa l2 (aa l3 (aa l4 (aa l5 l6)));have u2:an m2 m6:=aa l3 (aa l4 (aa l5 l6));have hA:=dG (aD u1 hr) (i:=1) (by decide);have Cs:Rd m6 (ct a 8) (Nd.cs ⟨16,0,[42],[],ai,b,2,cq⟩):=hA.1;have QL:Rd m6 (pT (ct a 8) 7) [.slice b 2 cq]:=jH Cs 7 1 (by simp [Nd.cs]);have Cr:Rd m6 (pT (ct a 8) 2) [.string (bs [42])]:=jH Cs 2 1 (by simp [Nd.cs]);have hB:=dG (aD u1 bJ) (i:=1) (by decide);have QK:Rd m6 (ct b 8) (Nd.cs ⟨15,0,[45],[],ai,d,1,cr⟩):=hB.1;have ew:Rd m6 (pT (ct b 8) 0) [.int .i64 15]:=jH QK 0 1 (by simp [Nd.cs]);have hC:=dG (aD u2 hr3) (i:=0) (by decide);have QJ:Rd m6 (ct a' 0) (Nd.cs ⟨18,0,[],[],⟨0,76,[65]⟩,b',1,cq'⟩):=hC.1;have hC0:Rd m6 (pT (ct a' 0) 0) [.int .i64 18]:=jH QJ 0 1 (by simp [Nd.cs]);refine⟨fun _=>⟨by decide,by decide,hA.2⟩,fun _=>AQ Cs,.slice b 2 cq,fun _=>QL,?_⟩
  simp only[go_sem];refine⟨fun h=>(by simp at h),fun h=>⟨⟨by decide,by decide,hA.2⟩,AQ Cs,.string (bs [42]),Cr,?_⟩⟩;simp only[go_sem];refine⟨⟨by decide,by decide,hA.2⟩,AQ Cs,.slice b 2 cq,QL,?_⟩;simp only[go_sem];refine⟨⟨by decide,by decide,hB.2⟩,AQ QK,.int .i64 15,ew,?_⟩;simp only[go_sem];refine⟨⟨by decide,by decide,hC.2⟩,AQ QJ,.int .i64 18,hC0,?_⟩;simp only[go_sem];exact aa l1 u1
def sT (t:Tk):Tk:=⟨t.k,t.s,t.n,0⟩
def sl (l:List Tk):List Tk:=l.map sT
def ms {α:Type}:PR α->PR α
 | .ok x=> .ok (x.1,sl x.2)
 | .error r=> .error (sl r)
theorem Tl (a b:Md) (ca cb:List Value) (m:Mem) (ha:gq m a ca) (hb:gq m b cb):aB 60 [.v (.agg ⟨ca⟩),.v (.agg ⟨cb⟩)] m (.bool (qy a b)):=by
 obtain⟨fl,res,name,params,hb0,body⟩:=a;obtain⟨fl',res',name',nO,hb0',rj⟩:=b;obtain⟨x,⟨rfl,rfl,rfl,rfl,rfl⟩,⟨jQ,uC,hl,bl⟩,ax,r1,xs,r2,s2⟩:=ha;obtain⟨x',⟨rfl,rfl,rfl,rfl,rfl⟩,⟨hpl',hpc',kv,hcp'⟩,hok',r1',xs',r2',s2'⟩:=hb;simp only at jQ hl hpl' kv r1 r1' s2 s2';have bp:x.pl<=aA:=by rw[jQ];exact ax.pl
 have hB:=KV _ body rj x.a x.l x.cp x'.a x'.l x'.cp xs xs' m (aq _) hl kv (by rw[hl];exact ax.l) (by rw[kv];exact hok'.l) r2 r2' s2 s2';clear s2 s2';have hX:qy ⟨x.fl,x.res,x.name,params,x.hb,body⟩ ⟨x'.fl,x'.res,x'.name,nO,x'.hb,rj⟩=(decide (x.fl=x'.fl)&&Ty.eq x.res x'.res&&decide (x.name=x'.name)&&(x.hb==x'.hb)&&(decide (params.length=nO.length)&&fX params.length (fe Pc.eq params nO))&&ib body rj):=by rw[qy,qE]
 refine enter gA ay Tryz.func60 rfl rfl (by kernel_rfl) rfl ?_ ?_
 ·simp only[go_sem,Mc.cs]
 ·simp only[go_sem,Mc.cs,qc];refine⟨by kernel_rfl,fun h=> ?_,fun h=> ?_⟩
  ·clear hB;rw[hX];simp only[Ty.eq];rcases h with (((h |h |h |h) |h) |h) |h
   ·simp [h]
   ·simp [h]
   ·simp [h]
   ·simp [h]
   ·simp [h]
   ·simp [h]
   ·rw[bo (by omega:¬params.length=nO.length)];simp
  ·have pE:params.length=nO.length:=by clear hB;omega
   have uG:qy ⟨x.fl,x.res,x.name,params,x.hb,body⟩ ⟨x'.fl,x'.res,x'.name,nO,x'.hb,rj⟩=(fX params.length (fe Pc.eq params nO)&&ib body rj):=by
    rw[hX];simp only[Ty.eq,h,pE,aF,Bool.true_and]
   clear hX;refine fg ay (fun y:Nat=>⟨[⟨2,[],.box 0 0⟩,⟨3,[],.box 1 0⟩,⟨5,[],.v (.int .i64 y)⟩],[],[⟨0,98,x.cs.map .v⟩,⟨1,98,x'.cs.map .v⟩],[],2,m⟩)
    (fun y=>y<=x.pl/\fX y (fe Pc.eq params nO)=true) (fun y=>x.pl - y) 0 (by kernel_rfl) (fun _ _=>aq _) (fun y hy=> .inl rfl) (fun _=> ?_) ?_ ?_ ?_
   ·simp only[go_sem,Mc.cs]
   ·simp only[go_sem,Mc.cs];rfl
   ·exact⟨au _,rfl⟩
   ·rintro k ⟨h2,h3⟩;have hy:∀(hk:k<params.length) (iu:k<nO.length),(Rd m (ct x.pa (k * 4)) (params[k]).cs/\x.pa≠none)/\(Rd m (ct x'.pa (k * 4)) (nO[k]).cs/\x'.pa≠none)/\fe Pc.eq params nO k=Pc.eq params[k] nO[k]:=fun hk iu=>by
     have q1:=dG r1 (by omega:k<x.pl);have q2:=dG r1' (by omega:k<x'.pl);rw[qN (f:=Pc.cs) (sz:=4) (fun _=>rfl) hk] at q1;rw[qN (f:=Pc.cs) (sz:=4) (fun _=>rfl) iu] at q2;exact⟨q1,q2,yR hk iu⟩
    simp only[go_sem,Mc.cs];refine⟨fun ao=> ?_,fun cQ=> ?_⟩
    ·have hk:k<params.length:=by clear hB;omega
     have iu:k<nO.length:=by clear hB;omega
     have bb:=hy hk iu;clear hy hB;refine kC ay (by kernel_rfl) (by kernel_rfl) (by kernel_rfl) ?_;simp only[go_sem,Mc.cs];refine⟨⟨by omega,ao,bb.1.2⟩,(params[k]).cs,⟨bb.1.1,rfl⟩,⟨by omega,by omega,bb.2.1.2⟩,(nO[k]).cs,⟨bb.2.1.1,rfl⟩,?_⟩;have ig:=bb.2.2;clear bb;simp only[go_sem,Mc.cs,Pc.cs,aaq];refine⟨fun cP=> ?_,fun he=>⟨by unfold az;simp only[aA] at bp;omega,k+1,by simp,⟨by omega,?_⟩,by omega⟩⟩
     ·rw[uG,kW hk]
      ·rfl
      ·rw[ig,Pc.eq];rcases cP with h |h |h |h<;>simp [h]
     ·rw[r0,h3,ig,Pc.eq];simp [he]
    ·clear hy;have ep:k=params.length:=by clear hB;omega
     have xS:=uG;rw[<- ep,h3,Bool.true_and] at xS;refine ab (hB.mono ?_);clear hB;rintro r H' m2 aH ⟨l2,rfl,rfl⟩;simp only[go_sem,Mc.cs];exact⟨l2,xS.symm⟩
theorem Mu {α:Type} [DecidableEq α]:∀(l l2:List α),decide (l=l2)=jn (fun a b=>decide (a=b)) l l2
 |[],[]=>rfl
 |[],_::_=>rfl
 |_::_,[]=>rfl
 |a::r,b::t=>by
  rw[jn,<- Mu r t];by_cases h:a=b
  ·subst h;by_cases h2:r=t
   ·subst h2;simp
   ·simp [h2]
  ·simp [h]
set_option maxHeartbeats 8000000 in
theorem Tm (a b:Cd) (ca cb:List Value) (m:Mem) (ha:jW m a ca) (hb:jW m b cb):aB 30 [.v (.agg ⟨ca⟩),.v (.agg ⟨cb⟩)] m (.bool (qz a b)):=by
 obtain⟨fl,name,super,ifs,fields,methods,init⟩:=a;obtain⟨fl',name',super',ni,nR,tr,init'⟩:=b;obtain⟨x,⟨rfl,rfl,rfl,rfl⟩,⟨dM,hic,fk,hfc,hml,hmc,fT,hsc⟩,ax,r1,r2,xs,ys,r3,s3,r4,s4⟩:=ha;obtain⟨x',⟨rfl,rfl,rfl,rfl⟩,⟨hil',hic',hfn',hfc',hml',hmc',hsl',hsc'⟩,hok',r1',r2',xs',ys',r3',s3',r4',s4'⟩:=hb;simp only at dM fk hml fT r1 r2 s3 s4 hil' hfn' hml' hsl' r1' r2' s3' s4';have bi:x.il<=aA:=by rw[dM];exact ax.il
 have bf:x.fn<=aA:=by rw[fk];exact ax.fn
 have bm:x.ml<=aA:=by rw[hml];exact ax.ml
 have hB:=fun m' (hle:an m m')=>KV _ init init' x.sa x.sl x.sc x'.sa x'.sl x'.sc ys ys' m' (aq _) fT hsl' (by rw[fT];exact ax.l) (by rw[hsl'];exact hok'.l) (aD hle r4) (aD hle r4') (dv hle s4) (dv hle s4')
 have hM:=fun m' (hle:an m m')=>DL (R:=gq) (uK:=Mc.cs) (e:=qy) (f:=60) (fun _ _ _ _ h=>qH h) (fun _ _ _=>Dk) (fun i hi=>qH hle (pf s3 hi)) (fun i hi=>qH hle (pf s3' hi)) (fun a ha b hb ca cb m2 aY=>Tl a b ca cb m2)
 clear s3 s3' s4 s4';have hX:qz ⟨x.fl,x.name,x.super,ifs,fields,methods,init⟩ ⟨x'.fl,x'.name,x'.super,ni,nR,tr,init'⟩=(decide (x.fl=x'.fl)&&decide (x.name=x'.name)&&decide (x.super=x'.super)&&(decide (ifs.length=ni.length)&&fX ifs.length (fe (fun a b=>decide (a=b)) ifs ni))&&(decide (fields.length=nR.length)&&fX fields.length (fe Fc.eq fields nR))&&(decide (methods.length=tr.length)&&fX methods.length (fe qy methods tr))&&ib init init'):=by
  simp only[qz];rw[Mu ifs ni,qE,qE,qE]
 refine enter gA ay Tryz.func30 rfl rfl (by kernel_rfl) rfl ?_ ?_
 ·simp only[go_sem,Cc.cs]
 ·simp only[go_sem,Cc.cs];refine⟨fun h=> ?_,fun h=> ?_⟩
  ·clear hB hM;rw[hX];rcases h with ((((h |h) |h) |h) |h) |h
   ·simp [h]
   ·simp [h]
   ·simp [h]
   ·rw[bo (by omega:¬ifs.length=ni.length)];simp
   ·rw[bo (by omega:¬fields.length=nR.length)];simp
   ·rw[bo (by omega:¬methods.length=tr.length)];simp
  ·have e1:ifs.length=ni.length:=by clear hB hM;omega
   have e2:fields.length=nR.length:=by clear hB hM;omega
   have e3:methods.length=tr.length:=by clear hB hM;omega
   have uG:qz ⟨x.fl,x.name,x.super,ifs,fields,methods,init⟩ ⟨x'.fl,x'.name,x'.super,ni,nR,tr,init'⟩=(fX ifs.length (fe (fun a b=>decide (a=b)) ifs ni)&&fX fields.length (fe Fc.eq fields nR)&&fX methods.length (fe qy methods tr)&&ib init init'):=by
    rw[hX];simp only[h,e1,e2,e3,aF,Bool.true_and]
   clear hX;refine fg ay (fun y:Nat=>⟨[⟨2,[],.box 0 0⟩,⟨3,[],.box 1 0⟩,⟨5,[],.v (.int .i64 y)⟩],[],[⟨0,59,x.cs.map .v⟩,⟨1,59,x'.cs.map .v⟩],[],2,m⟩)
    (fun y=>y<=x.il/\fX y (fe (fun a b=>decide (a=b)) ifs ni)=true) (fun y=>x.il - y) 0 (by kernel_rfl) (fun _ _=>aq _) (fun y hy=> .inl rfl) (fun _=> ?_) ?_ ?_ ?_
   ·simp only[go_sem,Cc.cs]
   ·simp only[go_sem,Cc.cs];rfl
   ·exact⟨au _,rfl⟩
   ·rintro k ⟨h2,h3⟩;have hy:∀(hk:k<ifs.length) (iu:k<ni.length),(Rd m (ct x.ia k) [.string (bs ifs[k])]/\x.ia≠none)/\(Rd m (ct x'.ia k) [.string (bs ni[k])]/\x'.ia≠none)/\fe (fun a b=>decide (a=b)) ifs ni k=decide (ifs[k]=ni[k]):=fun hk iu=>⟨AB r1 hk,AB r1' iu,yR hk iu⟩
    simp only[go_sem,Cc.cs];refine⟨fun ao=> ?_,fun cQ=> ?_⟩
    ·have hk:k<ifs.length:=by clear hB hM;omega
     have iu:k<ni.length:=by clear hB hM;omega
     have bb:=hy hk iu;clear hy hB hM;refine kC ay (by kernel_rfl) (by kernel_rfl) (by kernel_rfl) ?_;simp only[go_sem,Cc.cs];refine⟨⟨by omega,ao,bb.1.2⟩,.string (bs ifs[k]),bb.1.1,⟨by omega,by omega,bb.2.1.2⟩,.string (bs ni[k]),bb.2.1.1,?_⟩;have ig:=bb.2.2;clear bb;simp only[go_sem,Cc.cs];refine⟨fun cP=> ?_,fun he=>⟨by unfold az;simp only[aA] at bi;omega,k+1,by simp,⟨by omega,?_⟩,by omega⟩⟩
     ·rw[uG,kW hk]
      ·rfl
      ·rw[ig,bo cP]
     ·rw[r0,h3,ig,bX he];rfl
    ·clear hy;have aV:k=ifs.length:=by clear hB hM;omega
     have xS:=uG;rw[<- aV,h3,Bool.true_and] at xS;clear uG;refine fg ay (fun y:Nat=>⟨[⟨2,[],.box 0 0⟩,⟨3,[],.box 1 0⟩,⟨6,[],.v (.int .i64 y)⟩],[],[⟨0,59,x.cs.map .v⟩,⟨1,59,x'.cs.map .v⟩],[],2,m⟩)
      (fun y=>y<=x.fn/\fX y (fe Fc.eq fields nR)=true) (fun y=>x.fn - y) 0 (by kernel_rfl) (fun _ _=>aq _) (fun y hy=> .inl rfl) (fun _=> ?_) ?_ ?_ ?_
     ·simp only[go_sem,Cc.cs]
     ·simp only[go_sem,Cc.cs];rfl
     ·exact⟨au _,rfl⟩
     ·rintro j ⟨q2,q3⟩;have hy:∀(hk:j<fields.length) (iu:j<nR.length),(Rd m (ct x.fa (j * 5)) (fields[j]).cs/\x.fa≠none)/\(Rd m (ct x'.fa (j * 5)) (nR[j]).cs/\x'.fa≠none)/\fe Fc.eq fields nR j=Fc.eq fields[j] nR[j]:=fun hk iu=>by
       have q1:=dG r2 (by omega:j<x.fn);have q2:=dG r2' (by omega:j<x'.fn);rw[qN (f:=Fc.cs) (sz:=5) (fun _=>rfl) hk] at q1;rw[qN (f:=Fc.cs) (sz:=5) (fun _=>rfl) iu] at q2;exact⟨q1,q2,yR hk iu⟩
      simp only[go_sem,Cc.cs];refine⟨fun ao=> ?_,fun agh=> ?_⟩
      ·have hk:j<fields.length:=by clear hB hM;omega
       have iu:j<nR.length:=by clear hB hM;omega
       have bb:=hy hk iu;clear hy hB hM;refine kC ay (by kernel_rfl) (by kernel_rfl) (by kernel_rfl) ?_;simp only[go_sem,Cc.cs];refine⟨⟨by omega,ao,bb.1.2⟩,(fields[j]).cs,⟨bb.1.1,rfl⟩,⟨by omega,by omega,bb.2.1.2⟩,(nR[j]).cs,⟨bb.2.1.1,rfl⟩,?_⟩;have ig:=bb.2.2;clear bb;simp only[go_sem,Cc.cs,Fc.cs,aar];refine⟨fun cP=> ?_,fun he=>⟨by unfold az;simp only[aA] at bf;omega,j+1,by simp,⟨by omega,?_⟩,by omega⟩⟩
       ·rw[xS,kW hk]
        ·rfl
        ·rw[ig,Fc.eq];rcases cP with h |h |h |h |h<;>simp [h]
       ·rw[r0,q3,ig,Fc.eq];simp [he]
      ·clear hy;have b8:j=fields.length:=by clear hB hM;omega
       have Fe:=xS;rw[<- b8,q3,Bool.true_and] at Fe;clear xS;refine fg ay (fun y:Nat×Mem=>⟨[⟨2,[],.box 0 0⟩,⟨3,[],.box 1 0⟩,⟨7,[],.v (.int .i64 y.1)⟩],[],[⟨0,59,x.cs.map .v⟩,⟨1,59,x'.cs.map .v⟩],[],2,y.2⟩)
        (fun y=>an m y.2/\y.1<=x.ml/\fX y.1 (fe qy methods tr)=true) (fun y=>x.ml - y.1) (0,m) (by kernel_rfl) (fun _ _=>aq _) (fun y hy=>hy.1) (fun _=> ?_) ?_ ?_ ?_
       ·simp only[go_sem,Cc.cs]
       ·simp only[go_sem,Cc.cs];rfl
       ·exact⟨.inl rfl,au _,rfl⟩
       ·rintro⟨i,mm⟩ ⟨g1,g2,g3⟩;simp only at g1 g2 g3;have hy:∀(hk:i<methods.length),∃X Y:Mc,(Rd mm (ct x.ma (i * 8)) X.cs/\x.ma≠none)/\(Rd mm (ct x'.ma (i * 8)) Y.cs/\x'.ma≠none)/\aB 60 [.v (.agg ⟨X.cs⟩),.v (.agg ⟨Y.cs⟩)] mm (.bool (fe qy methods tr i)):=fun hk=>by
         obtain⟨X,Y,e1,e2,e3⟩:=hM mm g1 i hk e3;have q1:=dG (aD g1 r3) (by omega:i<x.ml);have q2:=dG (aD g1 r3') (by omega:i<x'.ml);rw[e1] at q1;rw[e2] at q2;exact⟨X,Y,q1,q2,e3 mm (.inl rfl)⟩
        clear hM;have Jq:=hB mm g1;clear hB;simp only[go_sem,Cc.cs];refine⟨fun ao=> ?_,fun agf=>ab (Jq.mono ?_)⟩
        ·clear Jq;have hk:i<methods.length:=by clear hy;omega
         refine cg (.hoist 0 (.hoist 1 (.hoist 2 (.hoist 3 (.hoist 4 (.hoist 5 (.hoist 6 (.hoist 7 (.hoist 8 (.hoist 9 (.alt 10 [] (.hoist 11 .done) .stop))))))))))) ay (by kernel_rfl) (by kernel_rfl) ?_;simp only[go_sem,Cc.cs];refine Exists.elim (hy hk) fun X dY=>Exists.elim dY fun Y fj=>⟨⟨by clear hy dY fj;omega,ao,fj.1.2⟩,X.cs,⟨fj.1.1,rfl⟩,⟨by clear hy dY fj;omega,by clear hy dY fj;omega,fj.2.1.2⟩,Y.cs,⟨fj.2.1.1,rfl⟩,?_⟩
         clear hy dY;have ha:=fj.2.2;clear fj;simp only[go_sem,Cc.cs,Mc.cs];refine ab ((aX ha (fun V=>rfl)).mono ?_);clear ha;rintro r H' m2 aH ⟨aY,rfl,rfl⟩;simp only[go_sem,Cc.cs];refine⟨fun hb=>⟨aa g1 aY,?_⟩,fun hb=>⟨by unfold az;simp only[aA] at bm;omega,(i+1,m2),⟨by simp,.inl rfl⟩,⟨aa g1 aY,by simp only;omega,?_⟩,by simp only;omega⟩⟩
         ·rw[Fe,kW hk hb];rfl
         ·simp only;rw[r0,g3,hb];rfl
        ·clear hy Jq;have xO:i=methods.length:=by omega
         rw[<- xO,g3,Bool.true_and] at Fe;rintro r H' m2 aH ⟨l2,rfl,rfl⟩;simp only[go_sem,Cc.cs];exact⟨aa g1 l2,Fe.symm⟩
theorem RG (a b:List Cd) (p:Option Addr) (n c:Nat) (p' :Option Addr) (n' c' :Nat) (m:Mem) (ha:qW m a p n c) (hb:qW m b p' n' c'):aB 12 [.v (.slice p n c),.v (.slice p' n' c')] m (.bool (jn qz a b)):=by
 obtain⟨hl,bl,hn,xs,r1,s1⟩:=ha;obtain⟨kv,hcp',xN,xs',r1',s1'⟩:=hb;have hX:jn qz a b=(decide (a.length=b.length)&&fX a.length (fe qz a b)):=qE _ _ _;have hM:=fun m' (hle:an m m')=>DL (R:=jW) (uK:=Cc.cs) (e:=qz) (f:=30) (fun _ _ _ _ h=>nM h) (fun _ _ _=>V9) (fun i hi=>nM hle (pf s1 hi)) (fun i hi=>nM hle (pf s1' hi)) (fun a ha b hb ca cb m2 aY=>Tm a b ca cb m2)
 clear s1 s1';refine aL ay Tryz.func12 ?_
 ·simp only[go_sem];refine⟨fun cP=> ?_,fun heq=> ?_⟩
  ·rw[hX,bo (by clear hM;omega:¬a.length=b.length)];rfl
  ·have pE:a.length=b.length:=by clear hM;omega
   rw[bX pE,Bool.true_and] at hX;refine cO ay (fun y:Nat×Mem=>⟨[⟨0,[],.v (.slice p n c)⟩,⟨1,[],.v (.slice p' n' c')⟩,⟨5,[],.v (.int .i64 y.1)⟩],[],[],[],0,y.2⟩)
    (fun y=>an m y.2/\y.1<=n/\fX y.1 (fe qz a b)=true) (fun y=>n - y.1) (0,m) (fun _ _=>aq _) (fun y hy=>hy.1) ?_ ?_ ?_
   ·simp only[go_sem];rfl
   ·exact⟨.inl rfl,au _,rfl⟩
   ·rintro⟨k,mm⟩ ⟨h1,h2,h3⟩;simp only at h1 h2 h3;have hy:∀(hk:k<a.length),∃X Y:Cc,(Rd mm (ct p (k * 7)) X.cs/\p≠none)/\(Rd mm (ct p' (k * 7)) Y.cs/\p' ≠none)/\aB 30 [.v (.agg ⟨X.cs⟩),.v (.agg ⟨Y.cs⟩)] mm (.bool (fe qz a b k)):=fun hk=>by
     obtain⟨X,Y,e1,e2,e3⟩:=hM mm h1 k hk pE;have q1:=dG (aD h1 r1) (by omega:k<n);have q2:=dG (aD h1 r1') (by omega:k<n');rw[e1] at q1;rw[e2] at q2;exact⟨X,Y,q1,q2,e3 mm (.inl rfl)⟩
    clear hM;simp only[go_sem];refine⟨fun ao=> ?_,fun cQ=> ?_⟩
    ·have hk:k<a.length:=by clear hy;omega
     refine cg (.hoist 0 (.hoist 1 (.hoist 2 (.hoist 3 (.hoist 4 (.hoist 5 (.hoist 6 (.hoist 7 (.alt 8 [] (.hoist 9 .done) .stop))))))))) ay (by kernel_rfl) (by kernel_rfl) ?_;simp only[go_sem];refine Exists.elim (hy hk) fun X dY=>Exists.elim dY fun Y fj=>⟨⟨by clear hy dY fj;omega,ao,fj.1.2⟩,X.cs,⟨fj.1.1,rfl⟩,⟨by clear hy dY fj;omega,by clear hy dY fj;omega,fj.2.1.2⟩,Y.cs,⟨fj.2.1.1,rfl⟩,?_⟩
     clear hy dY;have ha:=fj.2.2;clear fj;simp only[go_sem,Cc.cs];refine ab ((aX ha (fun V=>rfl)).mono ?_);clear ha;rintro r H' m2 aH ⟨aY,rfl,rfl⟩;simp only[go_sem,Cc.cs];refine⟨fun hb=>⟨aa h1 aY,?_⟩,fun hb=>⟨by unfold az;simp only[aA] at hn;omega,(k+1,m2),⟨by simp,.inl rfl⟩,⟨aa h1 aY,by simp only;omega,?_⟩,by simp only;omega⟩⟩
     ·rw[hX,kW hk hb]
     ·simp only;rw[r0,h3,hb];rfl
    ·have:k=a.length:=by clear hy;omega
     refine⟨h1,?_⟩;rw[hX,<- this,h3]
theorem Ty.eq_self (x:Ty):Ty.eq x x=true:=by simp [Ty.eq]
theorem pN {α:Type} [DecidableEq α] (a b:α):decide (a=b)=decide (b=a):=by rw[decide_eq_decide];exact eq_comm
theorem Ty.eq_comm (x y:Ty):Ty.eq x y=Ty.eq y x:=by rw[Ty.eq,Ty.eq,pN x.dim,pN x.base,pN x.name]
mutual
theorem G3:∀(e:Ex),iP e e=true
 | .mk k n s c ty args=>by rw[iP,Ty.eq_self,Ls args];simp
theorem Ls:∀(l:List Ex),nl l l=true
 |[]=>by simp only[nl]
 |e::r=>by rw[nl,G3 e,Ls r];rfl
end
mutual
theorem VV:∀(e:St),de e e=true
 | .mk k nm ty tg ex body alt=>by rw[de,Ty.eq_self,G3,G3,Al body,Al alt];simp
theorem Al:∀(l:List St),ib l l=true
 |[]=>by simp only[ib]
 |e::r=>by rw[ib,VV e,Al r];rfl
end
theorem Ar {α:Type} {e:α->α->Bool} (h:∀a,e a a=true):∀(l:List α),jn e l l=true
 |[]=>rfl
 |a::r=>by rw[jn,h,Ar h r];rfl
theorem Pc.eq_self (p:Pc):Pc.eq p p=true:=by simp [Pc.eq]
theorem Fc.eq_self (p:Fc):Fc.eq p p=true:=by simp [Fc.eq]
theorem Pc.eq_comm (p q:Pc):Pc.eq p q=Pc.eq q p:=by rw[Pc.eq,Pc.eq,pN p.ty.dim,pN p.ty.base,pN p.ty.name,pN p.name]
theorem Fc.eq_comm (p q:Fc):Fc.eq p q=Fc.eq q p:=by rw[Fc.eq,Fc.eq,pN p.fl,pN p.ty.dim,pN p.ty.base,pN p.ty.name,pN p.name]
theorem VW (x:Md):qy x x=true:=by rw[qy,Ty.eq_self,Ar Pc.eq_self,Al];simp
theorem VX (x:Cd):qz x x=true:=by rw[qz,Ar Fc.eq_self,Ar VW,Al];simp
theorem Yn {f:FuncId} {t:List UInt8} {m:Mem} (h:FnH Tryz.prog f [.v (.string (bs t))] ⟨[],[]⟩ m fun r H' m' =>an m m' /\vJ (aP t) r H') (h0:(aP t).2.2=0):
  FnH Tryz.prog f [.v (.string (bs t))] ⟨[],[]⟩ m fun r H' m' =>an m m' /\r= .tup [.vec 0 0,.v (.int .i64 (aP t).2.1),.v (.int .i64 0)]/\H' =⟨[],[⟨0,0,50,4,(aP t).1.length,cG (aP t).1⟩]⟩:=
 (H9 h).mono fun r H' m' _ h=>by
  rcases h with ⟨l1,⟨_,h3,h4⟩ |⟨h3,_⟩⟩
  ·rw[h0] at h3;exact⟨l1,h3,h4⟩
  ·exact absurd h0 h3
theorem Yp {f:FuncId} {t:List UInt8} {m:Mem} (h:FnH Tryz.prog f [.v (.string (bs t))] ⟨[],[]⟩ m fun r H' m' =>an m m' /\vJ (aP t) r H') (h0:¬(aP t).2.2=0):
  FnH Tryz.prog f [.v (.string (bs t))] ⟨[],[]⟩ m fun r H' m' =>an m m' /\r= .tup [.v (.slice none 0 0),.v (.int .i64 (aP t).2.1),.v (.int .i64 (aP t).2.2)]/\H' =⟨[],[]⟩:=
 (H9 h).mono fun r H' m' _ h=>by
  rcases h with ⟨l1,⟨h3,_⟩ |⟨_,_,h3,h4⟩⟩
  ·exact absurd h3 h0
  ·exact⟨l1,h3,h4⟩
theorem Pk (n:Int) (s c:List UInt8) (ty:Ty):fv [] n s c ty=(decide (n=0)&&decide (s=[])&&decide (c=[])&&Ty.eq ty ai):=by simp [fv]
theorem zero_eq (k n:Int) (s c:List UInt8) (ty:Ty) (l:Nat):(decide (k=0)&&fv [] n s c ty&&decide ((l:Int)=0))=kh k n s c ty l:=by
 rw[Pk,kh];grind
theorem UO (k n:Int) (s c:List UInt8) (ty:Ty) (l:Nat):(decide (k=0)&&fv [] n s c ty&&decide ((l:Int)<=16))=(kh k n s c ty 0&&decide (l<=16)):=by
 rw[Pk,kh];grind
theorem Se (k n:Int) (s c:List UInt8) (ty:Ty) (a:Option Addr) (l cp:Nat) (m:Mem):FnH Tryz.prog 215 [.v (.agg ⟨dt k n s c ty (.slice a l cp)⟩)] ⟨[],[]⟩ m fun r H' _=>r= .v (.bool (kh k n s c ty l))/\H' =⟨[],[]⟩:=by
 refine enter Cy zF Tryz.func215 rfl rfl (by kernel_rfl) rfl ?_ ?_
 ·simp only[go_sem,dt]
 ·simp only[go_sem,dt];exact zero_eq k n s c ty l
def Ec:List Value->Option (Prop×Value)
 |[.agg ⟨[.int .i64 k,.int .i64 n,.string s,.string c,.int .i64 d,.int .u8 b,.string nm,.slice _ l _]⟩]=>some (True,.bool (kh k n (tl s) (tl c) ⟨d,b,tl nm⟩ l))
 |_=>none
attribute [go_sem] Ec.eq_1
theorem Vg:ou Tryz.prog 215 Ec:=fun cL y hy _ m=>by
 unfold Ec at hy;split at hy
 ·rename_i k n s c d b nm a l cp;cases hy;have:=Se k n (tl s) (tl c) ⟨d,b,tl nm⟩ a l cp m;simp only[dt,lH] at this;exact this
 ·cases hy
theorem Rw (k:Int) (nm:List UInt8) (ty:Ty) (c5 c6 c7 c8 c9 JG JF c12 JE JD CA JC JB JA Jz c20 c21 rY:Value) (t:Bool) (m:Mem) (h1:BL nm) (h2:BL ty.name):
  FnH Tryz.prog 243 [.v (.agg ⟨[.int .i64 k,.string (bs nm),.int .i64 ty.dim,.int .u8 ty.base,.string (bs ty.name),c5,c6,c7,c8,c9,JG,JF,c12,JE,JD,CA,JC,JB,JA,Jz,c20,c21,rY]⟩),.v (.bool t)] ⟨[],[]⟩ m fun r H' _=>r= .v (.bool (kD nm ty t))/\H' =⟨[],[]⟩:=by
 refine aL zF Tryz.func243 ?_
 ·simp only[go_sem,qc];exact⟨fun h=>⟨h2,fun _=>h1,by rw[kD,aj h]⟩,fun h=>by rw[kD,ae (by simp [h])];rfl⟩
def DU:List Value->Option (Prop×Value)
 |[.agg ⟨[.int .i64 _,.string s,.int .i64 d,.int .u8 b,.string nm,_,_,_,_,_,_,_,_,_,_,_,_,_,_,_,_,_,_]⟩,.bool t]=>some (BL (tl s)/\BL (tl nm),.bool (kD (tl s) ⟨d,b,tl nm⟩ t))
 |_=>none
attribute [go_sem] DU.eq_1
theorem TI:ou Tryz.prog 243 DU:=fun cL y hy hB m=>by
 unfold DU at hy;split at hy
 ·rename_i k s d b nm c5 c6 c7 c8 c9 JG JF c12 JE JD CA JC JB JA Jz c20 c21 rY t;cases hy;have:=Rw k (tl s) ⟨d,b,tl nm⟩ c5 c6 c7 c8 c9 JG JF c12 JE JD CA JC JB JA Jz c20 c21 rY t m hB.1 hB.2;simp only[lH] at this;exact this
 ·cases hy
abbrev oL:Cfg:=fP (fun _=>false) [(215,Ec),(243,DU)]
theorem pA:cK oL Tryz.prog:=pure_cons (by kernel_rfl) Vg (pure_cons (by kernel_rfl) TI pure_nil)
theorem Sk (e:Ex) (cs:List Value) (m:Mem) (he:bk m e cs):aB 219 [.v (.agg ⟨cs⟩)] m (.bool (uZ e)):=by
 cases e with
 |mk k n s c ty args=>
  simp only[bk] at he;obtain⟨a,cp,xs,rfl,bl,hr,ax,fm⟩:=he;have hn:=ax.2.2.2.2.2;refine enter Cy zF Tryz.func219 rfl rfl (by kernel_rfl) rfl ?_ ?_
  ·simp only[go_sem,dt]
  ·simp only[go_sem,dt];refine fg zF (fun x:Nat×Mem=>⟨[⟨1,[],.box 0 0⟩,⟨3,[],.v (.int .i64 x.1)⟩],[],[⟨0,33,(dt k n s c ty (.slice a args.length cp)).map .v⟩],[],1,x.2⟩)
    (fun x=>an m x.2/\x.1<=args.length/\kT (args.take x.1)=true) (fun x=>args.length - x.1) (0,m) (by kernel_rfl) (fun _ _=>aq _) (fun x hx=>hx.1) (fun _=> ?_) ?_ ?_ ?_
   ·simp only[go_sem,dt]
   ·simp only[go_sem,dt];rfl
   ·exact⟨.inl rfl,au _,by simp [kT]⟩
   ·rintro⟨i,mm⟩ ⟨h1,h2,h3⟩;simp only at h1 h2 h3;have hx:∀(hi:i<args.length),∃x:Nd,Rd mm (ct a (i * 8)) x.cs/\a≠none/\aB 36 [.v (.agg ⟨x.cs⟩)] mm (.bool (dS args[i])):=fun hi=>by
     have bh:=aZ h1 (tJ fm hi);obtain⟨x,hx⟩:=qI bh;have cu:=dG (aD h1 hr) hi;rw[hx] at bh cu;exact⟨x,cu.1,cu.2,CQ _ args[i] x.cs mm (aq _) bh⟩
    simp only[go_sem,dt];refine⟨fun ao=> ?_,fun cQ=> ?_⟩
    ·refine Exists.elim (hx (by clear hx;omega)) fun x cB=>⟨⟨by clear hx cB;omega,ao,cB.2.1⟩,x.cs,⟨cB.1,rfl⟩,?_⟩
     clear hx;have ha:=cB.2.2;simp only[go_sem,Nd.cs,dt];refine ab ((aX ha (fun V=>rfl)).mono ?_);clear cB ha;rintro r H' m2 aH ⟨aY,rfl,rfl⟩;simp only[go_sem,dt];have hi:i<args.length:=by omega
     refine⟨fun hv=>⟨aa h1 aY,?_⟩,fun hv=>⟨by unfold az;simp only[aA] at hn;omega,(i+1,m2),⟨by simp,.inl rfl⟩,⟨aa h1 aY,by simp only;omega,?_⟩,by simp only;omega⟩⟩
     ·rw[uZ,Kj hi hv,Bool.and_false]
     ·simp only;rw[Fw hi,h3,hv];rfl
    ·clear hx;rw[gm (by omega)] at h3;refine⟨h1,?_⟩;rw[uZ,h3,Bool.and_true];exact UO k n s c ty args.length
theorem FF (sup:Bool) (l:List St) (a:Option Addr) (n c:Nat) (xs:List Value) (m:Mem) (hl:n=l.length) (hr:aK m a n 23 xs) (hs:bF m l xs) (hn:n<=aA)
  (hV:∀e∈l,∀cs m',an m m' ->fu m' e cs->aB 172 [.v (.agg ⟨cs⟩)] m' (.bool (iB e))):
  aB 108 [.v (.slice a n c),.v (.bool sup)] m (.bool (fD sup l)):=by
 refine aL ay Tryz.func108 ?_
 ·simp only[go_sem];refine cO ay (fun x:Nat×Mem=>⟨[⟨0,[],.v (.slice a n c)⟩,⟨1,[],.v (.bool sup)⟩,⟨5,[],.v (.int .i64 x.1)⟩],[],[],[],0,x.2⟩)
    (fun x=>an m x.2/\x.1<=n/\jj sup (l.take x.1)=true) (fun x=>n - x.1) (0,m) (fun _ _=>aq _) (fun x hx=>hx.1) ?_ ?_ ?_
  ·simp only[go_sem];rfl
  ·exact⟨.inl rfl,au _,by simp [jj]⟩
  ·rintro⟨k,mm⟩ ⟨h1,h2,h3⟩;simp only at h1 h2 h3;have hy:∀(hk:k<l.length),∃X:Sd,(Rd mm (ct a (k * 23)) X.cs/\a≠none)/\X.k=l[k].k/\aB 172 [.v (.agg ⟨X.cs⟩)] mm (.bool (iB l[k])):=fun hk=>by
    have bh:=tj h1 (qQ hs hk);have I7:∃X:Sd,(xs.drop (k * 23)).take 23=X.cs/\X.k=l[k].k:=by
     cases kP:l[k] with
     |mk k' nm ty tg ex body alt=>
      rw[kP] at bh;obtain⟨X,e1,e2,_⟩:=tq bh;exact⟨X,e1,e2⟩
    obtain⟨X,e1,e2⟩:=I7;have r1:=dG (aD h1 hr) (by omega:k<n);rw[e1] at r1 bh;exact⟨X,r1,e2,hV _ (List.getElem_mem hk) _ _ h1 bh⟩
   clear hV;simp only[go_sem];refine⟨fun ao=> ?_,fun cQ=>⟨h1,?_⟩⟩
   ·have hk:k<l.length:=by clear hy;omega
    refine Exists.elim (hy hk) fun X bb=>⟨⟨by clear hy bb;omega,ao,bb.1.2⟩,lz bb.1.1,.int .i64 X.k,jH bb.1.1 0 1 (dL rfl),?_⟩
    clear hy;have ep:=bb.2.1;have ha:=bb.2.2;have aS:=bb.1.1;have hrn:=bb.1.2;clear bb;simp only[go_sem,Sd.cs,Nd.cs];refine⟨fun _=>⟨by omega,ao,hrn⟩,X.cs,fun _=>⟨aS,rfl⟩,fun hc=>ab (ha.mono ?_),fun hc=>⟨h1,?_⟩⟩
    ·clear ha;have hb:oD sup k l[k]=iB l[k]:=by
      rw[ep] at hc;rcases hc with hc |hc
      ·simp [oD,hc]
      ·have:k=0:=by omega
       simp [oD,hc.1,this]
     rintro r H' m2 aH ⟨aY,rfl,rfl⟩;simp only[go_sem];refine⟨fun hv=>⟨aa h1 aY,?_⟩,fun hv=>⟨by unfold az;simp only[aA] at hn;omega,(k+1,m2),⟨by simp,.inl rfl⟩,⟨aa h1 aY,by simp only;omega,?_⟩,by simp only;omega⟩⟩
     ·rw[fD,CN hk (by rw[hb];exact hv),Bool.and_false]
     ·simp only;rw[CF hk,h3,hb,hv];rfl
    ·clear ha;rw[ep] at hc;rw[fD,CN hk,Bool.and_false];rcases hc.2 with h0 |h0
     ·simp [oD,hc.1,h0]
     ·have:¬k=0:=by omega
      simp [oD,hc.1,this]
   ·clear hy;rw[gm (by omega)] at h3;rw[fD,h3,Bool.and_true,decide_eq_decide];omega
theorem Rz (X:Sd) (tg ex:Ex) (body alt:List St) (t t2 b1 b2:Bool) (m:Mem) (h1:BL X.name) (h2:BL X.ty.name) (dk:bk m tg X.tg.cs) (hl:X.l=body.length) (bP:X.l2=alt.length)
  (hB:∀m',an m m' ->aB 108 [.v (.slice X.a X.l X.cp),.v (.bool false)] m' (.bool (fD false body)))
  (hA:∀m',an m m' ->aB 108 [.v (.slice X.b X.l2 X.cp2),.v (.bool false)] m' (.bool (fD false alt))):
  aB 218 [.v (.agg ⟨X.cs⟩),.v (.bool t),.v (.bool t2),.v (.bool b1),.v (.bool b2)] m (.bool (iR X.name X.ty tg body alt t t2 b1 b2)):=by
 have hz:mS tg=kh X.tg.k X.tg.n X.tg.s X.tg.c X.tg.ty X.tg.l:=by
  cases tg with
  |mk k n s c ty args=>
   obtain⟨y,hy,e1,e2,e3,e4,e5,e6,_⟩:=tu dk;rw[DX hy,e1,e2,e3,e4,e5,e6];rfl
 refine enter oL pA Tryz.func218 rfl rfl (by kernel_rfl) rfl ?_ ?_
 ·simp only[go_sem,Sd.cs,Nd.cs]
 ·simp only[go_sem,Sd.cs,Nd.cs];have e0:iR X.name X.ty tg body alt t t2 b1 b2=(kD X.name X.ty t&&(t2||mS tg)&&(b1||decide (body.length=0))&&(b2||decide (alt.length=0))&&fD false body&&fD false alt):=rfl;refine⟨⟨h1,h2⟩,fun hc=>ab ((hB m (.inl rfl)).mono ?_),fun hc=> ?_⟩
  ·have q:(kD X.name X.ty t&&(t2||mS tg)&&(b1||decide (body.length=0))&&(b2||decide (alt.length=0)))=true:=by
    rw[hz,<- hl,<- bP];simp only[cY,Bool.or_eq_true,gz];exact⟨⟨⟨hc.1.1.1,hc.1.1.2⟩,Or.elim hc.1.2 .inl fun h=> .inr (by omega)⟩,Or.elim hc.2 .inl fun h=> .inr (by omega)⟩
   rw[e0,q];clear hB e0 q;rintro r H' m1 aN ⟨l1,rfl,rfl⟩;simp only[go_sem];refine⟨fun hb=>ab ((hA m1 l1).mono ?_),fun hb=>⟨l1,by rw[hb];rfl⟩⟩;clear hA;rintro r H' m2 aH ⟨l2,rfl,rfl⟩;simp only[go_sem];exact⟨aa l1 l2,by rw[hb];rfl⟩
  ·clear hA hB;rw[e0,hz,<- hl,<- bP];rcases hc with ((h |h) |h) |h
   ·have h' :kD X.name X.ty t=false:=h;rw[h'];rfl
   ·have h' :kh X.tg.k X.tg.n X.tg.s X.tg.c X.tg.ty X.tg.l=false:=h.2;rw[h',h.1];simp
   ·have h' :decide (X.l=0)=false:=bo (by omega);rw[h',h.1];simp
   ·have h' :decide (X.l2=0)=false:=bo (by omega);rw[h',h.1];simp
theorem ab5 (nm:List UInt8) (ty:Ty) (tN eN:Nd) (a:Option Addr) (l cp:Nat) (b:Option Addr) (l2 cp2:Nat) (m:Mem) (sB:Bool) (hS:aB 218 [.v (.agg ⟨Sd.cs ⟨1,nm,ty,tN,eN,a,l,cp,b,l2,cp2⟩⟩),.v (.bool true),.v (.bool false),.v (.bool false),.v (.bool false)] m (.bool sB)) (xB:Bool) (hX:∀m',an m m' ->aB 36 [.v (.agg ⟨eN.cs⟩)] m' (.bool xB)):aB 172 [.v (.agg ⟨Sd.cs ⟨1,nm,ty,tN,eN,a,l,cp,b,l2,cp2⟩⟩)] m (.bool (sB&&xB)):=by
 refine enter oL pA Tryz.func172 rfl rfl (by kernel_rfl) rfl ?_ ?_
 ·simp only[go_sem,Sd.cs,Nd.cs,Int.reduceEq,aF,aQ]
 ·simp only[go_sem,Sd.cs,Nd.cs,Int.reduceEq,aF,aQ];refine ab ((aX hS (fun V=>rfl)).mono ?_);clear hS;rintro r H' m1 aN ⟨l1,rfl,rfl⟩;simp only[go_sem,Sd.cs,Nd.cs,Int.reduceEq,aF,aQ];refine⟨fun c=>ab ((aX (hX m1 l1) (fun V=>rfl)).mono ?_),fun c=>⟨l1,by rw[c];rfl⟩⟩;clear hX;rintro r H' m2 aH ⟨dD,rfl,rfl⟩;simp only[go_sem,Sd.cs,Nd.cs,Int.reduceEq,aF,aQ];exact⟨aa l1 dD,by rw[c];rfl⟩
theorem ab4 (nm:List UInt8) (ty:Ty) (tN eN:Nd) (a:Option Addr) (l cp:Nat) (b:Option Addr) (l2 cp2:Nat) (m:Mem) (sB:Bool) (hS:aB 218 [.v (.agg ⟨Sd.cs ⟨2,nm,ty,tN,eN,a,l,cp,b,l2,cp2⟩⟩),.v (.bool false),.v (.bool true),.v (.bool false),.v (.bool false)] m (.bool sB)) (xB:Bool) (hX:∀m',an m m' ->aB 36 [.v (.agg ⟨eN.cs⟩)] m' (.bool xB)) (tB:Bool) (hT:∀m',an m m' ->aB 36 [.v (.agg ⟨tN.cs⟩)] m' (.bool tB)):aB 172 [.v (.agg ⟨Sd.cs ⟨2,nm,ty,tN,eN,a,l,cp,b,l2,cp2⟩⟩)] m (.bool (sB&&xB&&tB&&(decide (tN.k=6)||decide (tN.k=7)||decide (tN.k=8)||decide (tN.k=9)))):=by
 refine enter oL pA Tryz.func172 rfl rfl (by kernel_rfl) rfl ?_ ?_
 ·simp only[go_sem,Sd.cs,Nd.cs,Int.reduceEq,aF,aQ]
 ·simp only[go_sem,Sd.cs,Nd.cs,Int.reduceEq,aF,aQ];refine ab ((aX hS (fun V=>rfl)).mono ?_);clear hS;rintro r H' m1 aN ⟨l1,rfl,rfl⟩;simp only[go_sem,Sd.cs,Nd.cs,Int.reduceEq,aF,aQ];refine⟨fun c=>ab ((aX (hX m1 l1) (fun V=>rfl)).mono ?_),fun c=>⟨l1,by rw[c];rfl⟩⟩;clear hX;rintro r H' m2 aH ⟨dD,rfl,rfl⟩;simp only[go_sem,Sd.cs,Nd.cs,Int.reduceEq,aF,aQ];have k2:=aa l1 dD;refine⟨fun c2=>ab ((aX (hT m2 k2) (fun V=>rfl)).mono ?_),fun c2=>⟨k2,by rw[c,c2];rfl⟩⟩;clear hT;rintro r H' m3 bN ⟨l3',rfl,rfl⟩;simp only[go_sem,Sd.cs,Nd.cs,Int.reduceEq,aF,aQ];exact⟨aa k2 l3',by rw[c,c2];rfl⟩
theorem ab3 (nm:List UInt8) (ty:Ty) (tN eN:Nd) (a:Option Addr) (l cp:Nat) (b:Option Addr) (l2 cp2:Nat) (m:Mem) (sB:Bool) (hS:aB 218 [.v (.agg ⟨Sd.cs ⟨3,nm,ty,tN,eN,a,l,cp,b,l2,cp2⟩⟩),.v (.bool false),.v (.bool false),.v (.bool false),.v (.bool false)] m (.bool sB)) (xB:Bool) (hX:∀m',an m m' ->aB 36 [.v (.agg ⟨eN.cs⟩)] m' (.bool xB)):aB 172 [.v (.agg ⟨Sd.cs ⟨3,nm,ty,tN,eN,a,l,cp,b,l2,cp2⟩⟩)] m (.bool (sB&&xB&&(decide (eN.k=10)||decide (eN.k=11)||decide (eN.k=12)||decide (eN.k=13)))):=by
 refine enter oL pA Tryz.func172 rfl rfl (by kernel_rfl) rfl ?_ ?_
 ·simp only[go_sem,Sd.cs,Nd.cs,Int.reduceEq,aF,aQ]
 ·simp only[go_sem,Sd.cs,Nd.cs,Int.reduceEq,aF,aQ];refine ab ((aX hS (fun V=>rfl)).mono ?_);clear hS;rintro r H' m1 aN ⟨l1,rfl,rfl⟩;simp only[go_sem,Sd.cs,Nd.cs,Int.reduceEq,aF,aQ];refine⟨fun c=>ab ((aX (hX m1 l1) (fun V=>rfl)).mono ?_),fun c=>⟨l1,by rw[c];rfl⟩⟩;clear hX;rintro r H' m2 aH ⟨dD,rfl,rfl⟩;simp only[go_sem,Sd.cs,Nd.cs,Int.reduceEq,aF,aQ];exact⟨aa l1 dD,by rw[c];rfl⟩
theorem ab2 (nm:List UInt8) (ty:Ty) (tN eN:Nd) (a:Option Addr) (l cp:Nat) (b:Option Addr) (l2 cp2:Nat) (m:Mem) (sB:Bool) (hS:aB 218 [.v (.agg ⟨Sd.cs ⟨4,nm,ty,tN,eN,a,l,cp,b,l2,cp2⟩⟩),.v (.bool false),.v (.bool false),.v (.bool true),.v (.bool true)] m (.bool sB)) (xB:Bool) (hX:∀m',an m m' ->aB 36 [.v (.agg ⟨eN.cs⟩)] m' (.bool xB)):aB 172 [.v (.agg ⟨Sd.cs ⟨4,nm,ty,tN,eN,a,l,cp,b,l2,cp2⟩⟩)] m (.bool (sB&&xB)):=by
 refine enter oL pA Tryz.func172 rfl rfl (by kernel_rfl) rfl ?_ ?_
 ·simp only[go_sem,Sd.cs,Nd.cs,Int.reduceEq,aF,aQ]
 ·simp only[go_sem,Sd.cs,Nd.cs,Int.reduceEq,aF,aQ];refine ab ((aX hS (fun V=>rfl)).mono ?_);clear hS;rintro r H' m1 aN ⟨l1,rfl,rfl⟩;simp only[go_sem,Sd.cs,Nd.cs,Int.reduceEq,aF,aQ];refine⟨fun c=>ab ((aX (hX m1 l1) (fun V=>rfl)).mono ?_),fun c=>⟨l1,by rw[c];rfl⟩⟩;clear hX;rintro r H' m2 aH ⟨dD,rfl,rfl⟩;simp only[go_sem,Sd.cs,Nd.cs,Int.reduceEq,aF,aQ];exact⟨aa l1 dD,by rw[c];rfl⟩
theorem ab1 (nm:List UInt8) (ty:Ty) (tN eN:Nd) (a:Option Addr) (l cp:Nat) (b:Option Addr) (l2 cp2:Nat) (m:Mem) (sB:Bool) (hS:aB 218 [.v (.agg ⟨Sd.cs ⟨5,nm,ty,tN,eN,a,l,cp,b,l2,cp2⟩⟩),.v (.bool false),.v (.bool false),.v (.bool true),.v (.bool false)] m (.bool sB)) (xB:Bool) (hX:∀m',an m m' ->aB 36 [.v (.agg ⟨eN.cs⟩)] m' (.bool xB)):aB 172 [.v (.agg ⟨Sd.cs ⟨5,nm,ty,tN,eN,a,l,cp,b,l2,cp2⟩⟩)] m (.bool (sB&&xB)):=by
 refine enter oL pA Tryz.func172 rfl rfl (by kernel_rfl) rfl ?_ ?_
 ·simp only[go_sem,Sd.cs,Nd.cs,Int.reduceEq,aF,aQ]
 ·simp only[go_sem,Sd.cs,Nd.cs,Int.reduceEq,aF,aQ];refine ab ((aX hS (fun V=>rfl)).mono ?_);clear hS;rintro r H' m1 aN ⟨l1,rfl,rfl⟩;simp only[go_sem,Sd.cs,Nd.cs,Int.reduceEq,aF,aQ];refine⟨fun c=>ab ((aX (hX m1 l1) (fun V=>rfl)).mono ?_),fun c=>⟨l1,by rw[c];rfl⟩⟩;clear hX;rintro r H' m2 aH ⟨dD,rfl,rfl⟩;simp only[go_sem,Sd.cs,Nd.cs,Int.reduceEq,aF,aQ];exact⟨aa l1 dD,by rw[c];rfl⟩
theorem ab0 (nm:List UInt8) (ty:Ty) (tN eN:Nd) (a:Option Addr) (l cp:Nat) (b:Option Addr) (l2 cp2:Nat) (m:Mem) (sB:Bool) (hS:aB 218 [.v (.agg ⟨Sd.cs ⟨6,nm,ty,tN,eN,a,l,cp,b,l2,cp2⟩⟩),.v (.bool false),.v (.bool false),.v (.bool false),.v (.bool false)] m (.bool sB)) (xB:Bool) (hX:∀m',an m m' ->aB 36 [.v (.agg ⟨eN.cs⟩)] m' (.bool xB)):aB 172 [.v (.agg ⟨Sd.cs ⟨6,nm,ty,tN,eN,a,l,cp,b,l2,cp2⟩⟩)] m (.bool (sB&&(kh eN.k eN.n eN.s eN.c eN.ty eN.l||xB))):=by
 refine enter oL pA Tryz.func172 rfl rfl (by kernel_rfl) rfl ?_ ?_
 ·simp only[go_sem,Sd.cs,Nd.cs,Int.reduceEq,aF,aQ]
 ·simp only[go_sem,Sd.cs,Nd.cs,Int.reduceEq,aF,aQ];refine ab ((aX hS (fun V=>rfl)).mono ?_);clear hS;rintro r H' m1 aN ⟨l1,rfl,rfl⟩;simp only[go_sem,Sd.cs,Nd.cs,Int.reduceEq,aF,aQ];refine⟨fun c=>⟨fun z=>ab ((aX (hX m1 l1) (fun V=>rfl)).mono ?_),fun z=>⟨l1,?_⟩⟩,fun c=>⟨l1,by rw[c];rfl⟩⟩
  ·clear hX;have z:kh eN.k eN.n eN.s eN.c eN.ty eN.l=false:=z;rintro r H' m2 aH ⟨dD,rfl,rfl⟩;simp only[go_sem,Sd.cs,Nd.cs,Int.reduceEq,aF,aQ];exact⟨aa l1 dD,by rw[c,z];rfl⟩
  ·have z:kh eN.k eN.n eN.s eN.c eN.ty eN.l=true:=z;rw[c,z];rfl
theorem abZ (nm:List UInt8) (ty:Ty) (tN eN:Nd) (a:Option Addr) (l cp:Nat) (b:Option Addr) (l2 cp2:Nat) (m:Mem) (sB:Bool) (hS:aB 218 [.v (.agg ⟨Sd.cs ⟨7,nm,ty,tN,eN,a,l,cp,b,l2,cp2⟩⟩),.v (.bool false),.v (.bool false),.v (.bool false),.v (.bool false)] m (.bool sB)) (xB:Bool) (hX:∀m',an m m' ->aB 36 [.v (.agg ⟨eN.cs⟩)] m' (.bool xB)):aB 172 [.v (.agg ⟨Sd.cs ⟨7,nm,ty,tN,eN,a,l,cp,b,l2,cp2⟩⟩)] m (.bool (sB&&xB)):=by
 refine enter oL pA Tryz.func172 rfl rfl (by kernel_rfl) rfl ?_ ?_
 ·simp only[go_sem,Sd.cs,Nd.cs,Int.reduceEq,aF,aQ]
 ·simp only[go_sem,Sd.cs,Nd.cs,Int.reduceEq,aF,aQ];refine ab ((aX hS (fun V=>rfl)).mono ?_);clear hS;rintro r H' m1 aN ⟨l1,rfl,rfl⟩;simp only[go_sem,Sd.cs,Nd.cs,Int.reduceEq,aF,aQ];refine⟨fun c=>ab ((aX (hX m1 l1) (fun V=>rfl)).mono ?_),fun c=>⟨l1,by rw[c];rfl⟩⟩;clear hX;rintro r H' m2 aH ⟨dD,rfl,rfl⟩;simp only[go_sem,Sd.cs,Nd.cs,Int.reduceEq,aF,aQ];exact⟨aa l1 dD,by rw[c];rfl⟩
theorem abY (nm:List UInt8) (ty:Ty) (tN eN:Nd) (a:Option Addr) (l cp:Nat) (b:Option Addr) (l2 cp2:Nat) (m:Mem) (sB:Bool) (hS:aB 218 [.v (.agg ⟨Sd.cs ⟨8,nm,ty,tN,eN,a,l,cp,b,l2,cp2⟩⟩),.v (.bool true),.v (.bool false),.v (.bool true),.v (.bool true)] m (.bool sB)):aB 172 [.v (.agg ⟨Sd.cs ⟨8,nm,ty,tN,eN,a,l,cp,b,l2,cp2⟩⟩)] m (.bool (sB&&kh eN.k eN.n eN.s eN.c eN.ty eN.l)):=by
 refine enter oL pA Tryz.func172 rfl rfl (by kernel_rfl) rfl ?_ ?_
 ·simp only[go_sem,Sd.cs,Nd.cs,Int.reduceEq,aF,aQ]
 ·simp only[go_sem,Sd.cs,Nd.cs,Int.reduceEq,aF,aQ];refine ab ((aX hS (fun V=>rfl)).mono ?_);clear hS;rintro r H' m1 aN ⟨l1,rfl,rfl⟩;simp only[go_sem,Sd.cs,Nd.cs,Int.reduceEq,aF,aQ];exact l1
theorem abX (nm:List UInt8) (ty:Ty) (tN eN:Nd) (a:Option Addr) (l cp:Nat) (b:Option Addr) (l2 cp2:Nat) (m:Mem) (sB:Bool) (hS:aB 218 [.v (.agg ⟨Sd.cs ⟨9,nm,ty,tN,eN,a,l,cp,b,l2,cp2⟩⟩),.v (.bool false),.v (.bool false),.v (.bool true),.v (.bool false)] m (.bool sB)) (xB:Bool) (hX:∀m',an m m' ->aB 36 [.v (.agg ⟨eN.cs⟩)] m' (.bool xB)):aB 172 [.v (.agg ⟨Sd.cs ⟨9,nm,ty,tN,eN,a,l,cp,b,l2,cp2⟩⟩)] m (.bool (sB&&xB)):=by
 refine enter oL pA Tryz.func172 rfl rfl (by kernel_rfl) rfl ?_ ?_
 ·simp only[go_sem,Sd.cs,Nd.cs,Int.reduceEq,aF,aQ]
 ·simp only[go_sem,Sd.cs,Nd.cs,Int.reduceEq,aF,aQ];refine ab ((aX hS (fun V=>rfl)).mono ?_);clear hS;rintro r H' m1 aN ⟨l1,rfl,rfl⟩;simp only[go_sem,Sd.cs,Nd.cs,Int.reduceEq,aF,aQ];refine⟨fun c=>ab ((aX (hX m1 l1) (fun V=>rfl)).mono ?_),fun c=>⟨l1,by rw[c];rfl⟩⟩;clear hX;rintro r H' m2 aH ⟨dD,rfl,rfl⟩;simp only[go_sem,Sd.cs,Nd.cs,Int.reduceEq,aF,aQ];exact⟨aa l1 dD,by rw[c];rfl⟩
theorem ZL (nm:List UInt8) (ty:Ty) (tN eN:Nd) (a:Option Addr) (l cp:Nat) (b:Option Addr) (l2 cp2:Nat) (m:Mem) (sB:Bool) (hS:aB 218 [.v (.agg ⟨Sd.cs ⟨10,nm,ty,tN,eN,a,l,cp,b,l2,cp2⟩⟩),.v (.bool false),.v (.bool false),.v (.bool true),.v (.bool false)] m (.bool sB)):aB 172 [.v (.agg ⟨Sd.cs ⟨10,nm,ty,tN,eN,a,l,cp,b,l2,cp2⟩⟩)] m (.bool (sB&&kh eN.k eN.n eN.s eN.c eN.ty eN.l)):=by
 refine enter oL pA Tryz.func172 rfl rfl (by kernel_rfl) rfl ?_ ?_
 ·simp only[go_sem,Sd.cs,Nd.cs,Int.reduceEq,aF,aQ]
 ·simp only[go_sem,Sd.cs,Nd.cs,Int.reduceEq,aF,aQ];refine ab ((aX hS (fun V=>rfl)).mono ?_);clear hS;rintro r H' m1 aN ⟨l1,rfl,rfl⟩;simp only[go_sem,Sd.cs,Nd.cs,Int.reduceEq,aF,aQ];exact l1
theorem ZK (nm:List UInt8) (ty:Ty) (tN eN:Nd) (a:Option Addr) (l cp:Nat) (b:Option Addr) (l2 cp2:Nat) (m:Mem) (sB:Bool) (hS:aB 218 [.v (.agg ⟨Sd.cs ⟨11,nm,ty,tN,eN,a,l,cp,b,l2,cp2⟩⟩),.v (.bool false),.v (.bool false),.v (.bool false),.v (.bool false)] m (.bool sB)) (xB:Bool) (hX:∀m',an m m' ->aB 219 [.v (.agg ⟨eN.cs⟩)] m' (.bool xB)):aB 172 [.v (.agg ⟨Sd.cs ⟨11,nm,ty,tN,eN,a,l,cp,b,l2,cp2⟩⟩)] m (.bool (sB&&xB)):=by
 refine enter oL pA Tryz.func172 rfl rfl (by kernel_rfl) rfl ?_ ?_
 ·simp only[go_sem,Sd.cs,Nd.cs,Int.reduceEq,aF,aQ]
 ·simp only[go_sem,Sd.cs,Nd.cs,Int.reduceEq,aF,aQ];refine ab ((aX hS (fun V=>rfl)).mono ?_);clear hS;rintro r H' m1 aN ⟨l1,rfl,rfl⟩;simp only[go_sem,Sd.cs,Nd.cs,Int.reduceEq,aF,aQ];refine⟨fun c=>ab ((aX (hX m1 l1) (fun V=>rfl)).mono ?_),fun c=>⟨l1,by rw[c];rfl⟩⟩;clear hX;rintro r H' m2 aH ⟨dD,rfl,rfl⟩;simp only[go_sem,Sd.cs,Nd.cs,Int.reduceEq,aF,aQ];exact⟨aa l1 dD,by rw[c];rfl⟩
theorem ab6 (k:Int) (nm:List UInt8) (ty:Ty) (tN eN:Nd) (a:Option Addr) (l cp:Nat) (b:Option Addr) (l2 cp2:Nat) (m:Mem) (e:∀j:Int,1<=j->j<=11->(k=j)=False):
  aB 172 [.v (.agg ⟨Sd.cs ⟨k,nm,ty,tN,eN,a,l,cp,b,l2,cp2⟩⟩)] m (.bool false):=by
 have e1:=e 1 (by decide) (by decide);have e2:=e 2 (by decide) (by decide);have e3:=e 3 (by decide) (by decide);have e4:=e 4 (by decide) (by decide);have e5:=e 5 (by decide) (by decide);have e6:=e 6 (by decide) (by decide);have e7:=e 7 (by decide) (by decide);have e8:=e 8 (by decide) (by decide);have e9:=e 9 (by decide) (by decide);have gQ:=e 10 (by decide) (by decide);have ke:=e 11 (by decide) (by decide);refine enter oL pA Tryz.func172 rfl rfl (by kernel_rfl) rfl ?_ ?_
 ·simp only[go_sem,Sd.cs,Nd.cs]
 ·simp only[go_sem,Sd.cs,Nd.cs,e1,e2,e3,e4,e5,e6,e7,e8,e9,gQ,ke,aQ]
theorem OY {m:Mem} {e:Ex} {x:Nd} (h:bk m e x.cs):x.k=e.k/\kh x.k x.n x.s x.c x.ty x.l=mS e:=by
 cases e with
 |mk k n s c ty args=>
  obtain⟨y,hy,e1,e2,e3,e4,e5,e6,_⟩:=tu h;rw[DX hy,e1,e2,e3,e4,e5,e6];exact⟨rfl,rfl⟩
theorem FD:∀(h:Nat) (e:St) (cs:List Value) (m:Mem),fh e<=h->fu m e cs->aB 172 [.v (.agg ⟨cs⟩)] m (.bool (iB e))
 |0,.mk k nm ty tg ex body alt,cs,m,hd,_=>by simp [fh] at hd
 |h+1,.mk k nm ty tg ex body alt,cs,m,hd,he=>by
  obtain⟨⟨k,nm,ty,tN,eN,a,l,cp,b,l2,cp2⟩,rfl,rfl,rfl,rfl,dk,hex,hl,bl,bP,dW,ax,xs,ys,r1,r2,s1,s2⟩:=tq he;simp only[fh] at hd;simp only at dk hex hl bl bP dW ax r1 r2;have hB:=fun m' (hle:an m m')=>FF false body a l cp xs m' hl (aD hle r1) (dv hle s1) (by rw[hl];exact ax.l) fun e he cs m2 aY bh=>FD h e cs m2 (by have:=oM he;omega) bh
  have hA:=fun m' (hle:an m m')=>FF false alt b l2 cp2 ys m' bP (aD hle r2) (dv hle s2) (by rw[bP];exact ax.l2) fun e he cs m2 aY bh=>FD h e cs m2 (by have:=oM he;omega) bh
  have hS:=fun(t t2 b1 b2:Bool)=>Rz ⟨k,nm,ty,tN,eN,a,l,cp,b,l2,cp2⟩ tg ex body alt t t2 b1 b2 m (cR ax.nm (by decide)) (cR ax.ty.2.2 (by decide)) dk hl bP hB hA
  have hX:=fun m' (hle:an m m')=>CQ _ ex eN.cs m' (aq _) (aZ hle hex)
  have hT:=fun m' (hle:an m m')=>CQ _ tg tN.cs m' (aq _) (aZ hle dk)
  have hR:=fun m' (hle:an m m')=>Sk ex eN.cs m' (aZ hle hex)
  have nt:=OY dk;have ne:=OY hex;rw[N1];simp only;rcases Mx (k:=k) with hk |hk
  ·rcases hk with rfl |rfl |rfl |rfl |rfl |rfl |rfl |rfl |rfl |rfl |rfl
   ·have h:=ab5 nm ty tN eN a l cp b l2 cp2 m _ (hS true false false false) _ hX;simp only[gX,Int.reduceEq,or_false,or_true,false_or,true_or,if_true,if_false];exact h
   ·have h:=ab4 nm ty tN eN a l cp b l2 cp2 m _ (hS false true false false) _ hX _ hT;rw[nt.1] at h;simp only[gX,Int.reduceEq,or_false,or_true,false_or,true_or,if_true,if_false];exact h
   ·have h:=ab3 nm ty tN eN a l cp b l2 cp2 m _ (hS false false false false) _ hX;rw[ne.1] at h;simp only[gX,Int.reduceEq,or_false,or_true,false_or,true_or,if_true,if_false];exact h
   ·have h:=ab2 nm ty tN eN a l cp b l2 cp2 m _ (hS false false true true) _ hX;simp only[gX,Int.reduceEq,or_false,or_true,false_or,true_or,if_true,if_false];exact h
   ·have h:=ab1 nm ty tN eN a l cp b l2 cp2 m _ (hS false false true false) _ hX;simp only[gX,Int.reduceEq,or_false,or_true,false_or,true_or,if_true,if_false];exact h
   ·have h:=ab0 nm ty tN eN a l cp b l2 cp2 m _ (hS false false false false) _ hX;rw[ne.2] at h;simp only[gX,Int.reduceEq,or_false,or_true,false_or,true_or,if_true,if_false];exact h
   ·have h:=abZ nm ty tN eN a l cp b l2 cp2 m _ (hS false false false false) _ hX;simp only[gX,Int.reduceEq,or_false,or_true,false_or,true_or,if_true,if_false];exact h
   ·have h:=abY nm ty tN eN a l cp b l2 cp2 m _ (hS true false true true);rw[ne.2] at h;simp only[gX,Int.reduceEq,or_false,or_true,false_or,true_or,if_true,if_false];exact h
   ·have h:=abX nm ty tN eN a l cp b l2 cp2 m _ (hS false false true false) _ hX;simp only[gX,Int.reduceEq,or_false,or_true,false_or,true_or,if_true,if_false];exact h
   ·have h:=ZL nm ty tN eN a l cp b l2 cp2 m _ (hS false false true false);rw[ne.2] at h;simp only[gX,Int.reduceEq,or_false,or_true,false_or,true_or,if_true,if_false];exact h
   ·have h:=ZK nm ty tN eN a l cp b l2 cp2 m _ (hS false false false false) _ hR;simp only[gX,Int.reduceEq,or_false,or_true,false_or,true_or,if_true,if_false];exact h
  ·have e:∀j:Int,1<=j->j<=11->¬k=j:=fun j h1 h2 h3=>by have:=hk j h1 h2;rw[this] at h3;exact h3
   have e0:gX k nm ty tg ex body alt=false:=by
    simp only[gX,hk 1 (by decide) (by decide),hk 2 (by decide) (by decide),hk 3 (by decide) (by decide),hk 4 (by decide) (by decide),hk 5 (by decide) (by decide),hk 6 (by decide) (by decide),hk 7 (by decide) (by decide),hk 8 (by decide) (by decide),hk 9 (by decide) (by decide),hk 10 (by decide) (by decide),hk 11 (by decide) (by decide),or_false,if_false]
   rw[e0];exact ab6 k nm ty tN eN a l cp b l2 cp2 m hk
theorem KW (fl:Int) (m:Mem):FnH Tryz.prog 173 [.v (.int .i64 fl)] ⟨[],[]⟩ m fun r H' _=>r= .v (.bool (kj fl))/\H' =⟨[],[]⟩:=by
 refine aL ay Tryz.func173 ?_
 ·simp only[go_sem];rfl
theorem FU (fl al:Int) (m:Mem):FnH Tryz.prog 109 [.v (.int .i64 fl),.v (.int .i64 al)] ⟨[],[]⟩ m fun r H' _=>r= .v (.bool (kF fl al))/\H' =⟨[],[]⟩:=by
 refine aL ay Tryz.func109 ?_
 ·simp only[go_sem];rfl
def tC (fl:Int):Bool:=kF fl 1087&&kj fl&&(!hasB fl 32|| !hasB fl 8)&&(!hasB fl 1024|| !hasB fl 58)
theorem Tw {fl:Int} (hI:az fl):tC fl=oS fl:=by
 have e:kF fl 1087=jv fl 1087:=Av (al:=1087) hI (by decide);rw[tC,e,oS,Bool.not_and];cases kj fl<;>cases jv fl 1087<;>simp [Bool.and_comm]
abbrev QU:Cfg:=fP (fun _=>false) [(109,vQ kF),(173,vR kj),(163,eZ BL fun s=> .bool (eP s)),(164,rG gR),(107,eZ BL fun s=> .bool (dT s))]
theorem P3:cK QU Tryz.prog:=pure_cons (by kernel_rfl) (AR FU) (pure_cons (by kernel_rfl) (AS KW) (pure_cons (by kernel_rfl) (fM CK) (pure_cons (by kernel_rfl) (u0 FC) (pure_cons (by kernel_rfl) (fM yg) pure_nil))))
theorem RC (f:Fc) (m:Mem) (h:FcOk f):aB 110 [.v (.agg ⟨f.cs⟩)] m (.bool (n8 f)):=by
 have h1:BL f.name:=cR h.name (by decide);have h2:BL f.ty.name:=cR h.ty.2.2 (by decide);have h3:n8 f=(kF f.fl 31&&kj f.fl&&gR f.ty.dim f.ty.base f.ty.name&&eP f.name):=by
  have e:kF f.fl 31=jv f.fl 31:=Av (al:=31) h.fl (by decide);rw[e,n8];cases gR f.ty.dim f.ty.base f.ty.name<;>cases eP f.name<;>cases kj f.fl<;>simp
 rw[h3];refine enter QU P3 Tryz.func110 rfl rfl (by kernel_rfl) rfl ?_ ?_
 ·simp only[go_sem,Fc.cs]
 ·simp only[go_sem,Fc.cs];exact⟨fun _=>h2,fun _=>h1⟩
theorem RB (fl:Int) (m:Mem):FnH Tryz.prog 174 [.v (.int .i64 fl)] ⟨[],[]⟩ m fun r H' _=>r= .v (.bool (tC fl))/\H' =⟨[],[]⟩:=by
 refine aL P3 Tryz.func174 ?_
 ·simp only[go_sem];refine⟨fun h=> ?_,fun h=> ?_⟩
  ·rcases h with (h |h) |h
   ·simp [tC,h]
   ·simp [tC,h]
   ·simp [tC,hasB,h.1,h.2]
  ·rw[tC,h.1.1,h.1.2];rcases h.2 with g |g<;>simp [hasB,g]
def nP (d:Md) (i:Bool):Bool:=jF d&& !(i&&uk d)
abbrev PL:Cfg:=fP (fun _=>false) [(109,vQ kF),(173,vR kj),(163,eZ BL fun s=> .bool (eP s)),(164,rG gR),(174,vR tC)]
theorem Pu:cK PL Tryz.prog:=pure_cons (by kernel_rfl) (AR FU) (pure_cons (by kernel_rfl) (AS KW) (pure_cons (by kernel_rfl) (fM CK) (pure_cons (by kernel_rfl) (u0 FC) (pure_cons (by kernel_rfl) (AS RB) pure_nil))))
theorem yL {α:Type} (p:α->Bool):∀(l:List α),l.all p= !(l.any fun x=> !p x)
 |[]=>rfl
 |a::l=>by rw[List.all_cons,List.any_cons,Bool.not_or,Bool.not_not,yL p l]
theorem AA {α:Type} {p:α->Bool} {l:List α} {k:Nat} (hk:k<l.length):(l.take (k+1)).all p=((l.take k).all p&&p l[k]):=by
 rw[List.take_succ_eq_append_getElem hk,List.all_append];simp
theorem AY {α:Type} {p:α->Bool} {l:List α} {k:Nat} (hk:k<l.length) (h:p l[k]=false):l.all p=false:=by
 rw[List.all_eq_false];exact⟨_,List.getElem_mem hk,by rw[h];decide⟩
theorem Ks (sup:Bool) (l:List St) (a:Option Addr) (n c:Nat) (xs:List Value) (m:Mem) (hl:n=l.length) (hr:aK m a n 23 xs) (hs:bF m l xs) (hn:n<=aA):
  aB 108 [.v (.slice a n c),.v (.bool sup)] m (.bool (fD sup l)):=
 FF sup l a n c xs m hl hr hs hn fun e _ cs m' _ he=>FD _ e cs m' (aq _) he
theorem Ky {d:Md} {i:Bool} (hI:az d.fl) (hp:d.params.all mg=true):nP d i=(decide (d.params.length<=16)&&(d.hb||decide (d.body.length=0))&&fD (decide (d.name=eH)) d.body&&
  (if d.name=eH then !i&&r9 d.res&&d.hb&&kF d.fl 7&&kj d.fl else((!i||decide (d.fl=1))||decide (d.fl=1025))&&(eP d.name&&(r9 d.res||gR d.res.dim d.res.base d.res.name)&&tC d.fl&&(d.hb==decide (bits .and .i64 d.fl 1024=0))))):=by
 have e0:(d.params.any fun p=> !mg p)=false:=by
  have:=yL mg d.params;rw[hp] at this;cases h:d.params.any fun p=> !mg p with
  |false=>rfl
  |true=>rw[h] at this;cases this
 rw[nP,jF,qZ,sG,e0,uk];by_cases hn:d.name=eH
 ·have e7:kF d.fl 7=jv d.fl 7:=Av (al:=7) hI (by decide);rw[aj hn,aj hn,bX hn,e7];cases ho:jv d.fl 7 with
  |false=>simp
  |true=>
   obtain⟨q1,q2⟩:=Zf hI ho;rw[q1,q2];generalize decide (d.params.length<=16)=w1
   generalize decide (d.body.length=0)=w2
   generalize fD true d.body=w3
   generalize r9 d.res=w4
   generalize kj d.fl=w5
   cases d.hb<;>cases i<;>cases w1<;>cases w2<;>cases w3<;>cases w4<;>cases w5<;>simp
 ·rw[ae hn,ae hn,bo hn,Tw hI,hasB];generalize decide (d.params.length<=16)=w1
  generalize decide (d.body.length=0)=w2
  generalize fD false d.body=w3
  generalize (eP d.name&&(r9 d.res||gR d.res.dim d.res.base d.res.name))=w4
  generalize oS d.fl=w5
  generalize decide (bits .and .i64 d.fl 1024=0)=w6
  generalize decide (d.fl=1)=w7
  generalize decide (d.fl=1025)=w8
  cases d.hb<;>cases i<;>cases w1<;>cases w2<;>cases w3<;>cases w4<;>cases w5<;>cases w6<;>cases w7<;>cases w8<;>rfl
theorem Rg {d:Md} {i:Bool} {k:Nat} (hk:k<d.params.length) (h:mg d.params[k]=false):nP d i=false:=by
 have e0:=yL mg d.params;rw[AY hk h] at e0;rw[nP,jF,<- e0];simp
theorem Rh {d:Md} {i:Bool} (h:fD (decide (d.name=eH)) d.body=false):nP d i=false:=by
 rw[nP,jF,h];simp
theorem Rm (d:Md) (i:Bool) (cs:List Value) (m:Mem) (h:gq m d cs):aB 111 [.v (.agg ⟨cs⟩),.v (.bool i)] m (.bool (nP d i)):=by
 obtain⟨fl,res,name,params,hb,body⟩:=d;obtain⟨x,⟨rfl,rfl,rfl,rfl,rfl⟩,⟨jQ,uC,hl,bl⟩,ax,r1,xs,r2,s2⟩:=h;simp only at jQ hl r1 s2;have h1:BL x.name:=cR ax.name (by decide);have h2:BL x.res.name:=cR ax.res.2.2 (by decide);have bp:x.pl<=aA:=by rw[jQ];exact ax.pl
 have ny:∀p∈params,BL p.name/\BL p.ty.name:=fun p hp=>⟨cR (ax.ps p hp).name (by decide),cR (ax.ps p hp).ty.2.2 (by decide)⟩
 have hB:=Ks (decide (x.name=eH)) body x.a x.l x.cp xs m hl r2 s2 (by rw[hl];exact ax.l);have hI:az x.fl:=ax.fl;clear s2;refine enter PL Pu Tryz.func111 rfl rfl (by kernel_rfl) rfl ?_ ?_
 ·simp only[go_sem,Mc.cs]
 ·simp only[go_sem,Mc.cs];refine fg Pu (fun y:Nat=>⟨[⟨1,[],.v (.bool i)⟩,⟨2,[],.box 0 0⟩,⟨5,[],.v (.int .i64 y)⟩],[],[⟨0,98,x.cs.map .v⟩],[],1,m⟩)
    (fun y=>y<=x.pl/\(params.take y).all mg=true) (fun y=>x.pl - y) 0 (by kernel_rfl) (fun _ _=>aq _) (fun y hy=> .inl rfl) (fun _=> ?_) ?_ ?_ ?_
  ·simp only[go_sem,Mc.cs]
  ·simp only[go_sem,Mc.cs];rfl
  ·exact⟨au _,rfl⟩
  ·rintro k ⟨g2,g3⟩;have hy:∀(hk:k<params.length),(Rd m (ct x.pa (k * 4)) (params[k]).cs/\x.pa≠none)/\BL params[k].name/\BL params[k].ty.name:=fun hk=>by
    have q1:=dG r1 (by omega:k<x.pl);rw[qN (f:=Pc.cs) (sz:=4) (fun _=>rfl) hk] at q1;exact⟨q1,ny _ (List.getElem_mem hk)⟩
   simp only[go_sem,Mc.cs];refine⟨fun ao=> ?_,fun cQ=>⟨qc,fun c=>ab (hB.mono ?_),fun c=> ?_⟩⟩
   ·have hk:k<params.length:=by clear hB;omega
    have bb:=hy hk;clear hy hB;refine⟨⟨by omega,ao,bb.1.2⟩,lz bb.1.1,[.int .i64 params[k].ty.dim,.int .u8 params[k].ty.base,.string (bs params[k].ty.name)],⟨jH bb.1.1 0 3 (dL rfl),rfl⟩,?_⟩;simp only[go_sem,Mc.cs,Pc.cs];refine⟨bb.2.2,fun _=>⟨by omega,ao,bb.1.2⟩,fun _=>lz bb.1.1,.string (bs params[k].name),fun _=>jH bb.1.1 3 1 (dL rfl),?_⟩;have hBn:=bb.2.1;clear bb;have bQ:=Rg (d:=⟨x.fl,x.res,x.name,params,x.hb,body⟩) (i:=i) hk;simp only[mg] at bQ;simp only[go_sem,Mc.cs,Pc.cs];refine⟨fun _=>hBn,fun hf=>(bQ ?_).symm,fun ht=>⟨by unfold az;simp only[aA] at bp;omega,k+1,by simp,⟨by omega,?_⟩,by omega⟩⟩
    ·rcases hf with h |h<;>simp [h]
    ·rw[AA hk,g3,mg,ht.1,ht.2];rfl
   ·clear hB;have ep:params.take k=params:=gm (by omega);rw[ep] at g3;have hE:=Ky (d:=⟨x.fl,x.res,x.name,params,x.hb,body⟩) (i:=i) hI g3;have bQ:=Rh (d:=⟨x.fl,x.res,x.name,params,x.hb,body⟩) (i:=i);simp only at hE bQ;rw[bX (by omega:params.length<=16),(by rcases c.2 with h |h;rw[h];rfl;rw[bX (by omega:body.length=0),Bool.or_true]:(x.hb||decide (body.length=0))=true),Bool.true_and,Bool.true_and] at hE;rintro r H' m2 aH ⟨l2,rfl,rfl⟩;simp only[go_sem,Mc.cs];refine⟨fun hb=>⟨l2,(bQ hb).symm⟩,fun hb=> ?_⟩;rw[hb,Bool.true_and] at hE;refine⟨fun hn=>⟨l2,?_⟩,fun hn=>⟨fun hc=>⟨l2,?_⟩,fun hc=>⟨h1,fun _=>h2,by kernel_rfl,l2,?_⟩⟩⟩
    ·have xN:x.name=eH:=hn;rw[hE,aj xN];rfl
    ·have xN:¬x.name=eH:=hn;rw[hE,ae xN];simp [hc]
    ·have xN:¬x.name=eH:=hn;rw[hE,ae xN];have e:((!i||decide (x.fl=1))||decide (x.fl=1025))=true:=by
      rcases hc with (h |h) |h<;>simp [h]
     rw[e,Bool.true_and];rfl
   ·clear hB;have ep:params.take k=params:=gm (by omega);rw[ep] at g3;have hE:=Ky (d:=⟨x.fl,x.res,x.name,params,x.hb,body⟩) (i:=i) hI g3;simp only at hE;rw[hE];rcases c with h |h
    ·rw[bo (by omega:¬params.length<=16)];rfl
    ·rw[h.1,bo (by omega:¬body.length=0)];simp
def Oo (d:Cd):Bool:=kF d.fl 1537&&hasB d.fl 1024&&decide (d.fields.length=0)&&decide (d.init.length=0)&&decide (d.super=ld)
def N5 (d:Cd):Bool:=kF d.fl 1041&& !(hasB d.fl 16&&hasB d.fl 1024)
def Be (d:Cd):Bool:=if hasB d.fl 512=true then Oo d else N5 d
def yY (d:Cd):Bool:=mX d&&pn d
def D8 (d:Cd):Bool:=yY d&&fD false d.init&&Be d&&d.ifs.all dT&&d.fields.all n8&&d.methods.all fun e=>nP e (hasB d.fl 512)
theorem MS (i:Bool):∀(l:List Md),(l.all fun e=>nP e i)=(l.all jF&& !(i&&l.any uk))
 |[]=>by simp
 |e::r=>by
  rw[List.all_cons,List.all_cons,List.any_cons,MS i r,nP];cases jF e<;>cases i<;>cases uk e<;>simp
theorem V8 (d:Cd) (hI:az d.fl):D8 d=od d:=by
 have e1:kF d.fl 1537=jv d.fl 1537:=Av (al:=1537) hI (by decide);have e2:kF d.fl 1041=jv d.fl 1041:=Av (al:=1041) hI (by decide);have e3:decide (d.fields.length+d.init.length=0)=(decide (d.fields.length=0)&&decide (d.init.length=0)):=by
  rw[<- Bool.decide_and,decide_eq_decide];omega
 rw[D8,MS,od,sA,Be,yY,Oo,N5,DZ,e1,e2,e3,yL dT,yL n8,yL jF];generalize mX d=q1
 generalize pn d=q2
 generalize fD false d.init=q3
 generalize jv d.fl 1537=q4
 generalize jv d.fl 1041=q5
 generalize (d.ifs.any fun x=> !dT x)=q6
 generalize (d.fields.any fun x=> !n8 x)=q7
 generalize (d.methods.any fun x=> !jF x)=q8
 generalize d.methods.any uk=q9
 generalize hasB d.fl 1024=w1
 generalize decide (d.fields.length=0)=w2
 generalize decide (d.init.length=0)=w3
 generalize decide (d.super=ld)=w4
 cases hasB d.fl 512
 ·simp only[Bool.false_and,Bool.not_false,Bool.and_true,Bool.false_eq_true,if_false];generalize hasB d.fl 16=w5
  cases q1<;>cases q2<;>cases q3<;>cases q5<;>cases q6<;>cases q7<;>cases q8<;>simp
 ·simp only[Bool.true_and,if_true];cases q1<;>cases q2<;>cases q3<;>cases q4<;>cases q6<;>cases q7<;>cases q8<;>cases q9<;>cases w2<;>cases w3<;>simp
abbrev PN:Cfg:=fP (fun _=>false) [(109,vQ kF),(107,eZ BL fun s=> .bool (dT s))]
theorem Es:cK PN Tryz.prog:=pure_cons (by kernel_rfl) (AR FU) (pure_cons (by kernel_rfl) (fM yg) pure_nil)
set_option maxHeartbeats 8000000 in
theorem RE (d:Cd) (cs:List Value) (m:Mem) (h:jW m d cs):aB 42 [.v (.agg ⟨cs⟩)] m (.bool (D8 d)):=by
 obtain⟨fl,name,super,ifs,fields,methods,init⟩:=d;obtain⟨x,⟨rfl,rfl,rfl,rfl⟩,⟨dM,hic,fk,hfc,hml,hmc,fT,hsc⟩,ax,r1,r2,xs,ys,r3,s3,r4,s4⟩:=h;simp only at dM fk hml fT r1 r2 r3 s3 r4 s4;have h1:BL x.name:=cR ax.name (by decide);have h2:BL x.super:=cR ax.super (by decide);have b0:x.il<=aA:=by rw[dM];exact ax.il
 have b1:x.fn<=aA:=by rw[fk];exact ax.fn
 have b2:x.ml<=aA:=by rw[hml];exact ax.ml
 have hB:=Ks false init x.sa x.sl x.sc ys m fT r4 s4 (by rw[fT];exact ax.l);have y0:∀m',an m m' ->∀i (hk:i<ifs.length),(Rd m' (ct x.ia i) [.string (bs ifs[i])]/\x.ia≠none)/\BL ifs[i]:=fun m' hle i hk=>⟨AB (aD hle r1) hk,cR (ax.ifs _ (List.getElem_mem hk)) (by decide)⟩
 have y1:∀m',an m m' ->∀i (hk:i<fields.length),(Rd m' (ct x.fa (i * 5)) (fields[i]).cs/\x.fa≠none)/\aB 110 [.v (.agg ⟨(fields[i]).cs⟩)] m' (.bool (n8 fields[i])):=fun m' hle i hk=>by
  have:=dG (aD hle r2) (by omega:i<x.fn);rw[qN (f:=Fc.cs) (sz:=5) (fun _=>rfl) hk] at this;exact⟨this,RC _ m' (ax.fs _ (List.getElem_mem hk))⟩
 have y2:∀m',an m m' ->∀i (hk:i<methods.length),∃X:Mc,(Rd m' (ct x.ma (i * 8)) X.cs/\x.ma≠none)/\∀b,aB 111 [.v (.agg ⟨X.cs⟩),.v (.bool b)] m' (.bool (nP methods[i] b)):=fun m' hle i hk=>by
  have bh:=qH hle (pf s3 hk);have cu:=dG (aD hle r3) (by omega:i<x.ml);obtain⟨X,e1⟩:=Dk bh;rw[e1] at cu bh;exact⟨X,cu,fun b=>Rm _ b _ m' bh⟩
 clear s3 s4;have hX:D8 ⟨x.fl,x.name,x.super,ifs,fields,methods,init⟩=(yY ⟨x.fl,x.name,x.super,ifs,fields,methods,init⟩&&fD false init&&Be ⟨x.fl,x.name,x.super,ifs,fields,methods,init⟩&&ifs.all dT&&fields.all n8&&methods.all fun e=>nP e (hasB x.fl 512)):=rfl;have hN:yY ⟨x.fl,x.name,x.super,ifs,fields,methods,init⟩=(dT x.name&&dT x.super&&decide (x.il<=8)&&decide (x.fn<=64)&&decide (x.ml<=64)):=by
  rw[yY,mX,pn,dM,fk,hml];simp only[Bool.and_assoc]
 refine enter PN Es Tryz.func42 rfl rfl (by kernel_rfl) rfl ?_ ?_
 ·simp only[go_sem,Cc.cs]
 ·simp only[go_sem,Cc.cs];refine⟨h1,fun _=>h2,fun hc=>ab (hB.mono ?_),fun hc=> ?_⟩
  ·clear hB;have QC:yY ⟨x.fl,x.name,x.super,ifs,fields,methods,init⟩=true:=by
    rw[hN];simp only[cY,gz];exact⟨⟨⟨hc.1.1.1,by omega⟩,by omega⟩,by omega⟩
   rw[QC,Bool.true_and] at hX;clear hN QC;rintro r H' m1 aN ⟨l1,rfl,rfl⟩;simp only[go_sem,Cc.cs];have uz:hasB x.fl 512= !decide (bits .and .i64 x.fl 512=0):=rfl;have Bu:hasB x.fl 1024= !decide (bits .and .i64 x.fl 1024=0):=rfl;have sV:hasB x.fl 16= !decide (bits .and .i64 x.fl 16=0):=rfl;have hH:Be ⟨x.fl,x.name,x.super,ifs,fields,methods,init⟩=(if hasB x.fl 512=true then(kF x.fl 1537&&hasB x.fl 1024&&decide (fields.length=0)&&decide (init.length=0)&&decide (x.super=ld)) else(kF x.fl 1041&& !(hasB x.fl 16&&hasB x.fl 1024))):=rfl;refine⟨fun b=>⟨l1,?_⟩,fun b=>⟨fun c1=>⟨l1,?_⟩,fun c1=>⟨fun c2=>⟨l1,?_⟩,fun c2=> ?_⟩⟩⟩
   ·rw[hX,b];simp
   ·rw[bo c1.1,Bool.not_false] at uz;rw[hX,hH,aj uz];rcases c1.2 with (((h |h) |h) |h) |h
    ·simp [h]
    ·simp [Bu,h]
    ·rw[bo (by clear y0 y1 y2;omega:¬fields.length=0)];simp
    ·rw[bo (by clear y0 y1 y2;omega:¬init.length=0)];simp
    ·have h' :¬x.super=ld:=h;rw[bo h'];simp
   ·rw[bX c2.1,Bool.not_true] at uz;rw[hX,hH,ae (Bool.eq_false_iff.1 uz)];rcases c2.2 with h |h
    ·simp [h]
    ·rw[sV,Bu,bo h.1,bo h.2];simp
   ·have QG:Be ⟨x.fl,x.name,x.super,ifs,fields,methods,init⟩=true:=by
     rw[hH];by_cases h5:bits .and .i64 x.fl 512=0
     ·rw[bX h5,Bool.not_true] at uz;rw[ae (Bool.eq_false_iff.1 uz)];rcases c2 with h |h
      ·exact absurd h5 h
      ·rw[h.1,sV,Bu];rcases h.2 with g |g<;>simp [g]
     ·rw[bo h5,Bool.not_false] at uz;rw[aj uz];rcases c1 with h |h
      ·exact absurd h h5
      ·have h' :x.super=ld:=h.2;rw[h.1.1.1.1,Bu,bo h.1.1.1.2,bX h',bX (by clear y0 y1 y2;omega:fields.length=0),bX (by clear y0 y1 y2;omega:init.length=0)];rfl
    rw[b,QG,Bool.true_and,Bool.true_and] at hX;clear hH QG Bu sV uz c1 c2 hc;refine fg Es (fun y:Nat×Mem=>⟨[⟨1,[],.box 0 0⟩,⟨3,[],.v (.bool (hasB x.fl 512))⟩,⟨4,[],.v (.int .i64 y.1)⟩],[],[⟨0,59,x.cs.map .v⟩],[],1,y.2⟩)
     (fun y=>an m1 y.2/\y.1<=x.il/\(ifs.take y.1).all dT=true) (fun y=>x.il - y.1) (0,m1) (by kernel_rfl) (fun _ _=>aq _) (fun y hy=> ?_) (fun _=> ?_) ?_ ?_ ?_
    ·exact hy.1
    ·simp only[go_sem,Cc.cs]
    ·simp only[go_sem,Cc.cs];exact⟨rfl,rfl⟩
    ·exact⟨.inl rfl,au _,rfl⟩
    ·rintro⟨k,m2⟩ ⟨g1,g2,g3⟩;simp only at g1 g2 g3;have k2:=aa l1 g1;simp only[go_sem,Cc.cs];refine⟨fun ao=> ?_,fun cQ=> ?_⟩
     ·have hk:k<ifs.length:=by clear y0 y1 y2;omega
      have hy:=y0 m2 k2 k hk;clear y0 y1 y2;refine⟨⟨by omega,ao,hy.1.2⟩,_,hy.1.1,?_⟩;have hBs:=hy.2;clear hy;simp only[go_sem,Cc.cs];refine⟨hBs,fun hf=>⟨k2,?_⟩,fun ht=>⟨by unfold az;simp only[aA] at b0;omega,(k+1,m2),⟨by simp,.inl rfl⟩,⟨g1,by simp only;omega,?_⟩,by simp only;omega⟩⟩
      ·rw[hX,AY hk hf];simp
      ·simp only;rw[AA hk,g3,ht];rfl
     ·have ep:ifs.take k=ifs:=gm (by clear y0 y1 y2;omega);rw[ep] at g3;rw[g3,Bool.true_and] at hX;clear g3 ep;refine fg Es (fun y:Nat×Mem=>⟨[⟨1,[],.box 0 0⟩,⟨3,[],.v (.bool (hasB x.fl 512))⟩,⟨5,[],.v (.int .i64 y.1)⟩],[],[⟨0,59,x.cs.map .v⟩],[],1,y.2⟩)
       (fun y=>an m2 y.2/\y.1<=x.fn/\(fields.take y.1).all n8=true) (fun y=>x.fn - y.1) (0,m2) (by kernel_rfl) (fun _ _=>aq _) (fun y hy=> ?_) (fun _=> ?_) ?_ ?_ ?_
      ·exact hy.1
      ·simp only[go_sem,Cc.cs]
      ·simp only[go_sem,Cc.cs];rfl
      ·exact⟨.inl rfl,au _,rfl⟩
      ·rintro⟨k,m3⟩ ⟨g1,g2,g3⟩;simp only at g1 g2 g3;have k3:=aa k2 g1;simp only[go_sem,Cc.cs];refine⟨fun ao=> ?_,fun cQ=> ?_⟩
       ·have hk:k<fields.length:=by clear y0 y1 y2;omega
        have hy:=y1 m3 k3 k hk;clear y0 y1 y2;refine⟨⟨by clear hy;omega,ao,hy.1.2⟩,(fields[k]).cs,⟨hy.1.1,rfl⟩,?_⟩;have ha:=hy.2;clear hy;simp only[go_sem,Cc.cs,Fc.cs];refine ab ((aX ha (fun V=>rfl)).mono ?_);clear ha;rintro r H' m5 cW ⟨l5,rfl,rfl⟩;simp only[go_sem,Cc.cs];refine⟨fun hf=>⟨aa k3 l5,?_⟩,fun ht=>⟨by unfold az;simp only[aA] at b1;omega,(k+1,m5),⟨by simp,.inl rfl⟩,⟨aa g1 l5,by simp only;omega,?_⟩,by simp only;omega⟩⟩
        ·rw[hX,AY hk hf];simp
        ·simp only;rw[AA hk,g3,ht];rfl
       ·have ep:fields.take k=fields:=gm (by clear y0 y1 y2;omega);rw[ep] at g3;rw[g3,Bool.true_and] at hX;clear g3 ep;refine fg Es (fun y:Nat×Mem=>⟨[⟨1,[],.box 0 0⟩,⟨3,[],.v (.bool (hasB x.fl 512))⟩,⟨6,[],.v (.int .i64 y.1)⟩],[],[⟨0,59,x.cs.map .v⟩],[],1,y.2⟩)
         (fun y=>an m3 y.2/\y.1<=x.ml/\(methods.take y.1).all (fun e=>nP e (hasB x.fl 512))=true) (fun y=>x.ml - y.1) (0,m3) (by kernel_rfl) (fun _ _=>aq _) (fun y hy=> ?_) (fun _=> ?_) ?_ ?_ ?_
        ·exact hy.1
        ·simp only[go_sem,Cc.cs]
        ·simp only[go_sem,Cc.cs];rfl
        ·exact⟨.inl rfl,au _,rfl⟩
        ·rintro⟨k,m4⟩ ⟨g1,g2,g3⟩;simp only at g1 g2 g3;have k4:=aa k3 g1;simp only[go_sem,Cc.cs];refine⟨fun ao=> ?_,fun cQ=> ?_⟩
         ·have hk:k<methods.length:=by clear y0 y1 y2;omega
          have hy:=y2 m4 k4 k hk;clear y0 y1 y2;refine Exists.elim hy fun X dY=>⟨⟨by clear hy dY;omega,ao,dY.1.2⟩,X.cs,⟨dY.1.1,rfl⟩,?_⟩
          have ha:=dY.2 (hasB x.fl 512);clear hy dY;simp only[go_sem,Cc.cs,Mc.cs];refine ab ((aX ha (fun V=>rfl)).mono ?_);clear ha;rintro r H' m5 cW ⟨l5,rfl,rfl⟩;simp only[go_sem,Cc.cs];refine⟨fun hf=>⟨aa k4 l5,?_⟩,fun ht=>⟨by unfold az;simp only[aA] at b2;omega,(k+1,m5),⟨by simp,.inl rfl⟩,⟨aa g1 l5,by simp only;omega,?_⟩,by simp only;omega⟩⟩
          ·rw[hX];exact(AY (p:=(fun e=>nP e (hasB x.fl 512))) hk hf).symm
          ·simp only;rw[AA hk,g3,ht];rfl
         ·have ep:methods.take k=methods:=gm (by clear y0 y1 y2;omega);rw[ep] at g3;exact⟨k4,by rw[hX];exact g3.symm⟩
  ·clear hB;rw[hX,hN];rcases hc with (((h |h) |h) |h) |h
   ·simp [h]
   ·simp [h]
   ·rw[bo (by omega:¬x.il<=8)];simp
   ·rw[bo (by omega:¬x.fn<=64)];simp
   ·rw[bo (by omega:¬x.ml<=64)];simp
mutual
def nb:St->Nat
 | .mk k _ _ tg ex body alt=>max (max (if k=11 then bL ex - 1 else max (bL tg) (bL ex)) (eW body)) (eW alt)
def eW:List St->Nat
 |[]=>0
 |e::r=>max (nb e) (eW r)
end
theorem yj:∀{l:List St} {k:Nat} (hk:k<l.length),eW (l.take (k+1))=max (eW (l.take k)) (nb l[k])
 |[],_,hk=>absurd hk (Nat.not_lt_zero _)
 |e::r,0,_=>by simp [eW]
 |e::r,k+1,hk=>by
  have:=yj (l:=r) (k:=k) (by simpa using hk);simp only[List.take_succ_cons,eW,this,List.getElem_cons_succ,Nat.max_assoc]
theorem yT {f:FuncId} {g:St->Value} {l:List St} {a:Option Addr} {n:Nat} {xs:List Value} {m:Mem} (hl:n=l.length) (hr:aK m a n 23 xs) (hs:bF m l xs)
  (ih:∀e∈l,∀cs m',an m m' ->fu m' e cs->aB f [.v (.agg ⟨cs⟩)] m' (g e)) (mm:Mem) (hle:an m mm) (k:Nat) (hk:k<l.length):
  ∃X:Sd,(Rd mm (ct a (k * 23)) X.cs/\a≠none)/\∀m2,an mm m2->aB f [.v (.agg ⟨X.cs⟩)] m2 (g l[k]):=by
 have bh:=tj hle (qQ hs hk);obtain⟨X,e1⟩:=GK bh;have r1:=dG (aD hle hr) (by omega:k<n);rw[e1] at r1 bh;exact⟨X,r1,fun m2 h2=>ih _ (List.getElem_mem hk) _ _ (aa hle h2) (tj h2 bh)⟩
theorem FT:∀(h:Nat) (e:St) (cs:List Value) (m:Mem),fh e<=h->h<=aA->fu m e cs->aB 175 [.v (.agg ⟨cs⟩)] m (.int .i64 (fh e))
 |0,.mk k nm ty tg ex body alt,cs,m,hd,_,_=>by simp [fh] at hd
 |h+1,.mk k nm ty tg ex body alt,cs,m,hd,hb,he=>by
  obtain⟨X,rfl,rfl,rfl,rfl,dk,hex,hl,bl,bP,dW,ax,xs,ys,r1,r2,s1,s2⟩:=tq he;simp only[fh] at hd;have bn:X.l<=aA:=by rw[hl];exact ax.l
  have Fo:X.l2<=aA:=by rw[bP];exact ax.l2
  have hB:=yT (g:=fun e=> .int .i64 (fh e)) hl r1 s1 fun e he cs m2 aY bh=>FT h e cs m2 (by have:=oM he;omega) (by omega) bh
  have hA:=yT (g:=fun e=> .int .i64 (fh e)) bP r2 s2 fun e he cs m2 aY bh=>FT h e cs m2 (by have:=oM he;omega) (by omega) bh
  refine enter gA ay Tryz.func175 rfl rfl (by kernel_rfl) rfl ?_ ?_
  ·simp only[go_sem,Sd.cs,Nd.cs]
  ·simp only[go_sem,Sd.cs,Nd.cs];refine fg ay (fun x:Nat×Mem=>⟨[⟨1,[],.box 0 0⟩,⟨3,[],.v (.int .i64 (df (body.take x.1)))⟩,⟨4,[],.v (.int .i64 x.1)⟩],[],[⟨0,73,(X.cs).map .v⟩],[],1,x.2⟩)
    (fun x=>an m x.2/\x.1<=X.l) (fun x=>X.l - x.1) (0,m) (by kernel_rfl) (fun _ _=>aq _) (fun x hx=>hx.1) (fun _=> ?_) ?_ ?_ ?_
   ·simp only[go_sem,Sd.cs,Nd.cs]
   ·simp only[go_sem,Sd.cs,Nd.cs];exact⟨rfl,rfl⟩
   ·exact⟨.inl rfl,au _⟩
   ·rintro⟨i,mm⟩ ⟨h1,h2⟩;simp only at h1 h2;simp only[go_sem,Sd.cs,Nd.cs];refine⟨fun ao=> ?_,fun cQ=> ?_⟩
    ·have hi:i<body.length:=by clear hA hB;omega
     clear hA;refine Exists.elim (hB mm h1 i hi) fun Y hY=>⟨⟨by clear hB hY;omega,ao,hY.1.2⟩,Y.cs,⟨hY.1.1,rfl⟩,?_⟩
     clear hB;have ha:=hY.2 mm (.inl rfl);clear hY;simp only[go_sem,Sd.cs,Nd.cs];refine ab ((aX ha (fun V=>rfl)).mono ?_);clear ha;rintro r H' m2 aH ⟨aY,rfl,rfl⟩;simp only[go_sem,Sd.cs,Nd.cs];have jC:=zW hi;refine⟨by unfold az;simp only[aA] at bn;omega,(i+1,m2),⟨⟨?_,by simp⟩,.inl rfl⟩,⟨aa h1 aY,by simp only;omega⟩,by simp only;omega⟩;simp only;rw[jC];split<;>omega
    ·clear hB;have e0:body.take i=body:=gm (by clear hA;omega);rw[e0];refine fg ay (fun x:Nat×Nat×Mem=>⟨[⟨1,[],.box 0 0⟩,⟨3,[],.v (.int .i64 x.2.1)⟩,⟨5,[],.v (.int .i64 x.1)⟩],[],[⟨0,73,(X.cs).map .v⟩],[],1,x.2.2⟩)
      (fun x=>an mm x.2.2/\x.1<=X.l2/\x.2.1=max (df body) (df (alt.take x.1))) (fun x=>X.l2 - x.1) (0,df body,mm) (by kernel_rfl) (fun _ _=>aq _) (fun x hx=> ?_) (fun _=> ?_) ?_ ?_ ?_
     ·exact hx.1
     ·simp only[go_sem,Sd.cs,Nd.cs]
     ·simp only[go_sem,Sd.cs,Nd.cs];rfl
     ·exact⟨.inl rfl,au _,by simp only[List.take_zero,df,Nat.max_zero]⟩
     ·rintro⟨j,v,mj⟩ ⟨h3,h4,h5⟩;simp only at h3 h4 h5;simp only[go_sem,Sd.cs,Nd.cs];refine⟨fun ao=> ?_,fun cQ=> ?_⟩
      ·have hi:j<alt.length:=by clear hA;omega
       refine Exists.elim (hA mj (aa h1 h3) j hi) fun Y hY=>⟨⟨by clear hA hY;omega,ao,hY.1.2⟩,Y.cs,⟨hY.1.1,rfl⟩,?_⟩
       clear hA;have ha:=hY.2 mj (.inl rfl);clear hY;simp only[go_sem,Sd.cs,Nd.cs];refine ab ((aX ha (fun V=>rfl)).mono ?_);clear ha;rintro r H' m2 aH ⟨aY,rfl,rfl⟩;simp only[go_sem,Sd.cs,Nd.cs];have jC:=zW hi;refine⟨by unfold az;simp only[aA] at Fo;omega,(j+1,max v (fh alt[j]),m2),⟨⟨?_,by simp⟩,.inl rfl⟩,⟨aa h3 aY,by simp only;omega,by simp only;rw[jC,h5];exact Nat.max_assoc _ _ _⟩,by simp only;omega⟩;simp only;split<;>omega
      ·clear hA;have e1:alt.take j=alt:=gm (by omega);rw[e1] at h5;simp only[fh];exact⟨by unfold az;simp only[aA] at hb;omega,aa h1 h3,by omega⟩
theorem F8:∀(h:Nat) (e:St) (cs:List Value) (m:Mem),fh e<=h->ju e<=aA->fu m e cs->aB 176 [.v (.agg ⟨cs⟩)] m (.int .i64 (nb e))
 |0,.mk k nm ty tg ex body alt,cs,m,hd,_,_=>by simp [fh] at hd
 |h+1,.mk k nm ty tg ex body alt,cs,m,hd,hb,he=>by
  obtain⟨X,rfl,rfl,rfl,rfl,dk,hex,hl,bl,bP,dW,ax,xs,ys,r1,r2,s1,s2⟩:=tq he;simp only[fh] at hd;simp only[ju] at hb;have z1:=yo tg;have z2:=yo ex;have hT:=fun m2 (hle:an m m2)=>FV _ tg X.tg.cs m2 (aq _) (by omega) (aZ hle dk)
  have hE:=fun m2 (hle:an m m2)=>FV _ ex X.ex.cs m2 (aq _) (by omega) (aZ hle hex)
  have bn:X.l<=aA:=by rw[hl];exact ax.l
  have Fo:X.l2<=aA:=by rw[bP];exact ax.l2
  have hB:=yT (g:=fun e=> .int .i64 (nb e)) hl r1 s1 fun e he cs m2 aY bh=>F8 h e cs m2 (by have:=oM he;omega) (by have:=z7 he;omega) bh
  have hA:=yT (g:=fun e=> .int .i64 (nb e)) bP r2 s2 fun e he cs m2 aY bh=>F8 h e cs m2 (by have:=oM he;omega) (by have:=z7 he;omega) bh
  refine enter gA ay Tryz.func176 rfl rfl (by kernel_rfl) rfl ?_ ?_
  ·simp only[go_sem,Sd.cs,Nd.cs]
  ·simp only[go_sem,Sd.cs,Nd.cs];refine cg (.hoist 0 (.hoist 1 (.hoist 3 (.hoist 4 (.alt 2 [4,3] (.alt 5 [] (.hoist 6 (.hoist 7 .done)) .stop) .stop))))) ay (by kernel_rfl) (by kernel_rfl) ?_;simp only[go_sem,Sd.cs,Nd.cs];refine ab ((aX (hT m (.inl rfl)) (fun V=>rfl)).mono ?_);clear hT;rintro r H' m1 aN ⟨l1,rfl,rfl⟩;have xV:=hE m1 l1;simp only[go_sem,Sd.cs,Nd.cs,l1,and_self];refine ab ((aX xV (fun V=>rfl)).mono ?_);clear xV;rintro r H' m2 aH ⟨l2,rfl,rfl⟩;have k2:=aa l1 l2;have bQ:=hE m2 k2;clear hE;simp only[go_sem,Sd.cs,Nd.cs,l1,l2,k2,and_self];refine⟨fun xW=>ab ((aX bQ (fun V=>rfl)).mono ?_),fun xW=> ?_⟩
   ·clear bQ;rintro r H' m3 bN ⟨l3,rfl,rfl⟩;have k3:=aa k2 l3;simp only[go_sem,Sd.cs,Nd.cs];refine⟨by unfold az;simp only[aA] at hb;omega,?_⟩;have hR:nb (.mk X.k X.name X.ty tg ex body alt)=max (max (bL ex - 1) (eW body)) (eW alt):=by
     rw[nb,aj xW]
    rw[hR];clear hR;refine fg ay (fun x:Nat×Int×Mem=>⟨[⟨1,[],.box 0 0⟩,⟨3,[],.v (.int .i64 x.2.1)⟩,⟨4,[],.v (.int .i64 x.1)⟩],[],[⟨0,73,(X.cs).map .v⟩],[],1,x.2.2⟩)
     (fun x=>an m3 x.2.2/\x.1<=X.l/\x.2.1=(max (bL ex - 1) (eW (body.take x.1)):Nat)) (fun x=>X.l - x.1) (0,((bL ex:Nat):Int) - 1,m3) (by kernel_rfl) (fun _ _=>aq _) (fun x hx=> ?_) (fun _=> ?_) ?_ ?_ ?_
    ·exact hx.1
    ·simp only[go_sem,Sd.cs,Nd.cs]
    ·simp only[go_sem,Sd.cs,Nd.cs];rfl
    ·refine⟨.inl rfl,au _,?_⟩;simp only[List.take_zero,eW,Nat.max_zero];have:1<=bL ex:=by cases ex;simp only[bL];omega
     omega
    ·rintro⟨i,v,mm⟩ ⟨h1,h2,h5⟩;simp only at h1 h2 h5;have q1:=aa k3 h1;simp only[go_sem,Sd.cs,Nd.cs];refine⟨fun ao=> ?_,fun cQ=> ?_⟩
     ·have hi:i<body.length:=by clear hA hB;omega
      refine Exists.elim (hB mm q1 i hi) fun Y hY=>⟨⟨by clear hA hB hY;omega,ao,hY.1.2⟩,Y.cs,⟨hY.1.1,rfl⟩,?_⟩
      have ha:=hY.2 mm (.inl rfl);clear hY hA hB;simp only[go_sem,Sd.cs,Nd.cs];refine ab ((aX ha (fun V=>rfl)).mono ?_);clear ha;rintro r H' m5 cW ⟨aY,rfl,rfl⟩;simp only[go_sem,Sd.cs,Nd.cs];have jC:=yj hi;refine⟨by unfold az;simp only[aA] at bn;omega,(i+1,((max (bL ex - 1) (eW (body.take (i+1))):Nat):Int),m5),⟨⟨?_,by simp⟩,.inl rfl⟩,⟨aa h1 aY,by simp only;omega,rfl⟩,by simp only;omega⟩;simp only;rw[jC,h5];split<;>omega
     ·clear hB;have e0:body.take i=body:=gm (by clear hA;omega);rw[e0] at h5;refine fg ay (fun x:Nat×Int×Mem=>⟨[⟨1,[],.box 0 0⟩,⟨3,[],.v (.int .i64 x.2.1)⟩,⟨5,[],.v (.int .i64 x.1)⟩],[],[⟨0,73,(X.cs).map .v⟩],[],1,x.2.2⟩)
       (fun x=>an mm x.2.2/\x.1<=X.l2/\x.2.1=(max (max (bL ex - 1) (eW body)) (eW (alt.take x.1)):Nat)) (fun x=>X.l2 - x.1) (0,v,mm) (by kernel_rfl) (fun _ _=>aq _) (fun x hx=> ?_) (fun _=> ?_) ?_ ?_ ?_
      ·exact hx.1
      ·simp only[go_sem,Sd.cs,Nd.cs]
      ·simp only[go_sem,Sd.cs,Nd.cs];rfl
      ·exact⟨.inl rfl,au _,by simp only[List.take_zero,eW,Nat.max_zero];exact h5⟩
      ·rintro⟨j,u,mj⟩ ⟨h3,h4,h6⟩;simp only at h3 h4 h6;have q2:=aa q1 h3;have hB:=True.intro;simp only[go_sem,Sd.cs,Nd.cs];refine⟨fun ao=> ?_,fun cQ=> ?_⟩
       ·have hi:j<alt.length:=by clear hA hB;omega
        refine Exists.elim (hA mj q2 j hi) fun Y hY=>⟨⟨by clear hA hB hY;omega,ao,hY.1.2⟩,Y.cs,⟨hY.1.1,rfl⟩,?_⟩
        have ha:=hY.2 mj (.inl rfl);clear hY hA hB;simp only[go_sem,Sd.cs,Nd.cs];refine ab ((aX ha (fun V=>rfl)).mono ?_);clear ha;rintro r H' m5 cW ⟨aY,rfl,rfl⟩;simp only[go_sem,Sd.cs,Nd.cs];have jC:=yj hi;refine⟨by unfold az;simp only[aA] at Fo;omega,(j+1,((max (max (bL ex - 1) (eW body)) (eW (alt.take (j+1))):Nat):Int),m5),⟨⟨?_,by simp⟩,.inl rfl⟩,⟨aa h3 aY,by simp only;omega,rfl⟩,by simp only;omega⟩;simp only;rw[jC,h6];split<;>omega
       ·clear hA hB;have e1:alt.take j=alt:=gm (by omega);rw[e1] at h6;exact⟨q2,h6⟩
   ·clear bQ;have hR:nb (.mk X.k X.name X.ty tg ex body alt)=max (max (max (bL tg) (bL ex)) (eW body)) (eW alt):=by
     rw[nb,ae xW]
    rw[hR];clear hR;refine fg ay (fun x:Nat×Int×Mem=>⟨[⟨1,[],.box 0 0⟩,⟨3,[],.v (.int .i64 x.2.1)⟩,⟨4,[],.v (.int .i64 x.1)⟩],[],[⟨0,73,(X.cs).map .v⟩],[],1,x.2.2⟩)
     (fun x=>an m2 x.2.2/\x.1<=X.l/\x.2.1=(max (max (bL tg) (bL ex)) (eW (body.take x.1)):Nat)) (fun x=>X.l - x.1) (0,(if((bL tg:Nat):Int)<(bL ex:Nat) then((bL ex:Nat):Int) else((bL tg:Nat):Int)),m2) (by kernel_rfl) (fun _ _=>aq _) (fun x hx=> ?_) (fun _=> ?_) ?_ ?_ ?_
    ·exact hx.1
    ·simp only[go_sem,Sd.cs,Nd.cs]
    ·simp only[go_sem,Sd.cs,Nd.cs];rfl
    ·refine⟨.inl rfl,au _,?_⟩;simp only[List.take_zero,eW,Nat.max_zero];split<;>omega
    ·rintro⟨i,v,mm⟩ ⟨h1,h2,h5⟩;simp only at h1 h2 h5;have q1:=aa k2 h1;simp only[go_sem,Sd.cs,Nd.cs];refine⟨fun ao=> ?_,fun cQ=> ?_⟩
     ·have hi:i<body.length:=by clear hA hB;omega
      refine Exists.elim (hB mm q1 i hi) fun Y hY=>⟨⟨by clear hA hB hY;omega,ao,hY.1.2⟩,Y.cs,⟨hY.1.1,rfl⟩,?_⟩
      have ha:=hY.2 mm (.inl rfl);clear hY hA hB;simp only[go_sem,Sd.cs,Nd.cs];refine ab ((aX ha (fun V=>rfl)).mono ?_);clear ha;rintro r H' m5 cW ⟨aY,rfl,rfl⟩;simp only[go_sem,Sd.cs,Nd.cs];have jC:=yj hi;refine⟨by unfold az;simp only[aA] at bn;omega,(i+1,((max (max (bL tg) (bL ex)) (eW (body.take (i+1))):Nat):Int),m5),⟨⟨?_,by simp⟩,.inl rfl⟩,⟨aa h1 aY,by simp only;omega,rfl⟩,by simp only;omega⟩;simp only;rw[jC,h5];split<;>omega
     ·clear hB;have e0:body.take i=body:=gm (by clear hA;omega);rw[e0] at h5;refine fg ay (fun x:Nat×Int×Mem=>⟨[⟨1,[],.box 0 0⟩,⟨3,[],.v (.int .i64 x.2.1)⟩,⟨5,[],.v (.int .i64 x.1)⟩],[],[⟨0,73,(X.cs).map .v⟩],[],1,x.2.2⟩)
       (fun x=>an mm x.2.2/\x.1<=X.l2/\x.2.1=(max (max (max (bL tg) (bL ex)) (eW body)) (eW (alt.take x.1)):Nat)) (fun x=>X.l2 - x.1) (0,v,mm) (by kernel_rfl) (fun _ _=>aq _) (fun x hx=> ?_) (fun _=> ?_) ?_ ?_ ?_
      ·exact hx.1
      ·simp only[go_sem,Sd.cs,Nd.cs]
      ·simp only[go_sem,Sd.cs,Nd.cs];rfl
      ·exact⟨.inl rfl,au _,by simp only[List.take_zero,eW,Nat.max_zero];exact h5⟩
      ·rintro⟨j,u,mj⟩ ⟨h3,h4,h6⟩;simp only at h3 h4 h6;have q2:=aa q1 h3;have hB:=True.intro;simp only[go_sem,Sd.cs,Nd.cs];refine⟨fun ao=> ?_,fun cQ=> ?_⟩
       ·have hi:j<alt.length:=by clear hA hB;omega
        refine Exists.elim (hA mj q2 j hi) fun Y hY=>⟨⟨by clear hA hB hY;omega,ao,hY.1.2⟩,Y.cs,⟨hY.1.1,rfl⟩,?_⟩
        have ha:=hY.2 mj (.inl rfl);clear hY hA hB;simp only[go_sem,Sd.cs,Nd.cs];refine ab ((aX ha (fun V=>rfl)).mono ?_);clear ha;rintro r H' m5 cW ⟨aY,rfl,rfl⟩;simp only[go_sem,Sd.cs,Nd.cs];have jC:=yj hi;refine⟨by unfold az;simp only[aA] at Fo;omega,(j+1,((max (max (max (bL tg) (bL ex)) (eW body)) (eW (alt.take (j+1))):Nat):Int),m5),⟨⟨?_,by simp⟩,.inl rfl⟩,⟨aa h3 aY,by simp only;omega,rfl⟩,by simp only;omega⟩;simp only;rw[jC,h6];split<;>omega
       ·clear hA hB;have e1:alt.take j=alt:=gm (by omega);rw[e1] at h6;exact⟨q2,h6⟩
def jN (l:List St):Bool:=decide (df l<=24)&&decide (eW l<=24)
theorem Da {α:Type} [BEq α] {l:List α} {k:Nat} (hk:k<l.length) (a:α):(l.take (k+1)).contains a=((l.take k).contains a||a==l[k]):=by
 rw[List.take_succ_eq_append_getElem hk,List.contains_eq_any_beq,List.contains_eq_any_beq,List.any_append];simp only[List.any_cons,List.any_nil,Bool.or_false]
theorem DM {α:Type} [BEq α] [LawfulBEq α] {l:List α} {k j:Nat} (hj:j<k) (hk:k<l.length) (a:α) (h:l[j]=a):(l.take k).contains a=true:=by
 rw[List.contains_iff_mem];rw[<- h];have e:(l.take k)[j]'(by rw[List.length_take];omega)=l[j]:=List.getElem_take;rw[<- e];exact List.getElem_mem _
set_option maxHeartbeats 8000000 in
theorem Rx (d:Cd) (cs:List Value) (m:Mem) (h:jW m d cs):aB 44 [.v (.agg ⟨cs⟩)] m (.bool (nq d)):=by
 obtain⟨fl,name,super,ifs,fields,methods,init⟩:=d;obtain⟨x,⟨rfl,rfl,rfl,rfl⟩,⟨dM,hic,fk,hfc,hml,hmc,fT,hsc⟩,ax,r1,r2,xs,ys,r3,s3,r4,s4⟩:=h;simp only at dM fk hml fT r1 r2 r3 s3 r4 s4;have b0:x.il<=aA:=by rw[dM];exact ax.il
 have b1:x.fn<=aA:=by rw[fk];exact ax.fn
 have b2:x.ml<=aA:=by rw[hml];exact ax.ml
 clear r4 s4;have y0:∀i (hk:i<ifs.length),Rd m (ct x.ia i) [.string (bs ifs[i])]/\x.ia≠none:=fun i hk=>AB r1 hk
 have y1:∀i (hk:i<fields.length),Rd m (ct x.fa (i * 5)) (fields[i]).cs/\x.fa≠none:=fun i hk=>by
  have:=dG r2 (by omega:i<x.fn);rw[qN (f:=Fc.cs) (sz:=5) (fun _=>rfl) hk] at this;exact this
 have y2:∀i (hk:i<methods.length),∃X:Mc,(Rd m (ct x.ma (i * 8)) X.cs/\x.ma≠none)/\X.name=methods[i].name/\X.pl=methods[i].params.length:=fun i hk=>by
  have bh:=pf s3 hk;have cu:=dG r3 (by omega:i<x.ml);obtain⟨X,e1,e2,_⟩:=bh;rw[e1.1] at cu;exact⟨X,cu,e1.2.2.2.1,e2.1⟩
 refine enter gA ay Tryz.func44 rfl rfl (by kernel_rfl) rfl ?_ ?_
 ·simp only[go_sem,Cc.cs]
 ·simp only[go_sem,Cc.cs];refine fg ay (fun y:Nat=>⟨[⟨1,[],.box 0 0⟩,⟨3,[],.v (.int .i64 y)⟩],[],[⟨0,59,x.cs.map .v⟩],[],1,m⟩)
   (fun y=>y<=x.il/\je [] ifs=je (ifs.take y) (ifs.drop y)) (fun y=>x.il - y) 0 (by kernel_rfl) (fun _ _=>aq _) (fun _ _=> .inl rfl) (fun _=> ?_) ?_ ?_ ?_
  ·simp only[go_sem,Cc.cs]
  ·simp only[go_sem,Cc.cs];rfl
  ·exact⟨au _,rfl⟩
  ·rintro k0 ⟨h0,g0⟩;simp only[go_sem,Cc.cs];refine⟨fun ao=> ?_,fun cQ=> ?_⟩
   ·have hk:k0<ifs.length:=by omega
    have cE:k0<ifs.length:=by simpa using hk
    have jh:=yE cE;refine fg ay (fun y:Nat=>⟨[⟨1,[],.box 0 0⟩,⟨3,[],.v (.int .i64 k0)⟩,⟨4,[],.v (.int .i64 y)⟩],[],[⟨0,59,x.cs.map .v⟩],[],1,m⟩)
     (fun y=>y<=k0/\(ifs.take y).contains ifs[k0]=false) (fun y=>k0 - y) 0 (by kernel_rfl) (fun _ _=>aq _) (fun _ _=> .inl rfl) (fun _=> ?_) ?_ ?_ ?_
    ·simp only[go_sem,Cc.cs]
    ·simp only[go_sem,Cc.cs];rfl
    ·exact⟨au _,by simp⟩
    ·rintro j ⟨u1,u2⟩;simp only[go_sem,Cc.cs];refine⟨fun I9=> ?_,fun Ja=> ?_⟩
     ·have hj:j<ifs.length:=by omega
      have pF:j<ifs.length:=by simpa using hj
      have rU:=Da pF ifs[k0];have kR:=fun(qu:j<k0) (he:ifs[j]=ifs[k0])=>DM qu cE ifs[k0] he
      refine cg (.hoist 0 (.hoist 1 (.hoist 2 (.hoist 3 (.hoist 4 (.hoist 5 (.hoist 6 (.hoist 7 (.hoist 8 (.hoist 9 (.hoist 10 .done))))))))))) ay (by kernel_rfl) (by kernel_rfl) ?_;simp only[go_sem,Cc.cs];refine⟨⟨by omega,by omega,(y0 k0 hk).2⟩,.string (bs ifs[k0]),(y0 k0 hk).1,⟨by omega,by omega,(y0 j hj).2⟩,.string (bs ifs[j]),(y0 j hj).1,?_⟩;simp only[go_sem,Cc.cs,Fc.cs];refine⟨fun he=> ?_,fun cP=>⟨by unfold az;simp only[aA] at b0;omega,j+1,by simp,⟨by omega,?_⟩,by omega⟩⟩
      ·have hc:=kR (by omega) he.symm;rw[nq,g0,jh,hc];rfl
      ·rw[rU,u2,beq_eq_false_iff_ne.2 cP];rfl
     ·have oH:j=k0:=by omega
      subst oH;exact⟨by unfold az;simp only[aA] at b0;omega,j+1,by simp,⟨by omega,by rw[g0,jh,u2];rfl⟩,by omega⟩
   ·have e0:je [] ifs=false:=by
     rw[g0,List.drop_of_length_le (by omega)];rfl
    refine fg ay (fun y:Nat=>⟨[⟨1,[],.box 0 0⟩,⟨5,[],.v (.int .i64 y)⟩],[],[⟨0,59,x.cs.map .v⟩],[],1,m⟩)
     (fun y=>y<=x.fn/\je [] (fields.map (·.name))=je ((fields.map (·.name)).take y) ((fields.map (·.name)).drop y)) (fun y=>x.fn - y) 0 (by kernel_rfl) (fun _ _=>aq _) (fun _ _=> .inl rfl) (fun _=> ?_) ?_ ?_ ?_
    ·simp only[go_sem,Cc.cs]
    ·simp only[go_sem,Cc.cs];rfl
    ·exact⟨au _,rfl⟩
    ·rintro k1 ⟨h1,g1⟩;simp only[go_sem,Cc.cs];refine⟨fun ao=> ?_,fun cQ=> ?_⟩
     ·have hk:k1<fields.length:=by omega
      have cE:k1<(fields.map (·.name)).length:=by simpa using hk
      have jh:=yE cE;refine fg ay (fun y:Nat=>⟨[⟨1,[],.box 0 0⟩,⟨5,[],.v (.int .i64 k1)⟩,⟨6,[],.v (.int .i64 y)⟩],[],[⟨0,59,x.cs.map .v⟩],[],1,m⟩)
       (fun y=>y<=k1/\((fields.map (·.name)).take y).contains (fields.map (·.name))[k1]=false) (fun y=>k1 - y) 0 (by kernel_rfl) (fun _ _=>aq _) (fun _ _=> .inl rfl) (fun _=> ?_) ?_ ?_ ?_
      ·simp only[go_sem,Cc.cs]
      ·simp only[go_sem,Cc.cs];rfl
      ·exact⟨au _,by simp⟩
      ·rintro j ⟨u1,u2⟩;simp only[go_sem,Cc.cs];refine⟨fun I9=> ?_,fun Ja=> ?_⟩
       ·have hj:j<fields.length:=by omega
        have pF:j<(fields.map (·.name)).length:=by simpa using hj
        have rU:=Da pF (fields.map (·.name))[k1];have kR:=fun(qu:j<k1) (he:(fields.map (·.name))[j]=(fields.map (·.name))[k1])=>DM qu cE (fields.map (·.name))[k1] he
        refine cg (.hoist 0 (.hoist 1 (.hoist 2 (.hoist 3 (.hoist 4 (.hoist 5 (.hoist 6 (.hoist 7 (.hoist 8 (.hoist 9 (.hoist 10 (.hoist 11 (.hoist 12 .done))))))))))))) ay (by kernel_rfl) (by kernel_rfl) ?_;simp only[go_sem,Cc.cs];refine⟨⟨by omega,by omega,(y1 k1 hk).2⟩,lz (y1 k1 hk).1,.string (bs (fields[k1]).name),jH (y1 k1 hk).1 4 1 (dL rfl),⟨by omega,by omega,(y1 j hj).2⟩,lz (y1 j hj).1,.string (bs (fields[j]).name),jH (y1 j hj).1 4 1 (dL rfl),?_⟩;simp only[go_sem,Cc.cs,Fc.cs];simp only[List.getElem_map] at rU kR u2;refine⟨fun he=> ?_,fun cP=>⟨by unfold az;simp only[aA] at b1;omega,j+1,by simp,⟨by omega,?_⟩,by omega⟩⟩
        ·have hc:=kR (by omega) he.symm;simp only[List.getElem_map] at jh;simp only[nq,g1,jh,hc,Bool.true_or,Bool.or_true]
        ·rw[List.getElem_map,rU,u2,beq_eq_false_iff_ne.2 cP];rfl
       ·have oH:j=k1:=by omega
        subst oH;exact⟨by unfold az;simp only[aA] at b1;omega,j+1,by simp,⟨by omega,by rw[g1,jh,u2];rfl⟩,by omega⟩
     ·have e1:je [] (fields.map (·.name))=false:=by
       rw[g1,List.drop_of_length_le (by simp;omega)];rfl
      refine fg ay (fun y:Nat=>⟨[⟨1,[],.box 0 0⟩,⟨7,[],.v (.int .i64 y)⟩],[],[⟨0,59,x.cs.map .v⟩],[],1,m⟩)
       (fun y=>y<=x.ml/\je [] (methods.map fun m=>(m.name,m.params.length))=je ((methods.map fun m=>(m.name,m.params.length)).take y) ((methods.map fun m=>(m.name,m.params.length)).drop y)) (fun y=>x.ml - y) 0 (by kernel_rfl) (fun _ _=>aq _) (fun _ _=> .inl rfl) (fun _=> ?_) ?_ ?_ ?_
      ·simp only[go_sem,Cc.cs]
      ·simp only[go_sem,Cc.cs];rfl
      ·exact⟨au _,rfl⟩
      ·rintro k2 ⟨h2,g2⟩;simp only[go_sem,Cc.cs];refine⟨fun ao=> ?_,fun cQ=> ?_⟩
       ·have hk:k2<methods.length:=by omega
        have cE:k2<(methods.map fun m=>(m.name,m.params.length)).length:=by simpa using hk
        have jh:=yE cE;refine fg ay (fun y:Nat=>⟨[⟨1,[],.box 0 0⟩,⟨7,[],.v (.int .i64 k2)⟩,⟨8,[],.v (.int .i64 y)⟩],[],[⟨0,59,x.cs.map .v⟩],[],1,m⟩)
         (fun y=>y<=k2/\((methods.map fun m=>(m.name,m.params.length)).take y).contains (methods.map fun m=>(m.name,m.params.length))[k2]=false) (fun y=>k2 - y) 0 (by kernel_rfl) (fun _ _=>aq _) (fun _ _=> .inl rfl) (fun _=> ?_) ?_ ?_ ?_
        ·simp only[go_sem,Cc.cs]
        ·simp only[go_sem,Cc.cs];rfl
        ·exact⟨au _,by simp⟩
        ·rintro j ⟨u1,u2⟩;simp only[go_sem,Cc.cs];refine⟨fun I9=> ?_,fun Ja=> ?_⟩
         ·have hj:j<methods.length:=by omega
          have pF:j<(methods.map fun m=>(m.name,m.params.length)).length:=by simpa using hj
          have rU:=Da pF (methods.map fun m=>(m.name,m.params.length))[k2];have kR:=fun(qu:j<k2) (he:(methods.map fun m=>(m.name,m.params.length))[j]=(methods.map fun m=>(m.name,m.params.length))[k2])=>DM qu cE (methods.map fun m=>(m.name,m.params.length))[k2] he
          refine cg (.hoist 0 (.hoist 1 (.hoist 2 (.hoist 3 (.hoist 4 (.hoist 5 (.hoist 6 (.hoist 7 (.hoist 8 (.hoist 9 (.hoist 10 (.hoist 11 (.hoist 12 (.hoist 13 (.hoist 14 (.hoist 15 (.hoist 16 (.hoist 17 (.hoist 18 (.hoist 19 (.hoist 20 (.hoist 21 (.hoist 22 (.hoist 23 (.hoist 24 (.hoist 25 (.hoist 26 (.hoist 27 (.hoist 28 (.hoist 29 .done)))))))))))))))))))))))))))))) ay (by kernel_rfl) (by kernel_rfl) ?_;simp only[go_sem,Cc.cs];refine Exists.elim (y2 k2 hk) fun X hX=>Exists.elim (y2 j hj) fun Y hY=> ?_
          refine⟨⟨by clear hX hY;omega,by clear hX hY;omega,hX.1.2⟩,lz hX.1.1,.string (bs X.name),jH hX.1.1 4 1 (dL rfl),⟨by clear hX hY;omega,by clear hX hY;omega,hY.1.2⟩,lz hY.1.1,.string (bs Y.name),jH hY.1.1 4 1 (dL rfl),?_⟩;simp only[go_sem,Cc.cs,Mc.cs];refine⟨fun _=>⟨by clear hX hY;omega,by clear hX hY;omega,hX.1.2⟩,fun _=>lz hX.1.1,.slice X.pa X.pl X.pc,fun _=>jH hX.1.1 5 1 (dL rfl),?_⟩;simp only[go_sem,Cc.cs,Mc.cs];refine⟨fun _=>⟨by clear hX hY;omega,by clear hX hY;omega,hY.1.2⟩,fun _=>lz hY.1.1,.slice Y.pa Y.pl Y.pc,fun _=>jH hY.1.1 5 1 (dL rfl),?_⟩;have e3:(methods.map fun m=>(m.name,m.params.length))[k2]=(X.name,X.pl):=by rw[List.getElem_map,hX.2.1,hX.2.2]
          have e4:(methods.map fun m=>(m.name,m.params.length))[j]=(Y.name,Y.pl):=by rw[List.getElem_map,hY.2.1,hY.2.2]
          rw[e3] at kR jh u2 rU;rw[e4] at kR rU;clear hX hY e4;simp only[go_sem,Cc.cs,Mc.cs];refine⟨fun he=> ?_,fun cP=>⟨by unfold az;simp only[aA] at b2;omega,j+1,by simp,⟨by omega,?_⟩,by omega⟩⟩
          ·have hc:=kR (by omega) (by rw[he.1,(by omega:X.pl=Y.pl)]);simp only[nq,g2,jh,hc,Bool.true_or,Bool.or_true]
          ·have hn:¬(X.name,X.pl)=(Y.name,Y.pl):=fun h=>by
            have g1:=congrArg Prod.fst h;have g2:=congrArg Prod.snd h;simp only at g1 g2;rcases cP with h |h
            ·exact h g1
            ·omega
           rw[e3,rU,u2,beq_eq_false_iff_ne.2 hn];rfl
         ·have oH:j=k2:=by omega
          subst oH;exact⟨by unfold az;simp only[aA] at b2;omega,j+1,by simp,⟨by omega,by rw[g2,jh,u2];rfl⟩,by omega⟩
       ·have e2:je [] (methods.map fun m=>(m.name,m.params.length))=false:=by
         rw[g2,List.drop_of_length_le (by simp;omega)];rfl
        simp only[nq,e0,e1,e2];rfl
theorem SQ {l:List St} {k:Nat} (hk:k<l.length) (h:jN (l.take k)=true):jN (l.take (k+1))=(decide (fh l[k]<=24)&&decide (nb l[k]<=24)):=by
 simp only[jN,cY,gz] at h;rw[jN,zW hk,yj hk,<- Bool.decide_and,<- Bool.decide_and,decide_eq_decide];omega
theorem VK {l:List St} {k:Nat} (h:jN (l.take (k+1))=false) (hk:k<l.length):jN l=false:=by
 have h1:=CW l (k+1);have h2:eW (l.take (k+1))<=eW l:=by
  have:∀(l:List St) (k:Nat),eW (l.take k)<=eW l:=fun l=>by
   induction l with
   |nil=>intro k;simp
   |cons a r ih=>
    intro k;cases k with
    |zero=>simp [eW]
    |succ k=>
     have:=ih k;simp only[List.take_succ_cons,eW];omega
  exact this l (k+1)
 cases hf:jN l with
 |false=>rfl
 |true=>
  simp only[jN,cY,gz] at hf;rw[jN,bX (by omega),bX (by omega)] at h;cases h
theorem Kr (l:List St) (a:Option Addr) (n c:Nat) (xs:List Value) (m:Mem) (hl:n=l.length) (hr:aK m a n 23 xs) (hs:bF m l xs) (hn:n<=aA) (hz:ek l<=aA):aB 112 [.v (.slice a n c)] m (.bool (jN l)):=by
 have hD:=yT (g:=fun e=> .int .i64 (fh e)) hl hr hs fun e he cs m2 aY bh=>FT _ e cs m2 (aq _) (by have:=z7 he;have:=Lv e;omega) bh
 have hE:=yT (g:=fun e=> .int .i64 (nb e)) hl hr hs fun e he cs m2 aY bh=>F8 _ e cs m2 (aq _) (by have:=z7 he;omega) bh
 refine aL ay Tryz.func112 ?_
 ·simp only[go_sem];refine cO ay (fun x:Nat×Mem=>⟨[⟨0,[],.v (.slice a n c)⟩,⟨3,[],.v (.int .i64 x.1)⟩],[],[],[],0,x.2⟩)
    (fun x=>an m x.2/\x.1<=n/\jN (l.take x.1)=true) (fun x=>n - x.1) (0,m) (fun _ _=>aq _) (fun x hx=>hx.1) ?_ ?_ ?_
  ·simp only[go_sem];rfl
  ·exact⟨.inl rfl,au _,rfl⟩
  ·rintro⟨k,mm⟩ ⟨h1,h2,h3⟩;simp only at h1 h2 h3;simp only[go_sem];refine⟨fun ao=> ?_,fun cQ=>⟨h1,?_⟩⟩
   ·have hk:k<l.length:=by clear hD hE;omega
    have hT:=SQ hk h3;have hF:=fun(h:jN (l.take (k+1))=false)=>VK h hk
    have Fi:=fun m2 (h:an m m2)=>hE m2 h k hk
    clear hE;refine Exists.elim (hD mm h1 k hk) fun X hX=>⟨⟨by clear hD Fi hX;omega,ao,hX.1.2⟩,X.cs,⟨hX.1.1,rfl⟩,?_⟩
    clear hD;have ha:=hX.2 mm (.inl rfl);clear hX;simp only[go_sem,Sd.cs,Nd.cs];refine ab ((aX ha (fun V=>rfl)).mono ?_);clear ha;rintro r H' m2 aH ⟨l2,rfl,rfl⟩;have k2:=aa h1 l2;simp only[go_sem,Sd.cs,Nd.cs];refine Exists.elim (Fi m2 k2) fun Y hY=>⟨fun _=>⟨by clear Fi hY;omega,ao,hY.1.2⟩,Y.cs,fun _=>⟨hY.1.1,rfl⟩,?_⟩
    clear Fi;have ha:=hY.2 m2 (.inl rfl);clear hY;simp only[go_sem,Sd.cs,Nd.cs];refine⟨fun hc=>ab ((aX ha (fun V=>rfl)).mono ?_),fun hc=> ?_⟩
    ·clear ha;rintro r H' m3 bN ⟨l3,rfl,rfl⟩;have k3:=aa k2 l3;simp only[go_sem,Sd.cs,Nd.cs];refine⟨fun hb=>⟨k3,?_⟩,fun hb=>⟨by unfold az;simp only[aA] at hn;omega,(k+1,m3),⟨by simp,.inl rfl⟩,⟨k3,by simp only;omega,?_⟩,by simp only;omega⟩⟩
     ·rw[hF];rw[hT,bo (by omega:¬nb l[k]<=24),Bool.and_false]
     ·simp only;rw[hT,bX (by omega:fh l[k]<=24),bX (by omega:nb l[k]<=24)];rfl
    ·clear ha;refine⟨k2,?_⟩;rw[hF];rw[hT,bo (by omega:¬fh l[k]<=24),Bool.false_and]
   ·clear hD hE;rw[gm (by omega)] at h3;exact h3.symm
def yz (d:Cd):Bool:=(d.methods.all fun e=>jN e.body)&&jN d.init
theorem Rc (d:Cd) (cs:List Value) (m:Mem) (h:jW m d cs) (hz:fG d<=aA):aB 43 [.v (.agg ⟨cs⟩)] m (.bool (yz d)):=by
 obtain⟨fl,name,super,ifs,fields,methods,init⟩:=d;obtain⟨x,⟨rfl,rfl,rfl,rfl⟩,⟨dM,hic,fk,hfc,hml,hmc,fT,hsc⟩,ax,r1,r2,xs,ys,r3,s3,r4,s4⟩:=h;simp only at dM fk hml fT r1 r2 r3 s3 r4 s4;simp only[fG] at hz;have b2:x.ml<=aA:=by rw[hml];exact ax.ml
 have hI:=fun m' (hle:an m m')=>Kr init x.sa x.sl x.sc ys m' fT (aD hle r4) (dv hle s4) (by rw[fT];exact ax.l) (by omega)
 have y2:∀m',an m m' ->∀i (hk:i<methods.length),∃X:Mc,(Rd m' (ct x.ma (i * 8)) X.cs/\x.ma≠none)/\aB 112 [.v (.slice X.a X.l X.cp)] m' (.bool (jN methods[i].body)):=fun m' hle i hk=>by
  have bh:=qH hle (pf s3 hk);have cu:=dG (aD hle r3) (by omega:i<x.ml);have jr:=DF (f:=sn) methods[i] (List.getElem_mem hk);simp only[sn] at jr;obtain⟨X,e1,e2,e3,e4,zs,e5,e6⟩:=bh;rw[e1.1] at cu;exact⟨X,cu,Kr _ X.a X.l X.cp zs m' e2.2.2.1 e5 e6 (by rw[e2.2.2.1];exact e3.l) (by omega)⟩
 clear s3 s4;have hX:yz ⟨x.fl,x.name,x.super,ifs,fields,methods,init⟩=((methods.all fun e=>jN e.body)&&jN init):=rfl;refine enter gA ay Tryz.func43 rfl rfl (by kernel_rfl) rfl ?_ ?_
 ·simp only[go_sem,Cc.cs]
 ·simp only[go_sem,Cc.cs];refine fg ay (fun y:Nat×Mem=>⟨[⟨1,[],.box 0 0⟩,⟨3,[],.v (.int .i64 y.1)⟩],[],[⟨0,59,x.cs.map .v⟩],[],1,y.2⟩)
   (fun y=>an m y.2/\y.1<=x.ml/\((methods.take y.1).all fun e=>jN e.body)=true) (fun y=>x.ml - y.1) (0,m) (by kernel_rfl) (fun _ _=>aq _) (fun y hy=> ?_) (fun _=> ?_) ?_ ?_ ?_
  ·exact hy.1
  ·simp only[go_sem,Cc.cs]
  ·simp only[go_sem,Cc.cs];rfl
  ·exact⟨.inl rfl,au _,rfl⟩
  ·rintro⟨k,mm⟩ ⟨g1,g2,g3⟩;simp only at g1 g2 g3;simp only[go_sem,Cc.cs];refine⟨fun ao=> ?_,fun cQ=> ?_⟩
   ·have hk:k<methods.length:=by clear y2 hI;omega
    have hy:=y2 mm g1 k hk;clear y2 hI;refine Exists.elim hy fun X dY=>⟨⟨by clear hy dY;omega,ao,dY.1.2⟩,lz dY.1.1,.slice X.a X.l X.cp,jH dY.1.1 7 1 (dL rfl),?_⟩
    have ha:=dY.2;clear hy dY;refine ab (ha.mono ?_);clear ha;rintro r H' m5 cW ⟨l5,rfl,rfl⟩;simp only[go_sem,Cc.cs];refine⟨fun hf=>⟨aa g1 l5,?_⟩,fun ht=>⟨by unfold az;simp only[aA] at b2;omega,(k+1,m5),⟨by simp,.inl rfl⟩,⟨aa g1 l5,by simp only;omega,?_⟩,by simp only;omega⟩⟩
    ·rw[hX,AY (p:=fun e:Md=>jN e.body) hk hf];rfl
    ·simp only;rw[AA hk,g3,ht];rfl
   ·have ep:methods.take k=methods:=gm (by clear y2 hI;omega);rw[ep] at g3;rw[g3,Bool.true_and] at hX;have ha:=hI mm g1;clear y2 hI;refine ab (ha.mono ?_);clear ha;rintro r H' m5 cW ⟨l5,rfl,rfl⟩;simp only[go_sem,Cc.cs];exact⟨aa g1 l5,hX.symm⟩
/-! Plain: the two depths. -/
theorem R9 {k:Int} {nm:List UInt8} {ty:Ty} {tg ex:Ex} {body alt:List St} (h:gX k nm ty tg ex body alt=true):fD false body=true/\fD false alt=true/\(k=11->mS tg=true):=by
 have hs:∃t t2 a b,iR nm ty tg body alt t t2 a b=true/\(k=11->t2=false):=by
  unfold gX at h;split at h
  ·simp only[cY] at h;exact⟨_,_,_,_,h.1,fun _=>rfl⟩
  split at h
  ·rename_i hk;simp only[cY] at h;exact⟨_,_,_,_,h.1.1.1,fun e=>by rw[hk] at e;exact absurd e (by decide)⟩
  split at h
  ·simp only[cY] at h;exact⟨_,_,_,_,h.1.1,fun _=>rfl⟩
  split at h
  ·simp only[cY] at h;exact⟨_,_,_,_,h.1,fun _=>rfl⟩
  split at h
  ·simp only[cY] at h;exact⟨_,_,_,_,h.1,fun _=>rfl⟩
  split at h
  ·rw[cY] at h;exact⟨_,_,_,_,h.1,fun _=>rfl⟩
  split at h
  ·simp only[cY] at h;exact⟨_,_,_,_,h.1,fun _=>rfl⟩
  split at h
  ·simp only[cY] at h;exact⟨_,_,_,_,h.1,fun _=>rfl⟩
  split at h
  ·simp only[cY] at h;exact⟨_,_,_,_,h.1,fun _=>rfl⟩
  split at h
  ·simp only[cY] at h;exact⟨_,_,_,_,h.1,fun _=>rfl⟩
  ·cases h
 obtain⟨t,t2,a,b,hs,xW⟩:=hs;simp only[iR,cY,Bool.or_eq_true] at hs
 exact⟨hs.1.2,hs.2,fun e=>by
  rcases hs.1.1.1.1.2 with h |h
  ·rw[xW e] at h;cases h
  ·exact h⟩
mutual
theorem V5:∀(s:St),iB s=true->(pj s<=24↔nb s<=24)
 | .mk k nm ty tg ex body alt,h=>by
  rw[N1] at h;obtain⟨h1,h2,h3⟩:=R9 h;simp only[fD,cY] at h1 h2;have i1:=C8 false body h1.2;have i2:=C8 false alt h2.2;have dx:bL ex=wY ex+1:=by cases ex;simp [bL,wY]
  simp only[pj,nb];by_cases hk:k=11
  ·have ht:bL tg=1:=by
    have:=h3 hk;cases tg with
    |mk k n s c ty args=>
     simp only[mS,kh,cY,gz] at this;have ha:args=[]:=List.length_eq_zero_iff.1 (by omega);subst ha;simp [bL,ki]
   rw[aj hk,aj hk];omega
  ·rw[ae hk,ae hk];omega
theorem C8:∀(sup:Bool) (l:List St),jj sup l=true->(dP l<=24↔eW l<=24)
 |_,[],_=>by simp [dP,eW]
 |sup,e::r,h=>by
  simp only[jj,cY] at h;have i1:=V5 e h.1.2;have i2:=C8 false r h.2;simp only[dP,eW];omega
end
theorem NF {sup:Bool} {l:List St} (h:fD sup l=true):jN l=decide (df l<=24/\dP l<=24):=by
 simp only[fD,cY] at h;have:=C8 sup l h.2;rw[jN,<- Bool.decide_and,decide_eq_decide];omega
theorem MD:∀(l:List Md),(∀e∈l,jF e=true)->(l.all fun e=>jN e.body)=decide (j0 l<=24/\j1 l<=24)
 |[],_=>by simp [j0,j1]
 |e::r,h=>by
  have h1:=h e (dz ..);simp only[jF,cY] at h1;rw[List.all_cons,MD r fun x hx=>h x (cS _ hx),NF h1.2,<- Bool.decide_and,decide_eq_decide];simp only[j0,j1];omega
theorem XZ {d:Cd} (h:od d=true):tP d= !yz d:=by
 simp only[od,cY,Bool.not_eq_true',List.any_eq_false] at h;have hm:∀e∈d.methods,jF e=true:=fun e he=>by
  have:=h.2.1.2 e he;simpa using this
 rw[yz,MD d.methods hm,NF h.2.2,tP,<- Bool.decide_and,<- Bool.decide_or,<- decide_not,decide_eq_decide];omega
structure RCls (X:Cc) (e:Cd) (p:Option Addr) (o:Nat) (m' :Mem):Prop where
 rd:Rd m' (ct p o) X.cs
 nn:p≠none
 cl:aB 42 [.v (.agg ⟨X.cs⟩)] m' (.bool (od e))
 sh:aB 43 [.v (.agg ⟨X.cs⟩)] m' (.bool (yz e))
 tw:aB 44 [.v (.agg ⟨X.cs⟩)] m' (.bool (nq e))
theorem RF (l:List Cd) (p:Option Addr) (n c:Nat) (m:Mem) (hz:(l.map fG).sum<=1048576) (h:qW m l p n c):
  FnH Tryz.prog 21 [.v (.slice p n c)] ⟨[],[]⟩ m fun r H' m' =>an m m' /\H' =⟨[],[]⟩/\r= .tup [.v (.string (bs (gg [] l).1)),.v (.int .i64 (gg [] l).2)]:=by
 obtain⟨hl,bl,hn,xs,r1,s1⟩:=h;have y:∀i (hk:i<l.length),∃X:Cc,X.name=l[i].name/\∀m',an m m' ->RCls X l[i] p (i * 7) m' :=fun i hk=>by
  have bh:=pf s1 hk;have j9:=DF (f:=fG) l[i] (List.getElem_mem hk);have hX:∃X:Cc,(xs.drop (i * 7)).take 7=X.cs/\X.name=l[i].name/\az l[i].fl:=by
   obtain⟨X,e1,e2,e3,_⟩:=bh;exact⟨X,e1.1,e1.2.2.1,e3.fl⟩
  obtain⟨X,e1,e2,e3⟩:=hX;refine⟨X,e2,fun m' hle=> ?_⟩;have cu:=dG (aD hle r1) (by omega:i<n);have bJ:=nM hle bh;rw[e1] at cu bJ;have hc:=RE _ _ m' bJ;rw[V8 _ e3] at hc;exact⟨cu.1,cu.2,hc,Rc _ _ m' bJ (by simp only[aA];omega),Rx _ _ m' bJ⟩
 clear s1;refine aL ay Tryz.func21 ?_
 ·simp only[go_sem];refine fg ay (fun x:Nat×Mem=>⟨[⟨0,[],.v (.slice p n c)⟩,⟨4,[],.v (.int .i64 x.1)⟩],[],[],[],0,x.2⟩)
   (fun x=>an m x.2/\x.1<=n/\gg [] l=gg ((l.map (·.name)).take x.1) (l.drop x.1)) (fun x=>n - x.1) (0,m) (by kernel_rfl) (fun _ _=>aq _) (fun x hx=>hx.1) (fun _=> ?_) ?_ ?_ ?_
  ·simp only[go_sem]
  ·simp only[go_sem];rfl
  ·exact⟨.inl rfl,au _,rfl⟩
  ·rintro⟨k,mm⟩ ⟨h1,h2,h3⟩;simp only at h1 h2 h3;have gv:∀(hk:k<l.length),gg [] l=(if od l[k]=true then(if tP l[k]=true then(l[k].name,9) else if(((l.map (·.name)).take k).contains l[k].name||nq l[k])=true then(l[k].name,6) else gg ((l.map (·.name)).take (k+1)) (l.drop (k+1))) else(l[k].name,4)):=fun hk=>by
    rw[h3,List.drop_eq_getElem_cons hk,gg];have:(l.map (·.name)).take (k+1)=(l.map (·.name)).take k++[l[k].name]:=by
     rw[List.take_succ_eq_append_getElem (by simpa using hk)];simp
    rw[this]
   simp only[go_sem];refine⟨fun ao=> ?_,fun cQ=> ?_⟩
   ·have hk:k<l.length:=by clear y;omega
    have lO:=gv hk;clear gv;refine Exists.elim (y k hk) fun X hy=>⟨⟨by clear y hy;omega,ao,(hy.2 mm h1).nn⟩,X.cs,⟨(hy.2 mm h1).rd,rfl⟩,?_⟩
    have ka:=hy.1;have hV:=(hy.2 mm h1).cl;simp only[go_sem,Cc.cs];refine ab ((aX hV (fun V=>rfl)).mono ?_);clear hV;rintro r H' m2 aH ⟨l2,rfl,rfl⟩;have k2:=aa h1 l2;have mK:=(hy.2 m2 k2).rd;have sZ:=(hy.2 m2 k2).nn;have hS:=(hy.2 m2 k2).sh;simp only[go_sem,Cc.cs];refine⟨fun b1=>⟨⟨by clear y hy hS;omega,ao,sZ⟩,lz mK,.string (bs X.name),jH mK 1 1 (dL rfl),?_⟩,fun b1=>⟨⟨by clear y hy hS;omega,ao,sZ⟩,X.cs,⟨mK,rfl⟩,?_⟩⟩
    ·clear y hy hS;refine⟨k2,?_⟩;rw[lO,ae (by rw[b1];decide),ka]
    ·rw[aj b1] at lO;simp only[go_sem,Cc.cs];refine ab ((aX hS (fun V=>rfl)).mono ?_);clear hS;rintro r H' m3 bN ⟨l3,rfl,rfl⟩;have k3:=aa k2 l3;have xL:=(hy.2 m3 k3).rd;have hT:=(hy.2 m3 k3).tw;have mL:tP l[k]= !yz l[k]:=XZ b1;simp only[go_sem,Cc.cs];refine⟨fun b2=>⟨⟨by clear y hy hT;omega,ao,sZ⟩,lz xL,.string (bs X.name),jH xL 1 1 (dL rfl),?_⟩,fun b2=> ?_⟩
     ·clear y hy hT;refine⟨k3,?_⟩;rw[b2,Bool.not_false] at mL;rw[lO,aj mL,ka]
     ·rw[b2] at mL;rw[ae (by rw[mL];decide),<- ka] at lO;refine fg ay (fun x:Nat=>⟨[⟨0,[],.v (.slice p n c)⟩,⟨4,[],.v (.int .i64 k)⟩,⟨5,[],.v (.int .i64 x)⟩],[],[],[],0,m3⟩)
       (fun x=>x<=k/\((l.map (·.name)).take x).contains X.name=false) (fun x=>k - x) 0 (by kernel_rfl) (fun _ _=>aq _) (fun _ _=> .inl rfl) (fun _=> ?_) ?_ ?_ ?_
      ·simp only[go_sem]
      ·simp only[go_sem];rfl
      ·exact⟨au _,by simp⟩
      ·rintro j ⟨u1,u2⟩;simp only[go_sem];refine⟨fun I9=> ?_,fun Ja=> ?_⟩
       ·have hj:j<l.length:=by clear y hy hT;omega
        have pF:j<(l.map (·.name)).length:=by simpa using hj
        have cE:k<(l.map (·.name)).length:=by simpa using hk
        have rU:=Da pF X.name;have kR:=fun(qu:j<k) (he:(l.map (·.name))[j]=X.name)=>DM qu cE X.name he
        rw[List.getElem_map] at rU;refine cg (.hoist 0 (.hoist 1 (.hoist 2 (.hoist 3 (.hoist 4 (.hoist 5 (.hoist 6 (.hoist 7 (.hoist 8 (.hoist 9 (.hoist 10 .done))))))))))) ay (by kernel_rfl) (by kernel_rfl) ?_;simp only[go_sem];refine Exists.elim (y j hj) fun Y hY=> ?_
        have Qp:=(hY.2 m3 k3).rd;have Qg:=hY.1;clear y hy hT hY;refine⟨⟨by omega,by omega,sZ⟩,lz Qp,.string (bs Y.name),jH Qp 1 1 (dL rfl),⟨by omega,ao,sZ⟩,lz xL,.string (bs X.name),jH xL 1 1 (dL rfl),?_⟩;simp only[go_sem];refine⟨fun he=>⟨⟨by omega,ao,sZ⟩,lz xL,.string (bs X.name),jH xL 1 1 (dL rfl),?_⟩,fun cP=>⟨by unfold az;simp only[aA] at hn;omega,j+1,by simp,⟨by omega,?_⟩,by omega⟩⟩
        ·refine⟨k3,?_⟩;rw[lO,kR (by omega) (by rw[List.getElem_map,<- Qg,he])];rfl
        ·rw[rU,u2,beq_eq_false_iff_ne.2 (fun h=>cP (by rw[Qg,h]))];rfl
       ·have qu:j=k:=by clear y hy hT;omega
        subst qu;refine⟨⟨by clear y hy hT;omega,ao,sZ⟩,X.cs,⟨xL,rfl⟩,?_⟩;clear y;rw[u2,Bool.false_or] at lO;simp only[go_sem,Cc.cs];refine ab ((aX hT (fun V=>rfl)).mono ?_);clear hT;rintro r H' m4 dd ⟨l4,rfl,rfl⟩;have k4:=aa k3 l4;have Qq:=(hy.2 m4 k4).rd;clear hy;simp only[go_sem,Cc.cs];refine⟨fun b4=>⟨⟨by omega,ao,sZ⟩,lz Qq,.string (bs X.name),jH Qq 1 1 (dL rfl),?_⟩,fun b4=>⟨by unfold az;simp only[aA] at hn;omega,(j+1,m4),⟨by simp,.inl rfl⟩,⟨k4,by simp only;omega,?_⟩,by simp only;omega⟩⟩
        ·refine⟨k4,?_⟩;rw[lO,aj b4]
        ·simp only;rw[lO,ae (by rw[b4];decide)]
   ·clear y;rw[h3,List.drop_of_length_le (by omega),gg];exact⟨h1,rfl⟩
section
variable {ts:List Tk} {i:Nat} {m:Mem} {a:Option Addr}
theorem ZX (hr:aK m a ts.length 4 (cG ts)) (hi:i<ts.length) {K:Value->Prop}:(∃c,Rd m (pT (ct a (i * 4)) 3) [c]/\K c)=K (.int .i64 (aO ts i).at_):=by
 have h0:Rd m (pT (ct a (i * 4)) 3) [.int .i64 (aO ts i).at_]:=jH (AO hr hi).2 3 1 (by simp [dX]);refine eq_iff_iff.2 ⟨fun h=> ?_,fun h=>⟨_,h0,h⟩⟩;obtain⟨c,⟨ad,e1,_,h1⟩,hk⟩:=h;obtain⟨QX,e2,_,h2⟩:=h0;rw[e1] at e2;cases e2;have h3:=(h1 0 (by simp)).1;have h4:=(h2 0 (by simp)).1;rw[h3] at h4;simp only[List.getElem?_cons_zero,dy] at h4;rw[<- h4];exact hk
theorem W2 {en:Int} (hi:i<ts.length):pw en (ts.drop i)=(aO ts i).at_:=by
 rw[List.drop_eq_getElem_cons hi,AJ hi];rfl
theorem W3 {en:Int} (hi:¬i<ts.length):pw en (ts.drop i)=en:=by
 rw[List.drop_eq_nil_of_le (by omega)];rfl
end
theorem Ts {ts:List Tk} (hT:TsR ts) (t:List UInt8) {k:Nat} (hk:k<=ts.length) (a:Option Addr) (c:Nat) (m:Mem) (ht:t.length<=4611686018427387904) (hr:aK m a ts.length 4 (cG ts)):
  FnH Tryz.prog 29 [.v (.string (bs t)),.v (.slice a ts.length c),.v (.int .i64 k)] ⟨[],[]⟩ m fun r H' m' =>m' =m/\H' =⟨[],[]⟩/\r= .v (.int .i64 (pw t.length (ts.drop k))):=by
 have hl:=hT.few;by_cases hi:k<ts.length
 ·rw[W2 hi];have ls:((k:Int)<ts.length)=True:=eq_true (by omega);refine aL ay Tryz.func29 ?_
  ·simp only[go_sem,ls,lL hr hi,gh hr hi,ZX hr hi,not_true_eq_false,false_implies]
 ·rw[W3 hi];have ls:((k:Int)<ts.length)=False:=eq_false (by omega);refine aL ay Tryz.func29 ?_
  ·simp only[go_sem,ls]
section
variable {ts:List Tk}
theorem Fl {i:Nat} (h:ee (ts.drop i)=true):fw (ts.drop i)= .ok ((aO ts i).s,ts.drop (i+1)):=by rw[fw,aj h,kf,List.tail_drop]
theorem Fm {i:Nat} (h:ee (ts.drop i)=false):fw (ts.drop i)= .error (ts.drop i):=by rw[fw,ae (by rw[h];decide)]
theorem D7 {i:Nat} (h:ee (ts.drop i)=true):i<ts.length:=by
 by_cases ao:i<ts.length
 ·exact ao
 ·rw[List.drop_eq_nil_of_le (by omega)] at h;exact absurd h (by decide)
abbrev H6 (ts:List Tk) (K:PR (List (List UInt8))) (m:Mem):SV->Hp->Mem->Prop:=fun r H' m' =>an m m' /\H' =⟨[],[]⟩/\∃(a:Option Addr) (n c k:Nat) (b:Bool),r= .tup [.v (.slice a n c),.v (.int .i64 k),.v (.bool b)]/\k<=ts.length/\
 ((b=true/\∃ss:List (List UInt8),K= .ok (ss,ts.drop k)/\n=ss.length/\ss.length<=k/\ss.length<=c/\aK m' a ss.length 1 (ss.map fun s=> .string (bs s))/\∀s∈ss,s.length<=aA)\/(b=false/\K= .error (ts.drop k)))
theorem KX (hT:TsR ts) {i:Nat} (hi:i<=ts.length) (a:Option Addr) (c:Nat) (m:Mem) (hr:aK m a ts.length 4 (cG ts)):FnH Tryz.prog 146 [.v (.slice a ts.length c),.v (.int .i64 i)] ⟨[],[]⟩ m (H6 ts (vI (ts.drop i)) m):=by
 have hl:=hT.few;have ck:i<=100000:=by omega
 generalize hK0:vI (ts.drop i)=K0
 rw[vI] at hK0;refine iA (enter (cd ts) (bu hT) Tryz.func146 rfl rfl (by kernel_rfl) rfl ?_ ?_)
 ·simp only[go_sem]
 ·simp only[go_sem,hr,ck];refine pO 7 9 1 (by decide) rfl ?_;refine cO (bu hT) (fun y:Nat×List (List UInt8)×Nat×Mem=>⟨[⟨0,[],.v (.slice a ts.length c)⟩,⟨1,[],.v (.int .i64 y.1)⟩,⟨7,[],.vec 0 y.2.2.1⟩],[],[],[⟨0,y.2.2.1,9,1,y.2.1.length,y.2.1.map fun s=> .string (bs s)⟩],40,y.2.2.2⟩)
   (fun y=>an m y.2.2.2/\y.1<=ts.length/\y.2.1.length<=y.1/\(∀s∈y.2.1,s.length<=aA)/\(av (fw (ts.drop y.1)) fun s r=>wQ (y.2.1++[s]) r)=K0)
   (fun y=>ts.length - y.1) (i,[],0,m) (fun _ _=>dL rfl) (fun y hy=>hy.1) ?_ ?_ ?_
  ·simp only[go_sem]
  ·exact⟨.inl rfl,hi,au _,fun s hs=>(by cases hs),hK0⟩
  ·rintro⟨k,ss,u,mm⟩ ⟨q1,q2,q3,q5,q4⟩;dsimp only at q1 q2 q3 q4 q5;have hs:=hT.toTsB.cs k;have oG:∀s∈ss++[(aO ts k).s],s.length<=aA:=fun s h=>(List.mem_append.1 h).elim (q5 s) fun h=>by rw[List.mem_singleton.1 h];unfold aA;omega
   have ed:room (ss.length+1) 16:=fK (by omega) (by decide);have aS:=aD q1 hr;by_cases h1:ee (ts.drop k)=true
   ·have ao:=D7 h1;have bq:k<=100000:=by omega
    rw[bz (Fl h1),Gy] at q4;by_cases h2:ah ts (k+1) [44]=true
    ·have lQ:=aJ h2;rw[eI h2,List.tail_drop] at q4;simp only[go_sem,aS,h1,h2,bq,ed,lL aS ao,gh aS ao,eX aS ao];refine⟨(k+2,ss++[(aO ts k).s],u+1,mm),⟨⟨rfl,rfl⟩,⟨rfl,by simp,by simp⟩,.inl rfl⟩,⟨q1,lQ,by simp only[bM,fr];omega,oG,q4⟩,by dsimp only;omega⟩
    ·have h2:=bK h2;rw[aT h2] at q4;simp only[go_sem,aS,h1,h2,bq,ed,lL aS ao,gh aS ao,eX aS ao];refine wH (b:=⟨0,u+1,9,1,ss.length+1,(ss.map fun s=> .string (bs s))++[.string (bs (aO ts k).s)]⟩) (by simp only[cN,if_true]) fun a c m2 w1 w2 w3=>⟨aa q1 (.inr w1),rfl,a,ss.length+1,c,k+1,true,rfl,ao,.inl ⟨rfl,ss++[(aO ts k).s],q4.symm,by simp,by simp only[bM,fr];omega,by simpa using w2,by simpa using w3,oG⟩⟩
   ·have h1:=bK h1;rw[cV (Fm h1)] at q4;simp only[go_sem,aS,h1];exact .inl ⟨q1,rfl,none,0,0,k,false,rfl,q2,.inr ⟨rfl,q4.symm⟩⟩
theorem ZW {m:Mem} {p v:Value} (h0:Rd m p [v]) {K:Value->Prop}:(∃c,Rd m p [c]/\K c)=K v:=by
 refine eq_iff_iff.2 ⟨fun h=> ?_,fun h=>⟨_,h0,h⟩⟩;obtain⟨c,⟨ad,e1,_,h1⟩,hk⟩:=h;obtain⟨QX,e2,_,h2⟩:=h0;rw[e1] at e2;cases e2;have h3:=(h1 0 (by simp)).1;have h4:=(h2 0 (by simp)).1;rw[h3] at h4;simp only[List.getElem?_cons_zero,dy] at h4;rw[<- h4];exact hk
theorem EY {m:Mem} {a:Option Addr} {n:Nat} {xs:List Value} (hr:aK m a n 1 xs) {j:Nat} (hj:j<n) {v:Value} (hv:xs[j]? =some v) {K:Value->Prop}:(∃c,Rd m (ct a j) [c]/\K c)=K v:=by
 refine ZW ?_;have h:=(dG hr hj).1;rw[Nat.mul_one] at h;obtain⟨h1,h2⟩:=List.getElem?_eq_some_iff.1 hv;rw[List.drop_eq_getElem_cons h1,h2] at h;exact h
theorem E4 {m:Mem} {a:Option Addr} {n:Nat} {xs:List Value} (hr:aK m a n 1 xs) {j:Nat} (hj:j<n):Bl a n (j:Int)=True:=eq_true ⟨by omega,by omega,(dG hr hj).2⟩
theorem Ys {q:List (Int×List UInt8)} (h:∀p∈q,0<=p.1):0<=(q.map (·.1)).sum:=by
 induction q with
 |nil=>simp
 |cons p q ih=>
  have h1:=ih fun x hx=>h x (cS _ hx)
  have h2:=h p (dz ..);rw[br,List.sum_cons];omega
abbrev Pp (ts:List Tk) (q:List (Int×List UInt8)) (i:Nat) (m:Mem):SV->Hp->Mem->Prop:=fun r H' m' =>m' =m/\H' =⟨[],[]⟩/\∃(v:Int) (k:Nat),r= .tup [.v (.int .i64 v),.v (.int .i64 k)]/\i<=k/\k<=ts.length/\0<=v/\v<=(q.map (·.1)).sum/\bg q 0 (ts.drop i)=(v,ts.drop k)
theorem LR (hT:TsR ts) {i:Nat} (hi:i<=ts.length) (q:List (Int×List UInt8)) (hq:∀p∈q,eU p.2=true/\0<=p.1) (hs:(q.map (·.1)).sum<=100000) (E9:q.length<=100) (a aw af:Option Addr) (c cw cf:Nat) (m:Mem) (hr:aK m a ts.length 4 (cG ts))
  (hw:aK m aw q.length 1 (q.map fun p=> .string (bs p.2))) (hf:aK m af q.length 1 (q.map fun p=> .int .i64 p.1)):
  FnH Tryz.prog 145 [.v (.slice a ts.length c),.v (.int .i64 i),.v (.slice aw q.length cw),.v (.slice af q.length cf)] ⟨[],[]⟩ m (Pp ts q i m):=by
 have hl:=hT.few;have ck:i<=100000:=by omega
 refine enter (cd ts) (bu hT) Tryz.func145 rfl rfl (by kernel_rfl) rfl ?_ ?_
 ·simp only[go_sem]
 ·simp only[go_sem,ck];refine fg (bu hT) (fun y:Nat×Nat×Int=>⟨[⟨0,[],.v (.slice a ts.length c)⟩,⟨1,[],.v (.int .i64 y.2.1)⟩,⟨2,[],.v (.slice aw q.length cw)⟩,⟨3,[],.v (.slice af q.length cf)⟩,⟨10,[],.v (.int .i64 y.2.2)⟩,⟨11,[],.v (.int .i64 y.1)⟩],[],[],[],40,m⟩)
   (fun y=>y.1<=q.length/\i<=y.2.1/\y.2.1<=ts.length/\0<=y.2.2/\y.2.2+((q.drop y.1).map (·.1)).sum<=(q.map (·.1)).sum/\bg (q.drop y.1) y.2.2 (ts.drop y.2.1)=bg q 0 (ts.drop i))
   (fun y=>q.length - y.1) (0,i,0) (by kernel_rfl) (fun _ _=>dL rfl) (fun y hy=> .inl rfl) (fun _=> ?_) ?_ ?_ ?_
  ·simp only[go_sem]
  ·simp only[go_sem];exact rfl
  ·exact⟨au _,aq _,hi,Int.le_refl _,by simp,rfl⟩
  ·rintro⟨j,k,fl⟩ ⟨q1,q2,q3,q4,q5,q6⟩;dsimp only at q1 q2 q3 q4 q5 q6;have bq:k<=100000:=by omega
   by_cases hj:j<q.length
   ·have hd:q.drop j=q[j]::q.drop (j+1):=List.drop_eq_getElem_cons hj;have hp:=hq q[j] (List.getElem_mem hj);rw[hd,br,List.sum_cons] at q5;rw[hd,eE] at q6;have agc:0<=((q.drop (j+1)).map (·.1)).sum:=Ys fun p hp=>(hq p (List.mem_of_mem_drop hp)).2
    have hv:(q.map fun p=>Value.string (bs p.2))[j]? =some (.string (bs q[j].2)):=by simp [hj]
    have Qk:(q.map fun p=>Value.int .i64 p.1)[j]? =some (.int .i64 q[j].1):=by simp [hj]
    have mK:=hp.2;have hb:az (fl+q[j].1):=by unfold az;omega
    by_cases h1:ah ts k q[j].2=true
    ·rw[aj (by rw[<- ar];exact h1),List.tail_drop] at q6;have ao:=aJ h1;simp only[go_sem,hr,bq,eq_true (show(j:Int)<(q.length:Int) by omega),true_implies,not_true_eq_false,false_implies,and_true,E4 hw hj,E4 hf hj,EY hw hj hv,EY hf hj Qk,rk,hp.1,h1,eq_true hb];exact⟨by unfold az;omega,(j+1,k+1,fl+q[j].1),⟨rfl,rfl,rfl⟩,⟨by dsimp only;omega,by dsimp only;omega,ao,by dsimp only;omega,by dsimp only;omega,q6⟩,by dsimp only;omega⟩
    ·have h1:=bK h1;rw[ae (by rw[<- ar,h1];decide)] at q6;simp only[go_sem,hr,bq,eq_true (show(j:Int)<(q.length:Int) by omega),true_implies,not_true_eq_false,false_implies,and_true,E4 hw hj,E4 hf hj,EY hw hj hv,EY hf hj Qk,rk,hp.1,h1,eq_true hb];exact⟨by unfold az;omega,(j+1,k,fl),⟨rfl,rfl,rfl⟩,⟨by dsimp only;omega,q2,q3,q4,by dsimp only;omega,q6⟩,by dsimp only;omega⟩
   ·have hn:q.drop j=[]:=List.drop_eq_nil_of_le (by omega);rw[hn] at q5 q6;simp only[go_sem,hr,bq,eq_false (show ¬(j:Int)<(q.length:Int) by omega),false_implies,not_false_eq_true,true_implies,true_and];exact⟨rfl,rfl,fl,k,rfl,q2,q3,q4,by simpa using q5,q6.symm⟩
end
section
variable {ts:List Tk}
abbrev aa6 (ts:List Tk) (K:PR (List Pc)) (m:Mem):SV->Hp->Mem->Prop:=fun r H' m' =>an m m' /\H' =⟨[],[]⟩/\∃(a:Option Addr) (n c k:Nat) (b:Bool),r= .tup [.v (.slice a n c),.v (.int .i64 k),.v (.bool b)]/\k<=ts.length/\
 ((b=true/\∃ps:List Pc,K= .ok (ps,ts.drop k)/\n=ps.length/\ps.length<=k/\ps.length<=c/\aK m' a ps.length 4 (flat Pc.cs ps)/\∀p∈ps,PcOk p)\/(b=false/\K= .error (ts.drop k)))
def adO (ts:List Tk) (i:Nat):Prop:=∀(a:Option Addr) (c:Nat) (m:Mem),aK m a ts.length 4 (cG ts)->FnH Tryz.prog 203 [.v (.slice a ts.length c),.v (.int .i64 i)] ⟨[],[]⟩ m (aa6 ts (mP (ts.drop i)) m)
theorem WJ (hT:TsR ts) {i:Nat} (hi:i<=ts.length):adO ts i:=fun a c m hr=>by
 have hl:=hT.few;have ck:i<=100000:=by omega
 generalize hK0:mP (ts.drop i)=K0
 rw[mP] at hK0;by_cases h1:ah ts i [40]=true
 ·have ao:=aJ h1;rw[gI h1] at hK0;by_cases h2:ah ts (i+1) [41]=true
  ·rw[eI h2,List.tail_drop] at hK0;refine enter (cd ts) (bu hT) Tryz.func203 rfl rfl (by kernel_rfl) rfl ?_ ?_
   ·simp only[go_sem]
   ·simp only[go_sem,hr,h1,h2,ck];exact⟨.inl rfl,rfl,none,0,0,i+2,true,rfl,aJ h2,.inl ⟨rfl,[],hK0.symm,rfl,au _,aq _,cX _ _,fun p hp=>(by cases hp)⟩⟩
  ·have h2:=bK h2;rw[aT h2] at hK0;refine iA (enter (cd ts) (bu hT) Tryz.func203 rfl rfl (by kernel_rfl) rfl ?_ ?_)
   ·simp only[go_sem]
   ·simp only[go_sem,hr,h1,h2,ck];refine pO 7 160 4 (by decide) rfl ?_;refine cO (bu hT) (fun y:Nat×List Pc×Nat×Mem=>⟨[⟨0,[],.v (.slice a ts.length c)⟩,⟨1,[],.v (.int .i64 y.1)⟩,⟨7,[],.vec 0 y.2.2.1⟩],[],[],[⟨0,y.2.2.1,160,4,y.2.1.length,flat Pc.cs y.2.1⟩],40,y.2.2.2⟩)
     (fun y=>an m y.2.2.2/\y.1<=ts.length/\y.2.1.length<=y.1/\(∀p∈y.2.1,PcOk p)/\(av (fN (ts.drop y.1)) fun t r=>av (dr r) fun s r2=>yP (y.2.1++[⟨t,s⟩]) r2)=K0)
     (fun y=>ts.length - y.1) (i+1,[],0,m) (fun _ _=>dL rfl) (fun y hy=>hy.1) ?_ ?_ ?_
    ·simp only[go_sem];exact⟨rfl,rfl⟩
    ·exact⟨.inl rfl,ao,au _,fun p hp=>(by cases hp),hK0⟩
    ·rintro⟨k,ps,u,mm⟩ ⟨q1,q2,q3,q4,q5⟩;dsimp only at q1 q2 q3 q4 q5;have hb:=Af a c k mm hT q2 (aD q1 hr);simp only[go_sem];refine ab (hb.mono ?_);clear hb;rintro r H' m1 aN ⟨l1,rfl,t,k1,b1,rfl,aV,cZ,⟨rfl,hK⟩ |⟨rfl,hK⟩⟩
     ·have u1:=aa q1 l1;have aS:=aD u1 hr;have bq:k1<=100000:=by omega
      have hs:=hT.toTsB.cs k1;have ep:k<k1:=kX (Au _) hK aV;rw[bz hK] at q5;have ed:room (ps.length+1) 48:=fK (by omega) (by decide);by_cases hid:eY (ts.drop k1)=true
      ·have cA:=tG hid;rw[bz (rO hid),Gf] at q5;have uC:PcOk ⟨t,(aO ts k1).s⟩:=⟨cZ.ok (by omega),by unfold aA;dsimp only;omega⟩;have ny:∀p∈ps++[⟨t,(aO ts k1).s⟩],PcOk p:=fun p hp=>(List.mem_append.1 hp).elim (q4 p) fun h=>by rw[List.mem_singleton.1 h];exact uC
       by_cases h3:ah ts (k1+1) [41]=true
       ·rw[aT (be h3 (by decide)),gI h3] at q5;simp only[go_sem,aS,bq,hid];refine cg (.hoist 0 (.hoist 1 (.hoist 2 (.hoist 3 (.hoist 4 (.hoist 5 (.hoist 6 (.hoist 7 (.alt 8 [0] (.alt 9 [] (.hoist 10 .done) .stop) .stop))))))))) (bu hT) (by kernel_rfl) (by kernel_rfl) ?_;simp only[go_sem,lL aS cA,gh aS cA,eX aS cA,ed,aS,h3,bq];refine wH (b:=⟨0,u+1,160,4,ps.length+1,flat Pc.cs ps++Pc.cs ⟨t,(aO ts k1).s⟩⟩) (by simp only[cN,if_true];rfl) fun a c m2 w1 w2 w3=>⟨aa u1 (.inr w1),rfl,a,ps.length+1,c,k1+2,true,rfl,aJ h3,.inl ⟨rfl,ps++[⟨t,(aO ts k1).s⟩],q5.symm,by simp,by simp only[bM,fr];omega,by simpa using w2,?_,ny⟩⟩
        rw[uO,bM,fr];exact w3
       ·have h3:=bK h3;by_cases h4:ah ts (k1+1) [44]=true
        ·rw[eI h4,List.tail_drop] at q5;have qi:=aJ h4;simp only[go_sem,aS,bq,hid];refine cg (.hoist 0 (.hoist 1 (.hoist 2 (.hoist 3 (.hoist 4 (.hoist 5 (.hoist 6 (.hoist 7 (.alt 8 [0] (.alt 9 [] (.hoist 10 .done) .stop) .stop))))))))) (bu hT) (by kernel_rfl) (by kernel_rfl) ?_;simp only[go_sem,lL aS cA,gh aS cA,eX aS cA,ed,aS,h3,h4,bq];exact⟨(k1+2,ps++[⟨t,(aO ts k1).s⟩],u+1,m1),⟨⟨rfl,rfl⟩,⟨rfl,by simp,by rw[uO];rfl⟩,.inl rfl⟩,⟨u1,qi,by simp only[bM,fr];omega,ny,q5⟩,by dsimp only;omega⟩
        ·have h4:=bK h4;rw[aT h4,gJ h3] at q5;simp only[go_sem,aS,bq,hid];refine cg (.hoist 0 (.hoist 1 (.hoist 2 (.hoist 3 (.hoist 4 (.hoist 5 (.hoist 6 (.hoist 7 (.alt 8 [0] (.alt 9 [] (.hoist 10 .done) .stop) .stop))))))))) (bu hT) (by kernel_rfl) (by kernel_rfl) ?_;simp only[go_sem,lL aS cA,gh aS cA,eX aS cA,ed,aS,h3,h4,bq];exact .inl ⟨u1,rfl,none,0,0,k1+1,false,rfl,cA,.inr ⟨rfl,q5.symm⟩⟩
      ·have hid:=bK hid;rw[cV (vU hid)] at q5;simp only[go_sem,aS,bq,hid];exact .inl ⟨u1,rfl,none,0,0,k1,false,rfl,aV,.inr ⟨rfl,q5.symm⟩⟩
     ·rw[cV hK] at q5;simp only[go_sem,not_true_eq_false,false_and,false_implies,and_true];exact .inl ⟨aa q1 l1,rfl,none,0,0,k1,false,rfl,aV,.inr ⟨rfl,q5.symm⟩⟩
 ·have h1:=bK h1;rw[gJ h1] at hK0;refine enter (cd ts) (bu hT) Tryz.func203 rfl rfl (by kernel_rfl) rfl ?_ ?_
  ·simp only[go_sem]
  ·simp only[go_sem,hr,h1];exact⟨.inl rfl,rfl,none,0,0,i,false,rfl,hi,.inr ⟨rfl,hK0.symm⟩⟩
end
section
variable {ts:List Tk}
theorem GU:∀(p q:List (Int×List UInt8)) (fl:Int) (l:List Tk),bg (p++q) fl l=bg q (bg p fl l).1 (bg p fl l).2
 |[],_,_,_=>rfl
 |x::p,q,fl,l=>by
  rw[jD,eE,eE];split
  ·exact GU p q _ _
  ·exact GU p q _ _
theorem Nx {w w' :List UInt8} {l:List Tk} (h:aC w l=true) (hw:w≠w'):aC w' l=false:=by
 have h0:ah l 0 w=true:=by rw[ar];exact h
 have h1:=be h0 hw;rw[ar] at h1;exact h1
theorem Ox {fl v:Int} {l r:List Tk} (h:bg iN fl l=(v,r)) (h0:0<=fl) (hc:v<=1\/aC zo l=true):(fl,l)=(v,r):=by
 unfold iN at h;rw[eE] at h;by_cases f:aC Iu l=true
 ·rw[aj f,eE] at h;exfalso;rcases hc with hc |hc
  ·by_cases g:aC BF l.tail=true
   ·rw[aj g] at h;have:=congrArg Prod.fst h;simp only[bg] at this;omega
   ·rw[ae g] at h;have:=congrArg Prod.fst h;simp only[bg] at this;omega
  ·rw[Nx hc (by decide)] at f;cases f
 ·rw[ae f,eE] at h;by_cases g:aC BF l=true
  ·rw[aj g] at h;exfalso;rcases hc with hc |hc
   ·have:=congrArg Prod.fst h;simp only[bg] at this;omega
   ·rw[Nx hc (by decide)] at g;cases g
  ·rw[ae g] at h;exact h
def Qo:List (Int×List UInt8):=fR++iN
theorem OU (l:List Tk):0<=(bg fR 0 l).1:=by
 unfold fR;rw[eE];split
 ·simp [bg]
 ·simp [bg]
theorem ZO (l:List Tk):(bg fR 0 l).1<=1:=by
 unfold fR;rw[eE];split
 ·simp [bg]
 ·simp [bg]
theorem O4 {i:Nat} {w:List UInt8} (h:ah ts i w=true):gY w (ts.drop i)=vI (ts.drop (i+1)):=by rw[gY,eI h,List.tail_drop];rfl
theorem O5 {i:Nat} {w:List UInt8} (h:ah ts i w=false):gY w (ts.drop i)= .ok ([],ts.drop i):=by rw[gY,aT h]
theorem adF (v:Int) (h0:0<=v) (h1:v<=1041):(bits .andNot .i64 v 1=0)=(v<=1):=by
 have h:(List.range 1042).all (fun n=>decide (bits .andNot .i64 (n:Int) 1=0)==decide ((n:Int)<=1))=true:=by kernel_rfl
 obtain⟨k,rfl⟩:=Int.eq_ofNat_of_zero_le h0;have:=List.all_eq_true.1 h k (List.mem_range.2 (by omega));simpa using this
abbrev hdV (fl:Int) (nm sup:List UInt8) (ia:Option Addr) (n ic:Nat):SV:= .agg [.v (.int .i64 fl),.v (.string (bs nm)),.v (.string (bs sup)),.v (.slice ia n ic),.v (.slice none 0 0),.v (.slice none 0 0),.v (.slice none 0 0)]
abbrev aa7 (ts:List Tk) (K:PR Cd) (m:Mem):SV->Hp->Mem->Prop:=fun r H' m' =>an m m' /\H' =⟨[],[]⟩/\∃(fl:Int) (nm sup:List UInt8) (ia:Option Addr) (n ic k:Nat) (b:Bool),r= .tup [hdV fl nm sup ia n ic,.v (.int .i64 k),.v (.bool b)]/\k<=ts.length/\
 ((b=true/\∃is:List (List UInt8),K= .ok (⟨fl,nm,sup,is,[],[],[]⟩,ts.drop k)/\n=is.length/\n<=ic/\aK m' ia n 1 (strs is)/\CdOk ⟨fl,nm,sup,is,[],[],[]⟩)\/(b=false/\K= .error (ts.drop k)))
theorem U0 (hT:TsR ts) {i:Nat} (hi:i<=ts.length) (a:Option Addr) (c:Nat) (m:Mem) (hr:aK m a ts.length 4 (cG ts)):FnH Tryz.prog 57 [.v (.slice a ts.length c),.v (.int .i64 i)] ⟨[],[]⟩ m (aa7 ts (kZ (ts.drop i)) m):=by
 have hl:=hT.few;have ck:i<=100000:=by omega
 generalize hK0:kZ (ts.drop i)=K0
 unfold kZ at hK0;have gl:∀(aw af:Option Addr) (cw cf:Nat) (m' :Mem),aK m' a ts.length 4 (cG ts)->aK m' aw 3 1 [.string (bs [112,117,98,108,105,99]),.string (bs [102,105,110,97,108]),.string (bs [97,98,115,116,114,97,99,116])]->aK m' af 3 1 [.int .i64 1,.int .i64 16,.int .i64 1024]->
   FnH Tryz.prog 145 [.v (.slice a ts.length c),.v (.int .i64 i),.v (.slice aw 3 cw),.v (.slice af 3 cf)] ⟨[],[]⟩ m' (Pp ts Qo i m'):=fun aw af cw cf m' xI hw hf=>LR hT hi Qo (by decide) (by decide) (by decide) a aw af c cw cf m' xI hw hf
 refine enter (cd ts) (bu hT) Tryz.func57 rfl rfl (by kernel_rfl) rfl ?_ ?_
 ·simp only[go_sem]
 ·simp only[go_sem,hr,ck];refine⟨by kernel_rfl,fun aw cw m1 g1 _ hw af cf m2 g2 _ hf=>dh ((gl aw af cw cf m2 (aD (aa (.inr g1) (.inr g2)) hr) (aD (.inr g2) hw) hf).mono ?_)⟩;have u:an m m2:=aa (.inr g1) (.inr g2);have aS:=aD u hr;clear gl hw hf g1 g2;rintro r H' m3 bN ⟨h3,rfl,v,k,rfl,Jc,hk,hv0,zK,hM⟩;subst h3;have zK:v<=1041:=zK;have bq:k<=100000:=by omega
  have fp:=fun j=>hT.toTsB.cs j
  have Cr:bg iN (bg fR 0 (ts.drop i)).1 (bg fR 0 (ts.drop i)).2=(v,ts.drop k):=by rw[<- GU];exact hM
  have hand:=adF v hv0 zK;have t3:((k:Int)+1+1+1).toNat=k+3:=by omega
  have t4:((k:Int)+1+1+2).toNat=k+4:=by omega
  have n3:(0<=(k:Int)+1+1+1)=True:=eq_true (by omega);have n4:(0<=(k:Int)+1+1+2)=True:=eq_true (by omega);have b3:az ((k:Int)+1+1+1)=True:=eq_true (by unfold az;omega);have b4:az ((k:Int)+1+1+2)=True:=eq_true (by unfold az;omega);have b5:az ((k:Int)+1+1+2+1)=True:=eq_true (by unfold az;omega);have bv:az (v+512)=True:=eq_true (by unfold az;omega);have bw:az (v+1536)=True:=eq_true (by unfold az;omega);have ev:v+512+1024=v+1536:=by omega
  by_cases hI:ah ts k [105,110,116,101,114,102,97,99,101]=true/\v<=1
  ·have hA:bg fR 0 (ts.drop i)=(v,ts.drop k):=Ox Cr (OU _) (.inl hI.2);have h5:=hI.1;have ao:=aJ h5;have hand:=hand.trans (eq_true hI.2);simp only[hA] at hK0;rw[eI (show ah ts k zo=true from h5),List.tail_drop] at hK0;by_cases hn:ee (ts.drop (k+1))=true
   ·have cA:=D7 hn;have lQ:k+2<=ts.length:=cA;rw[bz (Fl hn)] at hK0;by_cases hw:ah ts (k+2) [101,120,116,101,110,100,115]=true
    ·have Ij:=aJ hw;rw[O4 (show ah ts (k+2) gZ=true from hw)] at hK0;have hb:FnH Tryz.prog 146 [.v (.slice a ts.length c),.v (.int .i64 ((k:Int)+1+1+1))] ⟨[],[]⟩ m3 (H6 ts (vI (ts.drop (k+2+1))) m3):=KX hT Ij a c m3 aS;simp only[go_sem,not_true_eq_false,not_false_eq_true,false_implies,true_implies,and_true,true_and,aS,bq,ev,bv,bw,t3,t4,n3,n4,b3,b4,b5,h5,hand,hn,qb aS cA,gh aS cA,eX aS cA,hw];refine ab (hb.mono ?_);clear hb;rintro r H' m4 dd ⟨l4,rfl,ia,n,ic,k2,b2,rfl,b8,⟨rfl,is,hK,rfl,Fb,xM,hR,oG⟩ |⟨rfl,hK⟩⟩
     ·have u:=aa u l4;have bJ:=aD l4 aS;have Bz:k2<=100000:=by omega
      rw[bz hK] at hK0;by_cases hb:ah ts k2 [123]=true
      ·rw[gI hb] at hK0;simp only[go_sem,bJ,Bz,hb];exact⟨u,rfl,_,_,_,ia,_,ic,k2+1,true,rfl,aJ hb,.inl ⟨rfl,is,hK0.symm,rfl,xM,hR,⟨by unfold az;dsimp only;omega,by have:=fp (k+1);unfold aA;dsimp only;omega,by unfold aA;dsimp only;decide,by unfold aA;dsimp only;omega,oG,au _,fun s hs=>(by cases hs),au _,au _⟩⟩⟩
      ·have hb:=bK hb;rw[gJ hb] at hK0;simp only[go_sem,bJ,Bz,hb];exact⟨u,rfl,_,_,_,_,_,_,k2,false,rfl,b8,.inr ⟨rfl,hK0.symm⟩⟩
     ·have u:=aa u l4;rw[cV hK] at hK0;simp only[go_sem];exact⟨u,rfl,_,_,_,_,_,_,k2,false,rfl,b8,.inr ⟨rfl,hK0.symm⟩⟩
    ·have hw:=bK hw;rw[O5 (show ah ts (k+2) gZ=false from hw),bz rfl] at hK0;by_cases hb:ah ts (k+2) [123]=true
     ·rw[gI hb] at hK0;simp only[go_sem,not_true_eq_false,not_false_eq_true,false_implies,true_implies,and_true,true_and,aS,bq,ev,bv,bw,t3,t4,n3,n4,b3,b4,b5,h5,hand,hn,qb aS cA,gh aS cA,eX aS cA,hw,hb];exact⟨u,rfl,_,_,_,none,0,0,k+3,true,rfl,aJ hb,.inl ⟨rfl,[],hK0.symm,rfl,aq _,cX _ _,⟨by unfold az;dsimp only;omega,by have:=fp (k+1);unfold aA;dsimp only;omega,by unfold aA;dsimp only;decide,au _,fun s hs=>(by cases hs),au _,fun s hs=>(by cases hs),au _,au _⟩⟩⟩
     ·have hb:=bK hb;rw[gJ hb] at hK0;simp only[go_sem,not_true_eq_false,not_false_eq_true,false_implies,true_implies,and_true,true_and,aS,bq,ev,bv,bw,t3,t4,n3,n4,b3,b4,b5,h5,hand,hn,qb aS cA,gh aS cA,eX aS cA,hw,hb];exact⟨u,rfl,_,_,_,_,_,_,k+2,false,rfl,lQ,.inr ⟨rfl,hK0.symm⟩⟩
   ·have hn:=bK hn;rw[cV (Fm hn)] at hK0;simp only[go_sem,not_true_eq_false,not_false_eq_true,false_implies,true_implies,and_true,true_and,aS,bq,ev,bv,bw,t3,t4,n3,n4,b3,b4,b5,h5,hand,hn];exact⟨u,rfl,_,_,_,_,_,_,k+1,false,rfl,ao,.inr ⟨rfl,hK0.symm⟩⟩
  ·have hc:¬aC zo (bg fR 0 (ts.drop i)).2=true:=fun hc=>by
    have hA:bg fR 0 (ts.drop i)=(v,ts.drop k):=Ox Cr (OU _) (.inr hc);have h1:=ZO (ts.drop i);rw[hA] at hc h1;exact hI ⟨by rw[ar];exact hc,h1⟩
   rw[ae hc,Cr] at hK0;dsimp only at hK0;by_cases h5:ah ts k [99,108,97,115,115]=true
   ·have ao:=aJ h5;have h6:ah ts k [105,110,116,101,114,102,97,99,101]=false:=be h5 (by decide);rw[gI (show ah ts k kA=true from h5)] at hK0;by_cases hn:ee (ts.drop (k+1))=true
    ·have cA:=D7 hn;have lQ:k+2<=ts.length:=cA;rw[bz (Fl hn)] at hK0;by_cases he:ah ts (k+2) [101,120,116,101,110,100,115]=true
     ·have Ik:=aJ he;rw[gI (show ah ts (k+2) gZ=true from he)] at hK0;by_cases hp:ee (ts.drop (k+3))=true
      ·have qi:=D7 hp;have ac5:k+4<=ts.length:=qi;rw[bz (Fl hp)] at hK0;have x3:Bl a ts.length ((k:Int)+1+1+1)=True:=lL aS qi;by_cases hw:ah ts (k+4) [105,109,112,108,101,109,101,110,116,115]=true
       ·have Ij:=aJ hw;rw[O4 (show ah ts (k+4) lM=true from hw)] at hK0;have hb:FnH Tryz.prog 146 [.v (.slice a ts.length c),.v (.int .i64 ((k:Int)+1+1+2+1))] ⟨[],[]⟩ m3 (H6 ts (vI (ts.drop (k+4+1))) m3):=KX hT Ij a c m3 aS;simp only[go_sem,not_true_eq_false,not_false_eq_true,false_implies,true_implies,and_true,true_and,aS,bq,ev,bv,bw,t3,t4,n3,n4,b3,b4,b5,h5,h6,hn,qb aS cA,gh aS cA,eX aS cA,he,hp,x3,gh aS qi,eX aS qi,hw];refine ab (hb.mono ?_);clear hb;rintro r H' m4 dd ⟨l4,rfl,ia,n,ic,k2,b2,rfl,b8,⟨rfl,is,hK,rfl,Fb,xM,hR,oG⟩ |⟨rfl,hK⟩⟩
        ·have u:=aa u l4;have bJ:=aD l4 aS;have Bz:k2<=100000:=by omega
         rw[bz hK] at hK0;by_cases hb:ah ts k2 [123]=true
         ·rw[gI hb] at hK0;simp only[go_sem,bJ,Bz,hb];exact⟨u,rfl,_,_,_,ia,_,ic,k2+1,true,rfl,aJ hb,.inl ⟨rfl,is,hK0.symm,rfl,xM,hR,⟨by unfold az;dsimp only;omega,by have:=fp (k+1);unfold aA;dsimp only;omega,by have:=fp (k+3);unfold aA;dsimp only;omega,by unfold aA;dsimp only;omega,oG,au _,fun s hs=>(by cases hs),au _,au _⟩⟩⟩
         ·have hb:=bK hb;rw[gJ hb] at hK0;simp only[go_sem,bJ,Bz,hb];exact⟨u,rfl,_,_,_,_,_,_,k2,false,rfl,b8,.inr ⟨rfl,hK0.symm⟩⟩
        ·have u:=aa u l4;rw[cV hK] at hK0;simp only[go_sem];exact⟨u,rfl,_,_,_,_,_,_,k2,false,rfl,b8,.inr ⟨rfl,hK0.symm⟩⟩
       ·have hw:=bK hw;rw[O5 (show ah ts (k+4) lM=false from hw),bz rfl] at hK0;by_cases hb:ah ts (k+4) [123]=true
        ·rw[gI hb] at hK0;simp only[go_sem,not_true_eq_false,not_false_eq_true,false_implies,true_implies,and_true,true_and,aS,bq,ev,bv,bw,t3,t4,n3,n4,b3,b4,b5,h5,h6,hn,qb aS cA,gh aS cA,eX aS cA,he,hp,x3,gh aS qi,eX aS qi,hw,hb];exact⟨u,rfl,_,_,_,none,0,0,k+5,true,rfl,aJ hb,.inl ⟨rfl,[],hK0.symm,rfl,aq _,cX _ _,⟨by unfold az;dsimp only;omega,by have:=fp (k+1);unfold aA;dsimp only;omega,by have:=fp (k+3);unfold aA;dsimp only;omega,au _,fun s hs=>(by cases hs),au _,fun s hs=>(by cases hs),au _,au _⟩⟩⟩
        ·have hb:=bK hb;rw[gJ hb] at hK0;simp only[go_sem,not_true_eq_false,not_false_eq_true,false_implies,true_implies,and_true,true_and,aS,bq,ev,bv,bw,t3,t4,n3,n4,b3,b4,b5,h5,h6,hn,qb aS cA,gh aS cA,eX aS cA,he,hp,x3,gh aS qi,eX aS qi,hw,hb];exact⟨u,rfl,_,_,_,_,_,_,k+4,false,rfl,ac5,.inr ⟨rfl,hK0.symm⟩⟩
      ·have hp:=bK hp;rw[cV (Fm hp)] at hK0;simp only[go_sem,not_true_eq_false,not_false_eq_true,false_implies,true_implies,and_true,true_and,aS,bq,ev,bv,bw,t3,t4,n3,n4,b3,b4,b5,h5,h6,hn,qb aS cA,gh aS cA,eX aS cA,he,hp];exact⟨u,rfl,_,_,_,_,_,_,k+3,false,rfl,Ik,.inr ⟨rfl,hK0.symm⟩⟩
     ·have he:=bK he;rw[gJ (show ah ts (k+2) gZ=false from he)] at hK0;simp only[go_sem,not_true_eq_false,not_false_eq_true,false_implies,true_implies,and_true,true_and,aS,bq,ev,bv,bw,t3,t4,n3,n4,b3,b4,b5,h5,h6,hn,qb aS cA,gh aS cA,eX aS cA,he];exact⟨u,rfl,_,_,_,_,_,_,k+2,false,rfl,lQ,.inr ⟨rfl,hK0.symm⟩⟩
    ·have hn:=bK hn;rw[cV (Fm hn)] at hK0;simp only[go_sem,not_true_eq_false,not_false_eq_true,false_implies,true_implies,and_true,true_and,aS,bq,ev,bv,bw,t3,t4,n3,n4,b3,b4,b5,h5,h6,hn];exact⟨u,rfl,_,_,_,_,_,_,k+1,false,rfl,ao,.inr ⟨rfl,hK0.symm⟩⟩
   ·have h5:=bK h5;rw[gJ (show ah ts k kA=false from h5)] at hK0;by_cases h6:ah ts k [105,110,116,101,114,102,97,99,101]=true
    ·have hand:=hand.trans (eq_false fun h=>hI ⟨h6,h⟩);simp only[go_sem,not_true_eq_false,not_false_eq_true,false_implies,true_implies,and_true,true_and,aS,bq,ev,bv,bw,t3,t4,n3,n4,b3,b4,b5,h5,h6,hand];exact⟨u,rfl,_,_,_,_,_,_,k,false,rfl,hk,.inr ⟨rfl,hK0.symm⟩⟩
    ·have h6:=bK h6;simp only[go_sem,not_true_eq_false,not_false_eq_true,false_implies,true_implies,and_true,true_and,aS,bq,ev,bv,bw,t3,t4,n3,n4,b3,b4,b5,h5,h6];exact⟨u,rfl,_,_,_,_,_,_,k,false,rfl,hk,.inr ⟨rfl,hK0.symm⟩⟩
end
section
variable {ts:List Tk}
abbrev dV (y:DSt):SV:= .agg [.v (.int .i64 y.d.fl),.v (.string (bs y.d.name)),.v (.string (bs y.d.super)),.v (.slice y.ia y.d.ifs.length y.ic),.vec 0 y.uf,.vec 1 y.um,.vec 2 y.ui]
abbrev dH (y:DSt):Hp:=⟨[],[⟨0,y.uf,94,5,y.d.fields.length,flat Fc.cs y.d.fields⟩,⟨1,y.um,98,8,y.d.methods.length,y.ms⟩,⟨2,y.ui,73,23,y.d.init.length,y.is⟩]⟩
abbrev IE (ts:List Tk) (y:DSt) (K:PR Cd) (m:Mem):SV->Hp->Mem->Prop:=fun r H' m' =>an m m' /\∃(y' :DSt) (k:Nat) (b:Bool),r= .tup [dV y',.v (.int .i64 k),.v (.bool b)]/\H' =dH y' /\Same y y' /\k<=ts.length/\
 ((b=true/\DOk m' y' k/\K= .ok (y'.d,ts.drop k))\/(b=false/\K= .error (ts.drop k)))
noncomputable def vl (d:Cd) (fl:Int) (t:Ty) (s:List UInt8) (l:List Tk):PR Cd:=
 av (mP l) fun ps r=>if aC [59] r=true/\s≠[60,105,110,105,116,62] then .ok (d.addM ⟨fl,t,s,ps,false,[]⟩,r.tail) else av (fE r) fun b r2=> .ok (d.addM ⟨fl,t,s,ps,true,b⟩,r2)
theorem MR (l:List Tk):Good true l (fE l):=by
 exact(pQ l).block.good
theorem Vt (l:List Tk):Good true l (mP l):=by
 have g:=(FZ l).good;rwa [jk (lparams l)] at g
theorem UX (hT:TsR ts) {i:Nat} (hi:i<=ts.length) (fl:Int) (t:Ty) (nm:List UInt8) (ix:0<=fl/\fl<2048) (cZ:lh t) (ka:nm.length<=1000000) (y:DSt) (a:Option Addr) (c:Nat) (m:Mem) (hr:aK m a ts.length 4 (cG ts)) (hy:DOk m y i):
  FnH Tryz.prog 147 [.v (.slice a ts.length c),.v (.int .i64 i),dV y,.agg [.v (.int .i64 fl),.v (.int .i64 t.dim),.v (.int .u8 t.base),.v (.string (bs t.name)),.v (.string (bs nm)),.v (.slice none 0 0),.v (.bool false),.v (.slice none 0 0)]] (dH y) m (IE ts y (vl y.d fl t nm (ts.drop i)) m):=by
 obtain⟨d,ia,ic,uf,um,ui,ms,is⟩:=y;have hl:=hT.few;have ck:i<=100000:=by omega
 have I4:=hy.mn;dsimp only at I4;have ed:room (d.methods.length+1) 112:=fK (by omega) (by decide);generalize hK0:vl d fl t nm (ts.drop i)=K0
 unfold vl at hK0;have hb:=WJ hT hi a c m hr;refine enter (cd ts) (bu hT) Tryz.func147 rfl rfl (by kernel_rfl) rfl ?_ ?_
 ·simp only[go_sem]
 ·simp only[go_sem,hr,ck];refine ab (hb.mono ?_);clear hb;rintro r H' m1 aN ⟨l1,rfl,pa,n1,pc,k1,b1,rfl,aV,⟨rfl,ps,hK,rfl,Cb,mK,hpR,ny⟩ |⟨rfl,hK⟩⟩
  ·have aS:=aD l1 hr;have bq:k1<=100000:=by omega
   rw[bz hK] at hK0;have Jc:i<k1:=kX (Vt _) hK aV;have gw:=(P0 hT aV).blk a c m1 aS;by_cases h5:ah ts k1 [59]=true/\nm≠[60,105,110,105,116,62]
   ·rw[aj ⟨by rw[<- ar];exact h5.1,h5.2⟩,List.tail_drop] at hK0;have da:=h5.1;have cP:=h5.2;clear gw;simp only[go_sem,aS,bq,da,cP,ed];have gl:gq m1 ⟨fl,t,nm,ps,false,[]⟩ (Mc.cs ⟨fl,t,nm,pa,ps.length,pc,false,none,0,0⟩):=o9 ix cZ ka (by omega) mK hpR ny (au _) (aq _) (cX _ _) (dN _ _);exact⟨l1,⟨d.addM ⟨fl,t,nm,ps,false,[]⟩,ia,ic,uf,um+1,ui,ms++Mc.cs ⟨fl,t,nm,pa,ps.length,pc,false,none,0,0⟩,is⟩,k1+1,true,rfl,(by simp only[dH,Cd.addM,bM,cv,eM]<;>rfl),⟨rfl,rfl,rfl,rfl,rfl,rfl,aq _,Nat.le_succ _,aq _⟩,aJ da,.inl ⟨rfl,DOk.addM (hy.up l1 (aq _)) gl rfl (by omega),hK0.symm⟩⟩
   ·rw[ae (fun g=>h5 ⟨by rw[ar];exact g.1,g.2⟩)] at hK0;have h6:ah ts k1 [59]=false\/nm=[60,105,110,105,116,62]:=by
     by_cases h:ah ts k1 [59]=true
     ·by_cases h' :nm=[60,105,110,105,116,62]
      ·exact .inr h'
      ·exact absurd ⟨h,h'⟩ h5
     ·exact .inl (bK h)
    clear h5;rcases h6 with h6 |h6
    ·simp only[go_sem,aS,bq,h6,ed];refine ab (gw.mono ?_);clear gw;rintro r H' m2 aH ⟨l2,rfl,ba,bn,bc,k2,b2,rfl,b8,⟨rfl,es,xs,hK2,rfl,uF,rW,hbR,hbS⟩ |⟨rfl,hK2⟩⟩
     ·have ep:k1<k2:=kX (MR _) hK2 b8;rw[bz hK2] at hK0;simp only[go_sem,ed];have gl:gq m2 ⟨fl,t,nm,ps,true,es⟩ (Mc.cs ⟨fl,t,nm,pa,ps.length,pc,true,ba,es.length,bc⟩):=o9 ix cZ ka (by omega) mK (aD l2 hpR) ny rW uF hbR hbS;exact⟨aa l1 l2,⟨d.addM ⟨fl,t,nm,ps,true,es⟩,ia,ic,uf,um+1,ui,ms++Mc.cs ⟨fl,t,nm,pa,ps.length,pc,true,ba,es.length,bc⟩,is⟩,k2,true,rfl,(by simp only[dH,Cd.addM,bM,cv,eM]<;>rfl),⟨rfl,rfl,rfl,rfl,rfl,rfl,aq _,Nat.le_succ _,aq _⟩,b8,.inl ⟨rfl,DOk.addM (hy.up (aa l1 l2) (aq _)) gl rfl (by omega),hK0.symm⟩⟩
     ·rw[cV hK2] at hK0;simp only[go_sem,ed];exact⟨aa l1 l2,⟨d.addM ⟨fl,t,nm,ps,true,[]⟩,ia,ic,uf,um+1,ui,ms++Mc.cs ⟨fl,t,nm,pa,ps.length,pc,true,ba,bn,bc⟩,is⟩,k2,false,rfl,(by simp only[dH,Cd.addM,bM,cv,eM]<;>rfl),⟨rfl,rfl,rfl,rfl,rfl,rfl,aq _,Nat.le_succ _,aq _⟩,b8,.inr ⟨rfl,hK0.symm⟩⟩
    ·subst h6;simp only[go_sem,aS,bq,ed,not_true_eq_false,not_false_eq_true,and_false,false_implies,true_implies,true_and,and_true];refine ab (gw.mono ?_);clear gw;rintro r H' m2 aH ⟨l2,rfl,ba,bn,bc,k2,b2,rfl,b8,⟨rfl,es,xs,hK2,rfl,uF,rW,hbR,hbS⟩ |⟨rfl,hK2⟩⟩
     ·have ep:k1<k2:=kX (MR _) hK2 b8;rw[bz hK2] at hK0;simp only[go_sem,ed];have gl:gq m2 ⟨fl,t,[60,105,110,105,116,62],ps,true,es⟩ (Mc.cs ⟨fl,t,[60,105,110,105,116,62],pa,ps.length,pc,true,ba,es.length,bc⟩):=o9 ix cZ ka (by omega) mK (aD l2 hpR) ny rW uF hbR hbS;exact⟨aa l1 l2,⟨d.addM ⟨fl,t,[60,105,110,105,116,62],ps,true,es⟩,ia,ic,uf,um+1,ui,ms++Mc.cs ⟨fl,t,[60,105,110,105,116,62],pa,ps.length,pc,true,ba,es.length,bc⟩,is⟩,k2,true,rfl,(by simp only[dH,Cd.addM,bM,cv,eM]<;>rfl),⟨rfl,rfl,rfl,rfl,rfl,rfl,aq _,Nat.le_succ _,aq _⟩,b8,.inl ⟨rfl,DOk.addM (hy.up (aa l1 l2) (aq _)) gl rfl (by omega),hK0.symm⟩⟩
     ·rw[cV hK2] at hK0;simp only[go_sem,ed];exact⟨aa l1 l2,⟨d.addM ⟨fl,t,[60,105,110,105,116,62],ps,true,[]⟩,ia,ic,uf,um+1,ui,ms++Mc.cs ⟨fl,t,[60,105,110,105,116,62],pa,ps.length,pc,true,ba,bn,bc⟩,is⟩,k2,false,rfl,(by simp only[dH,Cd.addM,bM,cv,eM]<;>rfl),⟨rfl,rfl,rfl,rfl,rfl,rfl,aq _,Nat.le_succ _,aq _⟩,b8,.inr ⟨rfl,hK0.symm⟩⟩
  ·rw[cV hK] at hK0;simp only[go_sem];exact⟨l1,⟨d,ia,ic,uf,um,ui,ms,is⟩,k1,false,rfl,rfl,⟨rfl,rfl,rfl,rfl,rfl,rfl,aq _,aq _,aq _⟩,aV,.inr ⟨rfl,hK0.symm⟩⟩
end
end Go.Proofs.YtimddhkipjedcaaGreatDoor.E

/- Several texts in one. -/
import Derived.Test.YtimddhkipjedcaaGreatDoorMrg6
set_option linter.unusedSimpArgs false
set_option linter.unusedVariables false
set_option maxHeartbeats 4000000
set_option maxRecDepth 20000
namespace Go.Proofs.YtimddhkipjedcaaGreatDoor.E
open Go
section
variable {ts:List Tk}
theorem Xw (l:List Tk):rf 4 l=ar (fA l) fun e r=>ar (fC r) fun b r2=>if aA rl r2=true then ar (fC r2.tail) fun a r3=> .ok (.mk 4 [] af zE e b a,r3) else .ok (.mk 4 [] af zE e b [],r2):=by
 unfold rf;simp only[true_and]
theorem Nk {kd:Int} (h:kd≠4) (l:List Tk):rf kd l=ar (fA l) fun e r=>ar (fC r) fun b r2=> .ok (.mk kd [] af zE e b [],r2):=by
 unfold rf;simp only[h,false_and,if_false]
theorem C1 {i:Nat} (h:ai ts i o7=false):¬(aA o7 (ts.drop i)=true/\aA [40] (ts.drop i).tail=true):=fun g=>by
 rw[<- an,h] at g;exact absurd g.1 (by decide)
theorem aaR {i:Nat} (h:(aP ts i).k≠1):eG (ts.drop i)=false:=by
 rw[eG,om,bg h];rfl
theorem TB (hT:TsR ts) {i:Nat} (hi:i<=ts.length) (dP:wq ts i) (hB:∀j,i<j->j<=ts.length->wq ts j):wY 39 ts pj i:=fun a c m hr=>by
 have hl:=hT.few;have cN:i<=100000:=by omega
 generalize hK0:pj (ts.drop i)=K0
 rw[od] at hK0;by_cases h1:ai ts i [123]=true
 ·rw[aT (aZ h1 (by decide)),aT (aZ h1 (by decide)),aT (aZ h1 (by decide)),aT (aZ h1 (by decide)),aT (aZ h1 (by decide)),aT (aZ h1 (by decide)),fM h1] at hK0;have hb:=dP a c m hr;refine enter (b8 ts) (bH hT) Tryz.func39 rfl rfl (by kernel_rfl) rfl ?_ ?_
  ·simp only[go_sem]
  ·simp only[go_sem,hr,cN,h1,dG];refine ab (hb.mono ?_);clear hb dP hB;rintro r H' m1 aJ ⟨l1,rfl,a1,n1,c1,k1,b1,rfl,aV,hb⟩;simp only[go_sem];rcases hb with ⟨rfl,es,xs,hK,rfl,bb,hn,hxr,jM⟩ |⟨rfl,hK⟩
   ·exact pE l1 ⟨10,[],af,aI,aI,a1,es.length,c1,none,0,0⟩ k1 (.mk 10 [] af zE zE es []) aV (by rw[<- hK0,bQ hK]) (ie (alt:=[]) ⟨by decide,by decide⟩ (au _) bX dQ dQ hn bb hxr jM (au _) (aq _) (cv _ _) (dy _ _))
   ·exact jK l1 ⟨10,[],af,aI,aI,a1,n1,c1,none,0,0⟩ k1 aV (by rw[<- hK0,dU hK])
 have h1:=du h1;by_cases h2:(aP ts i).k=2
 ·have bN:eG (ts.drop i)=false:=aaR (by rw[h2];decide);have ao:i<ts.length:=by
   rcases Nat.lt_or_ge i ts.length with g |g
   ·exact g
   ·rw[vC g] at h2;exact absurd h2 (by decide)
  have nI:decide ((aP ts i).s=[105,110,116])=ai ts i [105,110,116]:=lU hT h2 rfl;have ny:decide ((aP ts i).s=[108,111,110,103])=ai ts i [108,111,110,103]:=lU hT h2 rfl;have nP:decide ((aP ts i).s=[105,102])=ai ts i [105,102]:=lU hT h2 rfl;have nh:decide ((aP ts i).s=[119,104,105,108,101])=ai ts i [119,104,105,108,101]:=lU hT h2 rfl;have nw:decide ((aP ts i).s=[115,121,110,99])=ai ts i [115,121,110,99]:=lU hT h2 rfl;have nH:decide ((aP ts i).s=[116,114,121])=ai ts i [116,114,121]:=lU hT h2 rfl;have nf:decide ((aP ts i).s=[114,101,116,117,114,110])=ai ts i [114,101,116,117,114,110]:=lU hT h2 rfl;have ni:decide ((aP ts i).s=[116,104,114,111,119])=ai ts i [116,104,114,111,119]:=lU hT h2 rfl;have nj:decide ((aP ts i).s=[115,117,112,101,114])=ai ts i [115,117,112,101,114]:=lU hT h2 rfl;by_cases hw:ai ts i [105,110,116]=true
  ·clear dP;have fW:ai ts i [105,110,116]=true:=hw;have fT:ai ts i [108,111,110,103]=false:=aZ hw (by decide);have fi:ai ts i [105,102]=false:=aZ hw (by decide);have fq:ai ts i [119,104,105,108,101]=false:=aZ hw (by decide);have gi:ai ts i [115,121,110,99]=false:=aZ hw (by decide);have fU:ai ts i [116,114,121]=false:=aZ hw (by decide);have fw:ai ts i [114,101,116,117,114,110]=false:=aZ hw (by decide);have fK:ai ts i [116,104,114,111,119]=false:=aZ hw (by decide);have gq:ai ts i [115,117,112,101,114]=false:=aZ hw (by decide);rw[aT (show ai ts i lW=false from fi),aT (show ai ts i mh=false from fq),aT (show ai ts i nL=false from fw),aT (show ai ts i ot=false from fK),aT (show ai ts i pw=false from fU),aT (show ai ts i qa=false from gi),aT h1,ae (C1 (show ai ts i o7=false from gq))] at hK0;by_cases cB:ai ts (i+1) [40]=true
   ·have lZ:¬ig (ts.drop i)=true:=by
     unfold ig;rw[<- an,<- an,show ai ts i gL=true from fW,show ai ts i gH=false from fT,List.tail_drop,<- an,cB];simp
    rw[ae lZ] at hK0;have hb:FnH Tryz.prog 89 [.v (.slice a ts.length c),.v (.int .i64 (i:Int))] ⟨[],[]⟩ m (lM ts (ua (ts.drop i)) m):=zf hT hi a c m hr;clear hB;refine enter (b8 ts) (bH hT) Tryz.func39 rfl rfl (by kernel_rfl) rfl ?_ ?_
    ·simp only[go_sem]
    ·simp only[go_sem,hr,cN,h1,dG,h2,bN,Int.reduceEq,aC,not_true_eq_false,Bool.false_eq_true,false_and,nI,fW,ny,fT,nP,fi,nh,fq,nw,gi,nH,fU,nf,fw,ni,fK,nj,gq,cB];refine ab (hb.mono ?_);clear hb;rintro r H' m1 aJ ⟨l1,rfl,x1,k1,b1,rfl,aV,hb⟩;simp only[go_sem];exact⟨l1,rfl,x1,k1,b1,rfl,aV,by rw[<- hK0];exact hb⟩
   ·have cB:=du cB;have lZ:ig (ts.drop i)=true:=by
     unfold ig;rw[<- an,<- an,show ai ts i gL=true from fW,show ai ts i gH=false from fT,List.tail_drop,<- an,cB];simp
    rw[ah lZ] at hK0;have hb:FnH Tryz.prog 88 [.v (.slice a ts.length c),.v (.int .i64 (i:Int))] ⟨[],[]⟩ m (lM ts (yd (ts.drop i)) m):=E2 hT hi a c m hr;clear hB;refine enter (b8 ts) (bH hT) Tryz.func39 rfl rfl (by kernel_rfl) rfl ?_ ?_
    ·simp only[go_sem]
    ·simp only[go_sem,hr,cN,h1,dG,h2,bN,Int.reduceEq,aC,not_true_eq_false,Bool.false_eq_true,false_and,nI,fW,ny,fT,nP,fi,nh,fq,nw,gi,nH,fU,nf,fw,ni,fK,nj,gq,cB];refine ab (hb.mono ?_);clear hb;rintro r H' m1 aJ ⟨l1,rfl,x1,k1,b1,rfl,aV,hb⟩;simp only[go_sem];exact⟨l1,rfl,x1,k1,b1,rfl,aV,by rw[<- hK0];exact hb⟩
  have fW:ai ts i [105,110,116]=false:=du hw;clear hw;by_cases hw:ai ts i [108,111,110,103]=true
  ·clear dP;have fW:ai ts i [105,110,116]=false:=aZ hw (by decide);have fT:ai ts i [108,111,110,103]=true:=hw;have fi:ai ts i [105,102]=false:=aZ hw (by decide);have fq:ai ts i [119,104,105,108,101]=false:=aZ hw (by decide);have gi:ai ts i [115,121,110,99]=false:=aZ hw (by decide);have fU:ai ts i [116,114,121]=false:=aZ hw (by decide);have fw:ai ts i [114,101,116,117,114,110]=false:=aZ hw (by decide);have fK:ai ts i [116,104,114,111,119]=false:=aZ hw (by decide);have gq:ai ts i [115,117,112,101,114]=false:=aZ hw (by decide);rw[aT (show ai ts i lW=false from fi),aT (show ai ts i mh=false from fq),aT (show ai ts i nL=false from fw),aT (show ai ts i ot=false from fK),aT (show ai ts i pw=false from fU),aT (show ai ts i qa=false from gi),aT h1,ae (C1 (show ai ts i o7=false from gq))] at hK0;by_cases cB:ai ts (i+1) [40]=true
   ·have lZ:¬ig (ts.drop i)=true:=by
     unfold ig;rw[<- an,<- an,show ai ts i gL=false from fW,show ai ts i gH=true from fT,List.tail_drop,<- an,cB];simp
    rw[ae lZ] at hK0;have hb:FnH Tryz.prog 89 [.v (.slice a ts.length c),.v (.int .i64 (i:Int))] ⟨[],[]⟩ m (lM ts (ua (ts.drop i)) m):=zf hT hi a c m hr;clear hB;refine enter (b8 ts) (bH hT) Tryz.func39 rfl rfl (by kernel_rfl) rfl ?_ ?_
    ·simp only[go_sem]
    ·simp only[go_sem,hr,cN,h1,dG,h2,bN,Int.reduceEq,aC,not_true_eq_false,Bool.false_eq_true,false_and,nI,fW,ny,fT,nP,fi,nh,fq,nw,gi,nH,fU,nf,fw,ni,fK,nj,gq,cB];refine ab (hb.mono ?_);clear hb;rintro r H' m1 aJ ⟨l1,rfl,x1,k1,b1,rfl,aV,hb⟩;simp only[go_sem];exact⟨l1,rfl,x1,k1,b1,rfl,aV,by rw[<- hK0];exact hb⟩
   ·have cB:=du cB;have lZ:ig (ts.drop i)=true:=by
     unfold ig;rw[<- an,<- an,show ai ts i gL=false from fW,show ai ts i gH=true from fT,List.tail_drop,<- an,cB];simp
    rw[ah lZ] at hK0;have hb:FnH Tryz.prog 88 [.v (.slice a ts.length c),.v (.int .i64 (i:Int))] ⟨[],[]⟩ m (lM ts (yd (ts.drop i)) m):=E2 hT hi a c m hr;clear hB;refine enter (b8 ts) (bH hT) Tryz.func39 rfl rfl (by kernel_rfl) rfl ?_ ?_
    ·simp only[go_sem]
    ·simp only[go_sem,hr,cN,h1,dG,h2,bN,Int.reduceEq,aC,not_true_eq_false,Bool.false_eq_true,false_and,nI,fW,ny,fT,nP,fi,nh,fq,nw,gi,nH,fU,nf,fw,ni,fK,nj,gq,cB];refine ab (hb.mono ?_);clear hb;rintro r H' m1 aJ ⟨l1,rfl,x1,k1,b1,rfl,aV,hb⟩;simp only[go_sem];exact⟨l1,rfl,x1,k1,b1,rfl,aV,by rw[<- hK0];exact hb⟩
  have fT:ai ts i [108,111,110,103]=false:=du hw;clear hw;by_cases hw:ai ts i [105,102]=true
  ·clear dP;have fW:ai ts i [105,110,116]=false:=aZ hw (by decide);have fT:ai ts i [108,111,110,103]=false:=aZ hw (by decide);have fi:ai ts i [105,102]=true:=hw;have fq:ai ts i [119,104,105,108,101]=false:=aZ hw (by decide);have gi:ai ts i [115,121,110,99]=false:=aZ hw (by decide);have fU:ai ts i [116,114,121]=false:=aZ hw (by decide);have fw:ai ts i [114,101,116,117,114,110]=false:=aZ hw (by decide);have fK:ai ts i [116,104,114,111,119]=false:=aZ hw (by decide);have gq:ai ts i [115,117,112,101,114]=false:=aZ hw (by decide);rw[fM (show ai ts i lW=true from fi),List.tail_drop,<- Xw] at hK0;have hb:FnH Tryz.prog 90 [.v (.slice a ts.length c),.v (.int .i64 ((i:Int)+1)),.v (.int .i64 4)] ⟨[],[]⟩ m (lM ts (rf 4 (ts.drop (i+1))) m):=E3 hT ⟨by decide,by decide⟩ ao (fun j h3 h4=>hB j (by omega) h4) a c m hr;clear hB;refine enter (b8 ts) (bH hT) Tryz.func39 rfl rfl (by kernel_rfl) rfl ?_ ?_
   ·simp only[go_sem]
   ·simp only[go_sem,hr,cN,h1,dG,h2,bN,Int.reduceEq,aC,not_true_eq_false,Bool.false_eq_true,false_and,nI,fW,ny,fT,nP,fi,nh,fq,nw,gi,nH,fU,nf,fw,ni,fK,nj,gq];refine ab (hb.mono ?_);clear hb;rintro r H' m1 aJ ⟨l1,rfl,x1,k1,b1,rfl,aV,hb⟩;simp only[go_sem];exact⟨l1,rfl,x1,k1,b1,rfl,aV,by rw[<- hK0];exact hb⟩
  have fi:ai ts i [105,102]=false:=du hw;clear hw;by_cases hw:ai ts i [119,104,105,108,101]=true
  ·clear dP;have fW:ai ts i [105,110,116]=false:=aZ hw (by decide);have fT:ai ts i [108,111,110,103]=false:=aZ hw (by decide);have fi:ai ts i [105,102]=false:=aZ hw (by decide);have fq:ai ts i [119,104,105,108,101]=true:=hw;have gi:ai ts i [115,121,110,99]=false:=aZ hw (by decide);have fU:ai ts i [116,114,121]=false:=aZ hw (by decide);have fw:ai ts i [114,101,116,117,114,110]=false:=aZ hw (by decide);have fK:ai ts i [116,104,114,111,119]=false:=aZ hw (by decide);have gq:ai ts i [115,117,112,101,114]=false:=aZ hw (by decide);rw[aT (show ai ts i lW=false from fi),fM (show ai ts i mh=true from fq),List.tail_drop,<- Nk (kd:=5) (by decide)] at hK0;have hb:FnH Tryz.prog 90 [.v (.slice a ts.length c),.v (.int .i64 ((i:Int)+1)),.v (.int .i64 5)] ⟨[],[]⟩ m (lM ts (rf 5 (ts.drop (i+1))) m):=E3 hT ⟨by decide,by decide⟩ ao (fun j h3 h4=>hB j (by omega) h4) a c m hr;clear hB;refine enter (b8 ts) (bH hT) Tryz.func39 rfl rfl (by kernel_rfl) rfl ?_ ?_
   ·simp only[go_sem]
   ·simp only[go_sem,hr,cN,h1,dG,h2,bN,Int.reduceEq,aC,not_true_eq_false,Bool.false_eq_true,false_and,nI,fW,ny,fT,nP,fi,nh,fq,nw,gi,nH,fU,nf,fw,ni,fK,nj,gq];refine ab (hb.mono ?_);clear hb;rintro r H' m1 aJ ⟨l1,rfl,x1,k1,b1,rfl,aV,hb⟩;simp only[go_sem];exact⟨l1,rfl,x1,k1,b1,rfl,aV,by rw[<- hK0];exact hb⟩
  have fq:ai ts i [119,104,105,108,101]=false:=du hw;clear hw;by_cases hw:ai ts i [115,121,110,99]=true
  ·clear dP;have fW:ai ts i [105,110,116]=false:=aZ hw (by decide);have fT:ai ts i [108,111,110,103]=false:=aZ hw (by decide);have fi:ai ts i [105,102]=false:=aZ hw (by decide);have fq:ai ts i [119,104,105,108,101]=false:=aZ hw (by decide);have gi:ai ts i [115,121,110,99]=true:=hw;have fU:ai ts i [116,114,121]=false:=aZ hw (by decide);have fw:ai ts i [114,101,116,117,114,110]=false:=aZ hw (by decide);have fK:ai ts i [116,104,114,111,119]=false:=aZ hw (by decide);have gq:ai ts i [115,117,112,101,114]=false:=aZ hw (by decide);rw[aT (show ai ts i lW=false from fi),aT (show ai ts i mh=false from fq),aT (show ai ts i nL=false from fw),aT (show ai ts i ot=false from fK),aT (show ai ts i pw=false from fU),fM (show ai ts i qa=true from gi),List.tail_drop,<- Nk (kd:=9) (by decide)] at hK0;have hb:FnH Tryz.prog 90 [.v (.slice a ts.length c),.v (.int .i64 ((i:Int)+1)),.v (.int .i64 9)] ⟨[],[]⟩ m (lM ts (rf 9 (ts.drop (i+1))) m):=E3 hT ⟨by decide,by decide⟩ ao (fun j h3 h4=>hB j (by omega) h4) a c m hr;clear hB;refine enter (b8 ts) (bH hT) Tryz.func39 rfl rfl (by kernel_rfl) rfl ?_ ?_
   ·simp only[go_sem]
   ·simp only[go_sem,hr,cN,h1,dG,h2,bN,Int.reduceEq,aC,not_true_eq_false,Bool.false_eq_true,false_and,nI,fW,ny,fT,nP,fi,nh,fq,nw,gi,nH,fU,nf,fw,ni,fK,nj,gq];refine ab (hb.mono ?_);clear hb;rintro r H' m1 aJ ⟨l1,rfl,x1,k1,b1,rfl,aV,hb⟩;simp only[go_sem];exact⟨l1,rfl,x1,k1,b1,rfl,aV,by rw[<- hK0];exact hb⟩
  have gi:ai ts i [115,121,110,99]=false:=du hw;clear hw;by_cases hw:ai ts i [116,114,121]=true
  ·clear dP;have fW:ai ts i [105,110,116]=false:=aZ hw (by decide);have fT:ai ts i [108,111,110,103]=false:=aZ hw (by decide);have fi:ai ts i [105,102]=false:=aZ hw (by decide);have fq:ai ts i [119,104,105,108,101]=false:=aZ hw (by decide);have gi:ai ts i [115,121,110,99]=false:=aZ hw (by decide);have fU:ai ts i [116,114,121]=true:=hw;have fw:ai ts i [114,101,116,117,114,110]=false:=aZ hw (by decide);have fK:ai ts i [116,104,114,111,119]=false:=aZ hw (by decide);have gq:ai ts i [115,117,112,101,114]=false:=aZ hw (by decide);rw[aT (show ai ts i lW=false from fi),aT (show ai ts i mh=false from fq),aT (show ai ts i nL=false from fw),aT (show ai ts i ot=false from fK),fM (show ai ts i pw=true from fU),List.tail_drop] at hK0;have hb:FnH Tryz.prog 91 [.v (.slice a ts.length c),.v (.int .i64 ((i:Int)+1))] ⟨[],[]⟩ m (lM ts (AB (ts.drop (i+1))) m):=R1 hT ao (hB (i+1) (by omega) ao) (fun j h3 h4=>hB j (by omega) h4) a c m hr;clear hB;refine enter (b8 ts) (bH hT) Tryz.func39 rfl rfl (by kernel_rfl) rfl ?_ ?_
   ·simp only[go_sem]
   ·simp only[go_sem,hr,cN,h1,dG,h2,bN,Int.reduceEq,aC,not_true_eq_false,Bool.false_eq_true,false_and,nI,fW,ny,fT,nP,fi,nh,fq,nw,gi,nH,fU,nf,fw,ni,fK,nj,gq];refine ab (hb.mono ?_);clear hb;rintro r H' m1 aJ ⟨l1,rfl,x1,k1,b1,rfl,aV,hb⟩;simp only[go_sem];exact⟨l1,rfl,x1,k1,b1,rfl,aV,by rw[<- hK0];exact hb⟩
  have fU:ai ts i [116,114,121]=false:=du hw;clear hw;by_cases hw:ai ts i [114,101,116,117,114,110]=true
  ·clear dP;have fW:ai ts i [105,110,116]=false:=aZ hw (by decide);have fT:ai ts i [108,111,110,103]=false:=aZ hw (by decide);have fi:ai ts i [105,102]=false:=aZ hw (by decide);have fq:ai ts i [119,104,105,108,101]=false:=aZ hw (by decide);have gi:ai ts i [115,121,110,99]=false:=aZ hw (by decide);have fU:ai ts i [116,114,121]=false:=aZ hw (by decide);have fw:ai ts i [114,101,116,117,114,110]=true:=hw;have fK:ai ts i [116,104,114,111,119]=false:=aZ hw (by decide);have gq:ai ts i [115,117,112,101,114]=false:=aZ hw (by decide);rw[aT (show ai ts i lW=false from fi),aT (show ai ts i mh=false from fq),fM (show ai ts i nL=true from fw),List.tail_drop] at hK0;clear hB;by_cases ek:ai ts (i+1) [59]=true
   ·rw[fM ek,List.tail_drop] at hK0;refine enter (b8 ts) (bH hT) Tryz.func39 rfl rfl (by kernel_rfl) rfl ?_ ?_
    ·simp only[go_sem]
    ·simp only[go_sem,hr,cN,h1,dG,h2,bN,Int.reduceEq,aC,not_true_eq_false,Bool.false_eq_true,false_and,nI,fW,ny,fT,nP,fi,nh,fq,nw,gi,nH,fU,nf,fw,ni,fK,nj,gq,ek];exact pE (.inl rfl) ⟨6,[],af,aI,aI,none,0,0,none,0,0⟩ (i+2) (.mk 6 [] af zE zE [] []) (aN ek) hK0.symm (ie (body:=[]) (alt:=[]) ⟨by decide,by decide⟩ (au _) bX dQ dQ (au _) (aq _) (cv _ _) (dy _ _) (au _) (aq _) (cv _ _) (dy _ _))
   ·have ek:=du ek;rw[aT ek] at hK0;have hb:FnH Tryz.prog 35 [.v (.slice a ts.length c),.v (.int .i64 ((i:Int)+1)),.v (.int .i64 1)] ⟨[],[]⟩ m (gr ts (bL 0 (ts.drop (i+1))) m):=(uL hT ao).bin 0 (by decide) a c m hr;refine enter (b8 ts) (bH hT) Tryz.func39 rfl rfl (by kernel_rfl) rfl ?_ ?_
    ·simp only[go_sem]
    ·simp only[go_sem,hr,cN,h1,dG,h2,bN,Int.reduceEq,aC,not_true_eq_false,Bool.false_eq_true,false_and,nI,fW,ny,fT,nP,fi,nh,fq,nw,gi,nH,fU,nf,fw,ni,fK,nj,gq,ek];refine ab (hb.mono ?_);clear hb;rintro r H' m1 aJ ⟨l1,rfl,x1,k1,b1,rfl,aV,hb⟩;have eM:=aK l1 hr;have jF:=xr hT ⟨6,[],af,aI,x1,none,0,0,none,0,0⟩ k1 b1 a c m1 aV eM;simp only[go_sem];refine ab (jF.mono ?_);clear jF;rintro r H' m3 bu ⟨rfl,rfl,⟨rfl,ek,rfl⟩ |⟨ek,rfl⟩⟩
     ·simp only[go_sem];rcases hb with ⟨_,e2,hK2,hx2⟩ |⟨h,_⟩
      ·exact pE l1 ⟨6,[],af,aI,x1,none,0,0,none,0,0⟩ (k1+1) (.mk 6 [] af zE e2 [] []) (aN ek) (by rw[<- hK0,bQ hK2,jG ek]) (ie (body:=[]) (alt:=[]) ⟨by decide,by decide⟩ (au _) bX dQ hx2 (au _) (aq _) (cv _ _) (dy _ _) (au _) (aq _) (cv _ _) (dy _ _))
      ·cases h
     ·simp only[go_sem];refine jK l1 ⟨6,[],af,aI,x1,none,0,0,none,0,0⟩ k1 aV ?_;rw[<- hK0];rcases hb with ⟨rfl,e2,hK2,hx2⟩ |⟨_,hK2⟩
      ·rw[bQ hK2,jH (ek rfl)]
      ·rw[dU hK2]
  have fw:ai ts i [114,101,116,117,114,110]=false:=du hw;clear hw;by_cases hw:ai ts i [116,104,114,111,119]=true
  ·clear dP;have fW:ai ts i [105,110,116]=false:=aZ hw (by decide);have fT:ai ts i [108,111,110,103]=false:=aZ hw (by decide);have fi:ai ts i [105,102]=false:=aZ hw (by decide);have fq:ai ts i [119,104,105,108,101]=false:=aZ hw (by decide);have gi:ai ts i [115,121,110,99]=false:=aZ hw (by decide);have fU:ai ts i [116,114,121]=false:=aZ hw (by decide);have fw:ai ts i [114,101,116,117,114,110]=false:=aZ hw (by decide);have fK:ai ts i [116,104,114,111,119]=true:=hw;have gq:ai ts i [115,117,112,101,114]=false:=aZ hw (by decide);rw[aT (show ai ts i lW=false from fi),aT (show ai ts i mh=false from fq),aT (show ai ts i nL=false from fw),fM (show ai ts i ot=true from fK),List.tail_drop] at hK0;clear hB;have hb:FnH Tryz.prog 35 [.v (.slice a ts.length c),.v (.int .i64 ((i:Int)+1)),.v (.int .i64 1)] ⟨[],[]⟩ m (gr ts (bL 0 (ts.drop (i+1))) m):=(uL hT ao).bin 0 (by decide) a c m hr;refine enter (b8 ts) (bH hT) Tryz.func39 rfl rfl (by kernel_rfl) rfl ?_ ?_
   ·simp only[go_sem]
   ·simp only[go_sem,hr,cN,h1,dG,h2,bN,Int.reduceEq,aC,not_true_eq_false,Bool.false_eq_true,false_and,nI,fW,ny,fT,nP,fi,nh,fq,nw,gi,nH,fU,nf,fw,ni,fK,nj,gq];refine ab (hb.mono ?_);clear hb;rintro r H' m1 aJ ⟨l1,rfl,x1,k1,b1,rfl,aV,hb⟩;have eM:=aK l1 hr;have jF:=xr hT ⟨7,[],af,aI,x1,none,0,0,none,0,0⟩ k1 b1 a c m1 aV eM;simp only[go_sem];refine ab (jF.mono ?_);clear jF;rintro r H' m3 bu ⟨rfl,rfl,⟨rfl,ek,rfl⟩ |⟨ek,rfl⟩⟩
    ·simp only[go_sem];rcases hb with ⟨_,e2,hK2,hx2⟩ |⟨h,_⟩
     ·exact pE l1 ⟨7,[],af,aI,x1,none,0,0,none,0,0⟩ (k1+1) (.mk 7 [] af zE e2 [] []) (aN ek) (by rw[<- hK0,bQ hK2,jG ek]) (ie (body:=[]) (alt:=[]) ⟨by decide,by decide⟩ (au _) bX dQ hx2 (au _) (aq _) (cv _ _) (dy _ _) (au _) (aq _) (cv _ _) (dy _ _))
     ·cases h
    ·simp only[go_sem];refine jK l1 ⟨7,[],af,aI,x1,none,0,0,none,0,0⟩ k1 aV ?_;rw[<- hK0];rcases hb with ⟨rfl,e2,hK2,hx2⟩ |⟨_,hK2⟩
     ·rw[bQ hK2,jH (ek rfl)]
     ·rw[dU hK2]
  have fK:ai ts i [116,104,114,111,119]=false:=du hw;clear hw;by_cases hw:ai ts i [115,117,112,101,114]=true
  ·clear dP;have fW:ai ts i [105,110,116]=false:=aZ hw (by decide);have fT:ai ts i [108,111,110,103]=false:=aZ hw (by decide);have fi:ai ts i [105,102]=false:=aZ hw (by decide);have fq:ai ts i [119,104,105,108,101]=false:=aZ hw (by decide);have gi:ai ts i [115,121,110,99]=false:=aZ hw (by decide);have fU:ai ts i [116,114,121]=false:=aZ hw (by decide);have fw:ai ts i [114,101,116,117,114,110]=false:=aZ hw (by decide);have fK:ai ts i [116,104,114,111,119]=false:=aZ hw (by decide);have gq:ai ts i [115,117,112,101,114]=true:=hw;clear hB;rw[aT (show ai ts i lW=false from fi),aT (show ai ts i mh=false from fq),aT (show ai ts i nL=false from fw),aT (show ai ts i ot=false from fK),aT (show ai ts i pw=false from fU),aT (show ai ts i qa=false from gi),aT h1] at hK0;by_cases cB:ai ts (i+1) [40]=true
   ·have jD:=aN cB;rw[ah ⟨by rw[<- an];exact gq,by rw[List.tail_drop,<- an];exact cB⟩,List.tail_drop] at hK0;have hb:FnH Tryz.prog 93 [.v (.slice a ts.length c),.v (.int .i64 ((i:Int)+1))] ⟨[],[]⟩ m (Az ts (iQ (ts.drop (i+1))) m):=(uL hT ao).args a c m hr;refine enter (b8 ts) (bH hT) Tryz.func39 rfl rfl (by kernel_rfl) rfl ?_ ?_
    ·simp only[go_sem]
    ·simp only[go_sem,hr,cN,h1,dG,h2,bN,Int.reduceEq,aC,not_true_eq_false,Bool.false_eq_true,false_and,nI,fW,ny,fT,nP,fi,nh,fq,nw,gi,nH,fU,nf,fw,ni,fK,nj,gq,cB];refine ab (hb.mono ?_);clear hb;rintro r H' m1 aJ ⟨l1,rfl,a1,n1,c1,k1,b1,rfl,aV,hb⟩;have eM:=aK l1 hr;have jF:=xr hT ⟨11,[],af,aI,⟨0,0,[],[],af,a1,n1,c1⟩,none,0,0,none,0,0⟩ k1 b1 a c m1 aV eM;simp only[go_sem];refine ab (jF.mono ?_);clear jF;rintro r H' m3 bu ⟨rfl,rfl,⟨rfl,ek,rfl⟩ |⟨ek,rfl⟩⟩
     ·simp only[go_sem];rcases hb with ⟨_,es,xs,hK2,rfl,bb,hn,hxr,jM⟩ |⟨h,_⟩
      ·exact pE l1 ⟨11,[],af,aI,⟨0,0,[],[],af,a1,es.length,c1⟩,none,0,0,none,0,0⟩ (k1+1) (.mk 11 [] af zE (.mk 0 0 [] [] af es) [] []) (aN ek) (by rw[<- hK0,bQ hK2,jG ek]) (ie (body:=[]) (alt:=[]) ⟨by decide,by decide⟩ (au _) bX dQ (eT ⟨by decide,by decide⟩ ⟨by decide,by decide⟩ (au _) (au _) bX (by omega) bb hxr jM) (au _) (aq _) (cv _ _) (dy _ _) (au _) (aq _) (cv _ _) (dy _ _))
      ·cases h
     ·simp only[go_sem];refine jK l1 ⟨11,[],af,aI,⟨0,0,[],[],af,a1,n1,c1⟩,none,0,0,none,0,0⟩ k1 aV ?_;rw[<- hK0];rcases hb with ⟨rfl,es,xs,hK2,ya⟩ |⟨_,hK2⟩
      ·rw[bQ hK2,jH (ek rfl)]
      ·rw[dU hK2]
   ·have cB:=du cB;have HN:¬(aA o7 (ts.drop i)=true/\aA [40] (ts.drop i).tail=true):=fun g=>by
     have g2:=g.2;rw[List.tail_drop,<- an,cB] at g2;cases g2
    have lZ:¬ig (ts.drop i)=true:=by
     unfold ig;rw[<- an,<- an,show ai ts i gL=false from fW,show ai ts i gH=false from fT,bN];simp
    rw[ae HN,ae lZ] at hK0;have hb:FnH Tryz.prog 89 [.v (.slice a ts.length c),.v (.int .i64 (i:Int))] ⟨[],[]⟩ m (lM ts (ua (ts.drop i)) m):=zf hT hi a c m hr;refine enter (b8 ts) (bH hT) Tryz.func39 rfl rfl (by kernel_rfl) rfl ?_ ?_
    ·simp only[go_sem]
    ·simp only[go_sem,hr,cN,h1,dG,h2,bN,Int.reduceEq,aC,not_true_eq_false,Bool.false_eq_true,false_and,nI,fW,ny,fT,nP,fi,nh,fq,nw,gi,nH,fU,nf,fw,ni,fK,nj,gq,cB];refine ab (hb.mono ?_);clear hb;rintro r H' m1 aJ ⟨l1,rfl,x1,k1,b1,rfl,aV,hb⟩;simp only[go_sem];exact⟨l1,rfl,x1,k1,b1,rfl,aV,by rw[<- hK0];exact hb⟩
  have gq:ai ts i [115,117,112,101,114]=false:=du hw;clear hw;clear hB dP;have lZ:¬ig (ts.drop i)=true:=by
   unfold ig;rw[<- an,<- an,show ai ts i gL=false from fW,show ai ts i gH=false from fT,bN];simp
  rw[aT (show ai ts i lW=false from fi),aT (show ai ts i mh=false from fq),aT (show ai ts i nL=false from fw),aT (show ai ts i ot=false from fK),aT (show ai ts i pw=false from fU),aT (show ai ts i qa=false from gi),aT h1,ae (C1 (show ai ts i o7=false from gq)),ae lZ] at hK0;have hb:FnH Tryz.prog 89 [.v (.slice a ts.length c),.v (.int .i64 (i:Int))] ⟨[],[]⟩ m (lM ts (ua (ts.drop i)) m):=zf hT hi a c m hr;refine enter (b8 ts) (bH hT) Tryz.func39 rfl rfl (by kernel_rfl) rfl ?_ ?_
  ·simp only[go_sem]
  ·simp only[go_sem,hr,cN,h1,dG,h2,bN,Int.reduceEq,aC,not_true_eq_false,Bool.false_eq_true,false_and,nI,fW,ny,fT,nP,fi,nh,fq,nw,gi,nH,fU,nf,fw,ni,fK,nj,gq];refine ab (hb.mono ?_);clear hb;rintro r H' m1 aJ ⟨l1,rfl,x1,k1,b1,rfl,aV,hb⟩;simp only[go_sem];exact⟨l1,rfl,x1,k1,b1,rfl,aV,by rw[<- hK0];exact hb⟩
 ·have yQ:((aP ts i).k=2)=False:=eq_false h2;have no:∀w,eC w=true->ai ts i w=false:=fun w hw=>by rw[zZ hT hw,bg h2];rfl
  rw[aT (no lW rfl),aT (no mh rfl),aT (no nL rfl),aT (no ot rfl),aT (no pw rfl),aT (no qa rfl),aT h1,ae (C1 (no o7 rfl))] at hK0;have eD:ig (ts.drop i)=(eG (ts.drop i)&& !ai ts (i+1) [46]):=by
   unfold ig;rw[<- an,<- an,no gL rfl,no gH rfl,List.tail_drop,<- an,ae (by decide),<- an]
  rw[eD] at hK0;have Ic:FnH Tryz.prog 88 [.v (.slice a ts.length c),.v (.int .i64 (i:Int))] ⟨[],[]⟩ m (lM ts (yd (ts.drop i)) m):=E2 hT hi a c m hr;have Ib:FnH Tryz.prog 89 [.v (.slice a ts.length c),.v (.int .i64 (i:Int))] ⟨[],[]⟩ m (lM ts (ua (ts.drop i)) m):=zf hT hi a c m hr;clear hB dP;refine enter (b8 ts) (bH hT) Tryz.func39 rfl rfl (by kernel_rfl) rfl ?_ ?_
  ·simp only[go_sem]
  ·simp only[go_sem,hr,cN,h1,dG,yQ,not_false_eq_true,false_and];refine⟨fun hd=> ?_,fun hd=> ?_⟩
   ·rw[ah (by rw[hd.1,hd.2];rfl)] at hK0;clear Ib;refine ab (Ic.mono ?_);clear Ic;rintro r H' m1 aJ ⟨l1,rfl,x1,k1,b1,rfl,aV,hb⟩;simp only[go_sem];exact⟨l1,rfl,x1,k1,b1,rfl,aV,by rw[<- hK0];exact hb⟩
   ·rw[ae (fun g=>by
     have g:=Bool.and_eq_true_iff.1 g;rcases hd with h |h
     ·rw[h] at g;exact absurd g.1 (by decide)
     ·rw[h] at g;exact absurd g.2 (by decide))] at hK0
    clear Ic;refine ab (Ib.mono ?_);clear Ib;rintro r H' m1 aJ ⟨l1,rfl,x1,k1,b1,rfl,aV,hb⟩;simp only[go_sem];exact⟨l1,rfl,x1,k1,b1,rfl,aV,by rw[<- hK0];exact hb⟩
end
structure RSX (ts:List Tk) (i:Nat):Prop where
 st:wY 39 ts pj i
 blk:wq ts i
theorem W2 {ts:List Tk} (hT:TsR ts) {i:Nat} (hi:i<=ts.length) (ih:∀j,i<j->j<=ts.length->RSX ts j):RSX ts i:=by
 have hB:=R7 hT hi fun j h1 h2=>(ih j h1 h2).st
 exact⟨TB hT hi hB fun j h1 h2=>(ih j h1 h2).blk,hB⟩
theorem LM {ts:List Tk} (hT:TsR ts):∀(L i:Nat),i<=ts.length->ts.length - i<L->RSX ts i
 |0,_,_,h=>absurd h (Nat.not_lt_zero _)
 |L+1,i,hi,h=>W2 hT hi fun j h1 h2=>LM hT L j h2 (by omega)
theorem rsx {ts:List Tk} (hT:TsR ts) {i:Nat} (hi:i<=ts.length):RSX ts i:=LM hT _ i hi (Nat.lt_succ_self _)
def jI (b:List St):Cd:=⟨0,[65],jX,[],[],[],b⟩
noncomputable def nC (t:List UInt8):List St×Int×Int:=
 if(aD t).2.2=0 then(match ld [] (aD t).1 with
  | .error r=>([],lQ t.length r,71)
  | .ok x=>if(fB [] [jI x.1]).2=0 then(x.1,0,0) else([],0,(fB [] [jI x.1]).2))
 else([],(aD t).2.1,(aD t).2.2)
def yw (m:Mem) (l:List St) (a:Option Addr) (n c:Nat):Prop:=n=l.length/\n<=c/\n<=az/\∃xs,aM m a n 23 xs/\bj m l xs
theorem xG (m:Mem):yw m [] none 0 0:=⟨rfl,aq _,au _,[],cv m 23,dy _ _⟩
abbrev OB (x:List St×Int×Int) (m:Mem):SV->Hp->Mem->Prop:=fun r H' m' =>ak m m' /\∃(a:Option Addr) (n c:Nat),r= .tup [.v (.slice a n c),.v (.int .i64 x.2.1),.v (.int .i64 x.2.2)]/\yw m' x.1 a n c/\H' =⟨[],[]⟩
theorem LA (t:List UInt8) (m:Mem) (hg:GlobX m) (ht:t.length<=4611686018427387904):FnH Tryz.prog 15 [.v (.string (bs t))] ⟨[],[]⟩ m (OB (nC t) m):=by
 have hk:=fun m' (h:ak m m')=>Ei t m' (by rcases h with rfl |h;exact hg;exact hg.up h) ht
 have hT:=CL t;by_cases h0:(aD t).2.2=0
 ·have h1:=F8 ht (hk m (.inl rfl)) h0
  have e0:nC t=(match ld [] (aD t).1 with
   | .error r=>([],lQ t.length r,71)
   | .ok x=>if(fB [] [jI x.1]).2=0 then(x.1,0,0) else([],0,(fB [] [jI x.1]).2)):=ah h0
  refine jv (aH aw Tryz.func15 ?_)
  ·simp only[go_sem];refine ab (h1.mono ?_);clear h1;rintro r H' m1 aJ ⟨l1,rfl,rfl⟩;simp only[go_sem];refine⟨fun h=>absurd trivial h,?_⟩;refine qV 8 73 23 (by decide) rfl ?_;refine cK aw (fun y:PSt×List St×List Value×Nat×Mem=>⟨[⟨5,[],.box 1 0⟩,⟨8,[],.vec 2 y.2.2.2.1⟩],[],[Hy t.length y.1],[⟨2,y.2.2.2.1,73,23,y.2.1.length,y.2.2.1⟩,Dp (aD t).1],40,y.2.2.2.2⟩)
    (fun y=>ak m1 y.2.2.2.2/\Inv (aD t).1 y.1/\y.2.1.length<=y.1.i+(if y.1.fl=true then 1 else 0)/\y.2.2.1.length=y.2.1.length * 23/\bj y.2.2.2.2 y.2.1 y.2.2.1/\∀a s',Res (aD t).1 t.length y.1 (ld y.2.1 ((aD t).1.drop y.1.i)) a s' ->Res (aD t).1 t.length ⟨0,false,0⟩ (ld [] (aD t).1) a s')
    (fun y=>if y.1.fl=true then 0 else(aD t).1.length - y.1.i+1) (⟨0,false,0⟩,[],[],0,m1) (fun _ _=>dO rfl) (fun y hy=>hy.1) ?_ ?_ ?_
   ·simp only[go_sem];exact rfl
   ·exact⟨.inl rfl,⟨au _,fun h=>(by cases h)⟩,au _,rfl,dy _ _,fun a s' h=>h⟩
   ·rintro⟨s4,ds,xs,u,m4⟩ ⟨q1,q2,q3,q4,q5,q6⟩;dsimp only at q1 q2 q3 q4 q5 q6;have hl:=hT.len;have dJ:=q2.le;have hm:=Ff (en:=t.length) (s:=s4) hT m4;by_cases hi:s4.i<(aD t).1.length
    ·have hf:=q2.nfl hi;rw[bO hi] at hm;have hb:=fun m' =>stw (en:=t.length) hT q2 m'
     rw[ae (by rw[hf];decide)] at q3;simp only[go_sem];refine ab (hm.mono ?_);clear hm;rintro r H' m5 b9 ⟨rfl,rfl,rfl⟩;simp only[go_sem];refine ab ((hb m5).mono ?_);clear hb;rintro r H' m6 ej ⟨l6,x6,d6,s6,rfl,hd6,rfl,hR6⟩;have rC:=hR6.mono;have eY:=lz hR6 hf (F1 _);have wP:=hR6.inv.le;simp only[go_sem];refine⟨gD (by omega) (by decide),(s6,ds++[d6],xs++x6.cs,u+1,m6),⟨rfl,⟨rfl,rfl,rfl⟩,⟨rfl,by simp,rfl⟩,.inl rfl⟩,⟨aa q1 l6,hR6.inv,?_,by simp only[bY,fI,q4,Sd.cs,cC,fm];omega,zu hd6 q4 (kz l6 q5),fun a s' h=>q6 a s' ?_⟩,?_⟩
     ·dsimp only;rw[bY,fI];rcases eY with h |h
      ·rw[ah h];omega
      ·omega
     ·rw[zC,ae (fun h=>by have:=congrArg List.length h;rw[cj] at this;simp at this;omega)];exact aO hR6 h
     ·dsimp only;rw[ae (by rw[hf];decide:¬s4.fl=true)];rcases eY with h |h
      ·rw[ah h];omega
      ·split<;>omega
    ·rw[bg hi] at hm;have kf:(aD t).1.drop s4.i=[]:=List.drop_eq_nil_of_le (by omega);have bM:Res (aD t).1 t.length ⟨0,false,0⟩ (ld [] (aD t).1) ds s4:=by
      refine q6 _ _ ?_;by_cases hf:s4.fl=true
      ·exact zR ds q2 hf
      ·rw[zC,ah kf,<- kf];exact bI _ q2
     simp only[go_sem];refine ab (hm.mono ?_);clear hm;rintro r H' m5 b9 ⟨rfl,rfl,rfl⟩;simp only[go_sem];refine⟨fun hf=> ?_,fun hf=> ?_⟩
     ·refine cw (.hoist 0 (.hoist 1 (.hoist 2 (.hoist 3 (.hoist 4 (.hoist 5 (.hoist 6 .done))))))) aw (by kernel_rfl) (by kernel_rfl) ?_;simp only[go_sem];have e:nC t=([],s4.off,71):=by
       cases hK:ld [] (aD t).1 with
       |ok p=>
        obtain⟨x,r⟩:=p;have:=(bM.ok rfl x r hK).2.1;rw[hf] at this;cases this
       |error r=>
        rw[e0,hK,(bM.er rfl r hK).2]
      rw[e];exact .inl ⟨aa l1 q1,none,0,0,rfl,(xG _),rfl⟩
     ·intro a c m6 w1 w2 w3;refine⟨by kernel_rfl,fun a9 c9 m7 v1 v2 v3=>cE ?_⟩;have hK:ld [] (aD t).1= .ok (ds,[]):=by
       cases hK:ld [] (aD t).1 with
       |error r=>
        have:=(bM.er rfl r hK).1;rw[hf] at this;cases this
       |ok p=>
        obtain⟨x,r⟩:=p;obtain⟨k1,k2,k3⟩:=bM.ok rfl x r hK;rw[k1,k3,kf]
      have jO:([jI ds].map eI).sum<=1048576:=by
       have:=LJ (aD t).1 ds [] hK;have:=qW t;simp only[bh,List.map_nil,List.sum_cons,List.sum_nil,eI,jI,fm] at *;omega
      rw[hK] at e0;have rE:ds.length<=az:=by unfold az;have:=qW t;have hb:(if s4.fl=true then 1 else 0)<=1:=(by split<;>decide);omega
      have wM:CdOk (jI ds):=⟨(⟨by decide,by decide⟩:ax 0),(by decide:([65]:List UInt8).length<=az),(by decide:jX.length<=az),au _,fun s hs=>(by cases hs),au _,fun s hs=>(by cases hs),au _,rE⟩;have H7:lK m7 (jI ds) (Cc.cs ⟨0,[65],jX,none,0,0,none,0,0,none,0,0,a,ds.length,c⟩):=
       ⟨_,⟨rfl,rfl,rfl,rfl⟩,⟨rfl,aq _,rfl,aq _,rfl,aq _,rfl,w2⟩,wM,cv _ _,cv _ _,[],xs,cv _ _,trivial,aK (.inr v1) w3,kz (aa (.inr w1) (.inr v1)) q5⟩
      have aY:vN m7 [jI ds] a9 1 c9:=⟨rfl,v2,by decide,_,v3,⟨H7,trivial⟩⟩;have hc:=JB [jI ds] a9 1 c9 m7 (hg.upM (aa l1 (aa q1 (aa (.inr w1) (.inr v1))))).1 (KN jO) aY;refine hc.mono ?_;clear hc;rintro r H' m8 jP ⟨l8,rfl,rfl⟩;simp only[go_sem];refine⟨fun aV=> ?_,fun aV=> ?_⟩
      ·have e:nC t=([],0,(fB [] [jI ds]).2):=by rw[e0];exact ae aV
       rw[e];exact .inl ⟨aa l1 (aa q1 (aa (.inr w1) (aa (.inr v1) l8))),none,0,0,rfl,xG _,rfl⟩
      ·have e:nC t=(ds,0,0):=by rw[e0];exact ah aV
       rw[e];exact zG (b:=⟨2,u,73,23,ds.length,xs⟩) (by simp [cS]) fun a8 c8 mz x1 x2 x3=>⟨aa l1 (aa q1 (aa (.inr w1) (aa (.inr v1) (aa l8 (.inr x1))))),a8,ds.length,c8,rfl,⟨rfl,x2,rE,xs,x3,kz (aa (.inr w1) (aa (.inr v1) (aa l8 (.inr x1)))) q5⟩,rfl⟩
 ·have h1:=F9 ht (hk m (.inl rfl)) h0;have e0:nC t=([],(aD t).2.1,(aD t).2.2):=ae h0;rw[e0];refine aH aw Tryz.func15 ?_
  ·simp only[go_sem];refine ab (h1.mono ?_);clear h1;rintro r H' m1 aJ ⟨l1,rfl,rfl⟩;simp only[go_sem];refine⟨fun _=>⟨l1,none,0,0,rfl,(xG _),rfl⟩,fun h=>absurd h h0⟩
noncomputable def iM (t:List UInt8):Ex×Int×Int:=
 if(aD t).2.2=0 then(match lg (aD t).1 with
  | .error r=>(zE,lQ t.length r,71)
  | .ok x=>if dm x.1=true then(if 24<bq x.1 then(zE,0,9) else(x.1,0,0)) else(zE,0,4))
 else(zE,(aD t).2.1,(aD t).2.2)
abbrev OA (x:Ex×Int×Int) (m:Mem):SV->Hp->Mem->Prop:=fun r H' m' =>ak m m' /\∃(y:Nd),r= .tup [.agg y.svs,.v (.int .i64 x.2.1),.v (.int .i64 x.2.2)]/\ba m' x.1 y.cs/\H' =⟨[],[]⟩
theorem zj (t:List UInt8) (m:Mem) (hg:GlobX m) (ht:t.length<=4611686018427387904):FnH Tryz.prog 13 [.v (.string (bs t))] ⟨[],[]⟩ m (OA (iM t) m):=by
 have hk:=fun m' (h:ak m m')=>Ei t m' (hg.upM h) ht
 have hT:=CL t;have hl:=qW t;have hz:∀m',ba m' zE (Nd.cs ⟨0,0,[],[],af,none,0,0⟩):=fun m' =>kR ⟨by decide,by decide⟩ ⟨by decide,by decide⟩ (au _) (au _) bX
 by_cases h0:(aD t).2.2=0
 ·have h1:=F8 ht (hk m (.inl rfl)) h0
  have e0:iM t=(match lg (aD t).1 with
   | .error r=>(zE,lQ t.length r,71)
   | .ok x=>if dm x.1=true then(if 24<bq x.1 then(zE,0,9) else(x.1,0,0)) else(zE,0,4)):=ah h0
  have Eb:Inv (aD t).1 ⟨0,false,0⟩:=⟨au _,fun h=>(by cases h)⟩;have hE:∀m' :Mem,FnH Tryz.prog 31 [.box 0 0,.v (.int .i64 0)] (pH (aD t).1 t.length ⟨0,false,0⟩) m' (fP (aD t).1 t.length ⟨0,false,0⟩ (bL 0 (aD t).1) m'):=(rR hT Eb).expr 0 (by decide);refine aH aw Tryz.func13 ?_
  ·simp only[go_sem];refine ab (h1.mono ?_);clear h1;rintro r H' m1 aJ ⟨l1,rfl,rfl⟩;simp only[go_sem];refine⟨fun h=>absurd trivial h,by kernel_rfl,cE ((hE m1).mono ?_)⟩;clear hE;rintro r H' m2 aG ⟨l2,x,e,s2,rfl,hx,rfl,hR⟩;have uY:=Ff (en:=t.length) (s:=s2) hT m2;have H3:=fun m' =>zi (aD t).1 t.length s2 m' hT.l8
   simp only[go_sem];by_cases hi:s2.i<(aD t).1.length
   ·rw[bO hi] at uY;have bM:Res (aD t).1 t.length ⟨0,false,0⟩ (lg (aD t).1) e (jy (aD t).1 t.length s2):=by
     refine aO hR ?_;rw[ae (fun h=>by have:=congrArg List.length h;rw[cj] at this;simp at this;omega)];exact Cp _ hR.inv
    refine ab (uY.mono ?_);clear uY;rintro r H' m3 bu ⟨rfl,rfl,rfl⟩;simp only[go_sem];refine ab ((H3 m3).mono ?_);clear H3;rintro r H' m4 dc ⟨rfl,rfl,rfl⟩;simp only[go_sem];refine⟨fun hf=> ?_,fun hf=> ?_⟩
    ·refine cw (.hoist 0 (.hoist 1 (.hoist 2 (.hoist 3 (.hoist 4 (.alt 5 [4,3,2,1] (.hoist 6 (.hoist 7 .done)) .stop)))))) aw (by kernel_rfl) (by kernel_rfl) ?_;simp only[go_sem];have e1:iM t=(zE,(jy (aD t).1 t.length s2).off,71):=by
      cases hK:lg (aD t).1 with
      |ok p=>
       obtain⟨y,r⟩:=p;have:=(bM.ok rfl y r hK).2.1;rw[hf] at this;cases this
      |error r=>rw[e0,hK,(bM.er rfl r hK).2]
     rw[e1];exact⟨(aa l1 l2),⟨0,0,[],[],af,none,0,0⟩,rfl,hz _,rfl⟩
    ·rw[zA] at hf;cases hf
   ·rw[bg hi] at uY;have kf:(aD t).1.drop s2.i=[]:=List.drop_eq_nil_of_le (by omega);have bM:Res (aD t).1 t.length ⟨0,false,0⟩ (lg (aD t).1) e s2:=by
     refine aO hR ?_;by_cases hf:s2.fl=true
     ·exact zR e hR.inv hf
     ·rw[ah kf,<- kf];exact bI _ hR.inv
    refine ab (uY.mono ?_);clear uY H3;rintro r H' m3 bu ⟨e3,rfl,rfl⟩;have l3:ak m2 m3:= .inl e3.symm;simp only[go_sem];refine⟨fun hf=> ?_,fun hf=> ?_⟩
    ·refine cw (.hoist 0 (.hoist 1 (.hoist 2 (.hoist 3 (.hoist 4 (.alt 5 [4,3,2,1] (.hoist 6 (.hoist 7 .done)) .stop)))))) aw (by kernel_rfl) (by kernel_rfl) ?_;simp only[go_sem];have e1:iM t=(zE,(s2).off,71):=by
      cases hK:lg (aD t).1 with
      |ok p=>
       obtain⟨y,r⟩:=p;have:=(bM.ok rfl y r hK).2.1;rw[hf] at this;cases this
      |error r=>rw[e0,hK,(bM.er rfl r hK).2]
     rw[e1];exact⟨(aa l1 (aa l2 l3)),⟨0,0,[],[],af,none,0,0⟩,rfl,hz _,rfl⟩
    ·have hK:lg (aD t).1= .ok (e,[]):=by
      cases hK:lg (aD t).1 with
      |error r=>
       have:=(bM.er rfl r hK).1;rw[hf] at this;cases this
      |ok p=>
       obtain⟨y,r⟩:=p;obtain⟨k1,k2,k3⟩:=bM.ok rfl y r hK;rw[k1,k3,kf]
     have He:bq e<=az:=by
      have h1:=Ls (aD t).1;cases hE:bL 0 (aD t).1 with
      |error r=>rw[lg,hE] at hK;cases hK
      |ok p=>
       obtain⟨y,r⟩:=p;obtain⟨k1,_,_⟩:=hR.ok rfl y r hE;have:=h1 y r hE;have:=vm e;rw[<- k1] at *;unfold az;omega
     rw[hK] at e0;have hv:=aS (iE:=[.agg x.svs]) (o4 _ e x.cs m3 (aq _) (hg.upM (aa l1 (aa l2 l3))).1 (aU l3 hx)) (fun V=>rfl);refine ab (hv.mono ?_);clear hv;rintro r H' m4 dc ⟨l4,rfl,rfl⟩;simp only[go_sem];refine⟨fun hv=> ?_,fun hv=> ?_⟩
     ·have e1:iM t=(zE,0,4):=by rw[e0];exact ae (by rw[hv];decide)
      rw[e1];exact⟨aa (aa l1 (aa l2 l3)) l4,⟨0,0,[],[],af,none,0,0⟩,rfl,hz _,rfl⟩
     ·have hd:=aS (iE:=[.agg x.svs]) (zm _ e x.cs m4 (aq _) He (aU (aa l3 l4) hx)) (fun V=>rfl);refine ab (hd.mono ?_);clear hd;rintro r H' m5 b9 ⟨l5,rfl,rfl⟩;simp only[go_sem];have e1:iM t=if 24<bq e then(zE,0,9) else(e,0,0):=by rw[e0];exact ah hv
      refine⟨fun hd=> ?_,fun hd=> ?_⟩
      ·rw[e1,ah (by omega)];exact⟨aa (aa l1 (aa l2 l3)) (aa l4 l5),⟨0,0,[],[],af,none,0,0⟩,rfl,hz _,rfl⟩
      ·rw[e1,ae (by omega)];exact⟨aa (aa l1 (aa l2 l3)) (aa l4 l5),x,rfl,aU (aa l3 (aa l4 l5)) hx,rfl⟩
 ·have h1:=F9 ht (hk m (.inl rfl)) h0;have e0:iM t=(zE,(aD t).2.1,(aD t).2.2):=ae h0;rw[e0];refine aH aw Tryz.func13 ?_
  ·simp only[go_sem];refine ab (h1.mono ?_);clear h1;rintro r H' m1 aJ ⟨l1,rfl,rfl⟩;simp only[go_sem];refine⟨fun _=>⟨l1,⟨0,0,[],[],af,none,0,0⟩,rfl,hz _,rfl⟩,fun h=>absurd h h0⟩
theorem xI {α:Type} {g:Nat->PR α} {K:PR α} (F:Nat) (h:∀f,g (f+F)=K):iR g=K:=iL ⟨F,fun f hf=>by
 have:=h (f - F)
 rwa [Nat.sub_add_cancel hf] at this⟩
def w1:List UInt8:=[97,32,43,32,98,32,42,32,45,32,99]
def w2:List UInt8:=[120,32,105,115,32,65,32,61,61,32,49]
def w3:List UInt8:=[97,32,43]
def w4:List UInt8:=[97,32,43,32,41,32,98]
def w5:List UInt8:=[99,108,97,115,115,32,65,32,101,120,116,101,110,100,115,32,66]
def w6:List UInt8:=[49,32,61,32,50,32,59]
def loc (s:List UInt8):Ex:= .mk 6 0 s [] af []
def v1:Ex:= .mk 16 0 [43] [] af [loc [97],.mk 16 0 [42] [] af [loc [98],.mk 15 0 [45] [] af [loc [99]]]]
def v2:Ex:= .mk 16 0 [61,61] [] af [.mk 18 0 [] [] ⟨0,76,[65]⟩ [loc [120]],.mk 1 1 [] [] af []]
def t1:List Tk:=[⟨1,[97],0,0⟩,⟨6,[43],0,2⟩,⟨1,[98],0,4⟩,⟨6,[42],0,6⟩,⟨6,[45],0,8⟩,⟨1,[99],0,10⟩]
def t2:List Tk:=[⟨1,[120],0,0⟩,⟨2,[105,115],0,2⟩,⟨1,[65],0,5⟩,⟨6,[61,61],0,7⟩,⟨3,[],1,10⟩]
def t3:List Tk:=[⟨1,[97],0,0⟩,⟨6,[43],0,2⟩]
def t4:List Tk:=[⟨1,[97],0,0⟩,⟨6,[43],0,2⟩,⟨6,[41],0,4⟩,⟨1,[98],0,6⟩]
def t5:List Tk:=[⟨2,[99,108,97,115,115],0,0⟩,⟨1,[65],0,6⟩,⟨2,[101,120,116,101,110,100,115],0,8⟩,⟨1,[66],0,16⟩]
def t6:List Tk:=[⟨3,[],1,0⟩,⟨6,[61],0,2⟩,⟨3,[],2,4⟩,⟨6,[59],0,6⟩]
def s6:List St:=[.mk 2 [] af (.mk 1 1 [] [] af []) (.mk 1 2 [] [] af []) [] []]
theorem tk1:aD w1=(t1,0,0):=by kernel_rfl
theorem tk2:aD w2=(t2,0,0):=by kernel_rfl
theorem tk3:aD w3=(t3,0,0):=by kernel_rfl
theorem tk4:aD w4=(t4,0,0):=by kernel_rfl
theorem tk5:aD w5=(t5,0,0):=by kernel_rfl
theorem tk6:aD w6=(t6,0,0):=by kernel_rfl
theorem kx1:bL 0 t1= .ok (v1,[]):=xI 60 fun f=>by kernel_rfl
theorem kx2:bL 0 t2= .ok (v2,[]):=xI 60 fun f=>by kernel_rfl
theorem kx3:bL 0 t3= .error []:=xI 60 fun f=>by kernel_rfl
theorem kx4:bL 0 t4= .error [⟨6,[41],0,4⟩,⟨1,[98],0,6⟩]:=xI 60 fun f=>by kernel_rfl
theorem kx5:oD [] t5= .error []:=xI 60 fun f=>by kernel_rfl
theorem kx6:ld [] t6= .ok (s6,[]):=xI 60 fun f=>by kernel_rfl
theorem aaF:iM w1=(v1,0,0):=by
 have hv:dm v1=true:=by kernel_rfl
 have hd:¬24<bq v1:=by rw[show bq v1=4 by kernel_rfl];decide
 unfold iM lg;rw[tk1,ah rfl];dsimp only;rw[kx1];simp only[ar,ah,hv,ae hd]
theorem aaE:iM w2=(v2,0,0):=by
 have hv:dm v2=true:=by kernel_rfl
 have hd:¬24<bq v2:=by rw[show bq v2=3 by kernel_rfl];decide
 unfold iM lg;rw[tk2,ah rfl];dsimp only;rw[kx2];simp only[ar,ah,hv,ae hd]
theorem aaD:iM w3=(zE,3,71):=by
 unfold iM lg;rw[tk3,ah rfl];dsimp only;rw[kx3];rfl
theorem aaC:iM w4=(zE,4,71):=by
 unfold iM lg;rw[tk4,ah rfl];dsimp only;rw[kx4];rfl
theorem aaB:tL w5=([],17,71):=by
 unfold tL;rw[tk5,ah rfl];dsimp only;rw[kx5];rfl
theorem aaA:nC w6=([],0,4):=by
 have hc:(fB [] [jI s6]).2=4:=by kernel_rfl
 unfold nC;rw[tk6,ah rfl];dsimp only;rw[kx6];dsimp only;rw[hc];rfl
theorem zk {m:Mem} {k n:Int} {s c:List UInt8} {ty:Ty} {es:List Ex} {y:Nd} (h:ba m (.mk k n s c ty es) y.cs):∃(a:Option Addr) (cp:Nat) (xs:List Value),y.svs=Nd.svs ⟨k,n,s,c,ty,a,es.length,cp⟩/\y.cs=Nd.cs ⟨k,n,s,c,ty,a,es.length,cp⟩/\es.length<=cp/\aM m a es.length 8 xs/\dF m es xs:=by
 simp only[ba] at h;obtain⟨a,cp,xs,h1,h2,h3,h4,h5⟩:=h;refine⟨a,cp,xs,?_,h1,h2,h3,h5⟩;clear h3 h4 h5;simp only[Nd.cs,cT,List.cons.injEq,Value.int.injEq,Value.string.injEq,Value.slice.injEq,true_and,and_true] at h1;obtain⟨e1,e2,e3,e4,e5,e6,e7,e8,e9,gf⟩:=h1;simp only[Nd.svs,e1,e2,e3,e4,e5,e6,e7,e8,e9,gf]
theorem Gh {m:Mem} {e1 e2:Ex} {xs:List Value} (hl:xs.length=2 * 8) (h:dF m [e1,e2] xs):∃y1 y2:Nd,xs=y1.cs++y2.cs/\ba m e1 y1.cs/\ba m e2 y2.cs:=by
 simp only[dF,and_true] at h;obtain⟨y1,h1⟩:=pT h.1;obtain⟨y2,h2⟩:=pT h.2;have e:(xs.drop 8).take 8=xs.drop 8:=fH (by rw[cj];omega);refine⟨y1,y2,?_,by rw[<- h1];exact h.1,by rw[<- h2];exact h.2⟩;rw[<- h1,<- h2,e,List.take_append_drop]
theorem U0 (m:Mem) (hg:GlobX m):FnH Tryz.prog 13 [.v (.string (bs w1))] ⟨[],[]⟩ m fun r H' m' =>ak m m' /\∃(a b d:Option Addr) (cp cq cr:Nat) (z1 u1:Nd),r= .tup [.agg (Nd.svs ⟨16,0,[43],[],af,a,2,cp⟩),.v (.int .i64 0),.v (.int .i64 0)]/\
  aM m' a 2 8 (z1.cs++Nd.cs ⟨16,0,[42],[],af,b,2,cq⟩)/\aM m' b 2 8 (u1.cs++Nd.cs ⟨15,0,[45],[],af,d,1,cr⟩)/\H' =⟨[],[]⟩:=by
 have h:=zj w1 m hg (by decide);rw[aaF] at h;refine h.mono ?_;rintro r H' m' hm ⟨l1,y,rfl,hy,rfl⟩;obtain⟨a,cp,xs,ey,_,bb,hr,hs⟩:=zk hy;obtain⟨z1,z2,rfl,rK,tm⟩:=Gh hr.1 hs;obtain⟨b,cq,xs2,_,ez,u9,cX,tq⟩:=zk tm;obtain⟨u1,u2,rfl,hu1,hu2⟩:=Gh cX.1 tq;obtain⟨d,cr,xs3,_,eu,H5,hr3,hs3⟩:=zk hu2;rw[ez] at hr;rw[eu] at cX;exact⟨l1,a,b,d,cp,cq,cr,z1,u1,by rw[ey];rfl,hr,cX,rfl⟩
theorem UZ (m:Mem) (hg:GlobX m):FnH Tryz.prog 13 [.v (.string (bs w2))] ⟨[],[]⟩ m fun r H' m' =>ak m m' /\∃(a b:Option Addr) (cp cq:Nat) (z2:Nd),r= .tup [.agg (Nd.svs ⟨16,0,[61,61],[],af,a,2,cp⟩),.v (.int .i64 0),.v (.int .i64 0)]/\
  aM m' a 2 8 (Nd.cs ⟨18,0,[],[],⟨0,76,[65]⟩,b,1,cq⟩++z2.cs)/\H' =⟨[],[]⟩:=by
 have h:=zj w2 m hg (by decide);rw[aaE] at h;refine h.mono ?_;rintro r H' m' hm ⟨l1,y,rfl,hy,rfl⟩;obtain⟨a,cp,xs,ey,_,bb,hr,hs⟩:=zk hy;obtain⟨z1,z2,rfl,rK,tm⟩:=Gh hr.1 hs;obtain⟨b,cq,xs2,_,ez,u9,cX,tq⟩:=zk rK;rw[ez] at hr;exact⟨l1,a,b,cp,cq,z2,by rw[ey];rfl,hr,rfl⟩
theorem zS {m:Mem} {x:Value} {cs:List Value} (h:Rd m x cs):Di x:=by obtain⟨a,rfl,_⟩:=h;exact⟨a,rfl⟩
theorem QF (m:Mem) (hg:GlobX m):FnH Tryz.prog 9 [] ⟨[],[]⟩ m fun r H' m' =>ak m m' /\r= .v (.bool true)/\H' =⟨[],[]⟩:=by
 have h1:=fun m' (h:ak m m')=>U0 m' (hg.upM h)
 have h2:=fun m' (h:ak m m')=>UZ m' (hg.upM h)
 have h3:=fun m' (h:ak m m')=>zj w3 m' (hg.upM h) (by decide)
 have h4:=fun m' (h:ak m m')=>zj w4 m' (hg.upM h) (by decide)
 have h5:=fun m' (h:ak m m')=>Sk w5 m' (hg.upM h) (by decide)
 have h6:=fun m' (h:ak m m')=>LA w6 m' (hg.upM h) (by decide)
 rw[aaD] at h3;rw[aaC] at h4;rw[aaB] at h5;rw[aaA] at h6;refine aH aw Tryz.func9 ?_
 ·simp only[go_sem];refine ab ((h1 m (.inl rfl)).mono ?_);clear h1;rintro r H' m1 aJ ⟨l1,a,b,d,cp,cq,cr,z1,u1,rfl,hr,cX,rfl⟩;simp only[go_sem];refine ab ((h2 m1 l1).mono ?_);clear h2;rintro r H' m2 aG ⟨l2,a',b',cp',cq',z2,rfl,hr3,rfl⟩;simp only[go_sem];refine ab ((h3 m2 (aa l1 l2)).mono ?_);clear h3;rintro r H' m3 bu ⟨l3,y3,rfl,uT,rfl⟩;simp only[go_sem];refine ab ((h4 m3 (aa (aa l1 l2) l3)).mono ?_);clear h4;rintro r H' m4 dc ⟨l4,y4,rfl,hy4,rfl⟩;simp only[go_sem];refine ab ((h5 m4 (aa (aa (aa l1 l2) l3) l4)).mono ?_);clear h5;rintro r H' m5 b9 ⟨l5,a5,n5,c5,rfl,hp5,rfl⟩;simp only[go_sem];refine ab ((h6 m5 (aa (aa (aa (aa l1 l2) l3) l4) l5)).mono ?_);clear h6;rintro r H' m6 ej ⟨l6,a6,n6,c6,rfl,hp6,rfl⟩;simp only[go_sem];have u1:ak m1 m6:=aa l2 (aa l3 (aa l4 (aa l5 l6)));have u2:ak m2 m6:=aa l3 (aa l4 (aa l5 l6));have hA:=ed (aK u1 hr) (i:=1) (by decide);have Bu:Rd m6 (cI a 8) (Nd.cs ⟨16,0,[42],[],af,b,2,cq⟩):=hA.1;have Pr:Rd m6 (o9 (cI a 8) 7) [.slice b 2 cq]:=je Bu 7 1 (by simp [Nd.cs]);have hA2:Rd m6 (o9 (cI a 8) 2) [.string (bs [42])]:=je Bu 2 1 (by simp [Nd.cs]);have hB:=ed (aK u1 cX) (i:=1) (by decide);have Pq:Rd m6 (cI b 8) (Nd.cs ⟨15,0,[45],[],af,d,1,cr⟩):=hB.1;have dP:Rd m6 (o9 (cI b 8) 0) [.int .i64 15]:=je Pq 0 1 (by simp [Nd.cs]);have hC:=ed (aK u2 hr3) (i:=0) (by decide);have Pp:Rd m6 (cI a' 0) (Nd.cs ⟨18,0,[],[],⟨0,76,[65]⟩,b',1,cq'⟩):=hC.1;have hC0:Rd m6 (o9 (cI a' 0) 0) [.int .i64 18]:=je Pp 0 1 (by simp [Nd.cs]);refine⟨fun _=>⟨by decide,by decide,hA.2⟩,fun _=>zS Bu,.slice b 2 cq,fun _=>Pr,?_⟩
  simp only[go_sem];refine⟨fun h=>(by simp at h),fun h=>⟨⟨by decide,by decide,hA.2⟩,zS Bu,.string (bs [42]),hA2,?_⟩⟩;simp only[go_sem];refine⟨⟨by decide,by decide,hA.2⟩,zS Bu,.slice b 2 cq,Pr,?_⟩;simp only[go_sem];refine⟨⟨by decide,by decide,hB.2⟩,zS Pq,.int .i64 15,dP,?_⟩;simp only[go_sem];refine⟨⟨by decide,by decide,hC.2⟩,zS Pp,.int .i64 18,hC0,?_⟩;simp only[go_sem];exact aa l1 u1
def sT (t:Tk):Tk:=⟨t.k,t.s,t.n,0⟩
def sl (l:List Tk):List Tk:=l.map sT
def ms {α:Type}:PR α->PR α
 | .ok x=> .ok (x.1,sl x.2)
 | .error r=> .error (sl r)
theorem Ty.eq_self (x:Ty):Ty.eq x x=true:=by simp [Ty.eq]
theorem o5 {α:Type} [DecidableEq α] (a b:α):decide (a=b)=decide (b=a):=by rw[decide_eq_decide];exact eq_comm
theorem Ty.eq_comm (x y:Ty):Ty.eq x y=Ty.eq y x:=by rw[Ty.eq,Ty.eq,o5 x.dim,o5 x.base,o5 x.name]
mutual
theorem Cx:∀(e:Ex),gU e e=true
 | .mk k n s c ty args=>by rw[gU,Ty.eq_self,Kf args];simp
theorem Kf:∀(l:List Ex),mK l l=true
 |[]=>by simp only[mK]
 |e::r=>by rw[mK,Cx e,Kf r];rfl
end
mutual
theorem Uy:∀(e:St),cF e e=true
 | .mk k nm ty tg ex body alt=>by rw[cF,Ty.eq_self,Cx,Cx,Cb body,Cb alt];simp
theorem Cb:∀(l:List St),iS l l=true
 |[]=>by simp only[iS]
 |e::r=>by rw[iS,Uy e,Cb r];rfl
end
theorem Pc.eq_self (p:Pc):Pc.eq p p=true:=by simp [Pc.eq]
theorem Fc.eq_self (p:Fc):Fc.eq p p=true:=by simp [Fc.eq]
theorem Pc.eq_comm (p q:Pc):Pc.eq p q=Pc.eq q p:=by rw[Pc.eq,Pc.eq,o5 p.ty.dim,o5 p.ty.base,o5 p.ty.name,o5 p.name]
theorem Fc.eq_comm (p q:Fc):Fc.eq p q=Fc.eq q p:=by rw[Fc.eq,Fc.eq,o5 p.fl,o5 p.ty.dim,o5 p.ty.base,o5 p.ty.name,o5 p.name]
theorem MJ {f:FuncId} {t:List UInt8} {m:Mem} (h:FnH Tryz.prog f [.v (.string (bs t))] ⟨[],[]⟩ m fun r H' m' =>ak m m' /\uH (aD t) r H') (h0:(aD t).2.2=0):
  FnH Tryz.prog f [.v (.string (bs t))] ⟨[],[]⟩ m fun r H' m' =>ak m m' /\r= .tup [.vec 0 0,.v (.int .i64 (aD t).2.1),.v (.int .i64 0)]/\H' =⟨[],[⟨0,0,50,4,(aD t).1.length,cG (aD t).1⟩]⟩:=
 (G0 h).mono fun r H' m' _ h=>by
  rcases h with ⟨l1,⟨_,h3,h4⟩ |⟨h3,_⟩⟩
  ·rw[h0] at h3;exact⟨l1,h3,h4⟩
  ·exact absurd h0 h3
theorem MK {f:FuncId} {t:List UInt8} {m:Mem} (h:FnH Tryz.prog f [.v (.string (bs t))] ⟨[],[]⟩ m fun r H' m' =>ak m m' /\uH (aD t) r H') (h0:¬(aD t).2.2=0):
  FnH Tryz.prog f [.v (.string (bs t))] ⟨[],[]⟩ m fun r H' m' =>ak m m' /\r= .tup [.v (.slice none 0 0),.v (.int .i64 (aD t).2.1),.v (.int .i64 (aD t).2.2)]/\H' =⟨[],[]⟩:=
 (G0 h).mono fun r H' m' _ h=>by
  rcases h with ⟨l1,⟨h3,_⟩ |⟨_,_,h3,h4⟩⟩
  ·exact absurd h3 h0
  ·exact⟨l1,h3,h4⟩
theorem MD {m m' :Mem} (hle:ak m m') {l:List St} {a:Option Addr} {n c:Nat} (h:yw m l a n c):yw m' l a n c:=by
 obtain⟨h1,h2,h3,xs,h4,h5⟩:=h;exact⟨h1,h2,h3,xs,aK hle h4,kz hle h5⟩
theorem RW {l l2:List St} {a a2:Option Addr} {n c n2 c2:Nat} (m:Mem) (h:yw m l a n c) (h2:yw m l2 a2 n2 c2):ay 18 [.v (.slice a n c),.v (.slice a2 n2 c2)] m (.bool (iS l l2)):=by
 obtain⟨h1,_,h3,xs,h4,h5⟩:=h;obtain⟨k1,_,k3,ys,k4,k5⟩:=h2;exact RX _ l l2 a n c a2 n2 c2 xs ys m (aq _) h1 k1 h3 k3 h4 k4 h5 k5
theorem NZ (n:Int) (s c:List UInt8) (ty:Ty):eJ [] n s c ty=(decide (n=0)&&decide (s=[])&&decide (c=[])&&Ty.eq ty af):=by simp [eJ]
theorem zero_eq (k n:Int) (s c:List UInt8) (ty:Ty) (l:Nat):(decide (k=0)&&eJ [] n s c ty&&decide ((l:Int)=0))=jS k n s c ty l:=by
 rw[NZ,jS];grind
theorem Tw (k n:Int) (s c:List UInt8) (ty:Ty) (l:Nat):(decide (k=0)&&eJ [] n s c ty&&decide ((l:Int)<=16))=(jS k n s c ty 0&&decide (l<=16)):=by
 rw[NZ,jS];grind
theorem QQ (k n:Int) (s c:List UInt8) (ty:Ty) (a:Option Addr) (l cp:Nat) (m:Mem):FnH Tryz.prog 215 [.v (.agg ⟨cT k n s c ty (.slice a l cp)⟩)] ⟨[],[]⟩ m fun r H' _=>r= .v (.bool (jS k n s c ty l))/\H' =⟨[],[]⟩:=by
 refine enter BB yA Tryz.func215 rfl rfl (by kernel_rfl) rfl ?_ ?_
 ·simp only[go_sem,cT]
 ·simp only[go_sem,cT];exact zero_eq k n s c ty l
def Dc:List Value->Option (Prop×Value)
 |[.agg ⟨[.int .i64 k,.int .i64 n,.string s,.string c,.int .i64 d,.int .u8 b,.string nm,.slice _ l _]⟩]=>some (True,.bool (jS k n (tl s) (tl c) ⟨d,b,tl nm⟩ l))
 |_=>none
attribute [go_sem] Dc.eq_1
theorem TU:nJ Tryz.prog 215 Dc:=fun b5 y hy _ m=>by
 unfold Dc at hy;split at hy
 ·rename_i k n s c d b nm a l cp;cases hy;have:=QQ k n (tl s) (tl c) ⟨d,b,tl nm⟩ a l cp m;simp only[cT,la] at this;exact this
 ·cases hy
theorem Qc (k:Int) (nm:List UInt8) (ty:Ty) (c5 c6 c7 c8 c9 Ix Iw c12 Iv Iu BD It Is Ir Iq c20 c21 qT:Value) (t:Bool) (m:Mem) (h1:BL nm) (h2:BL ty.name):
  FnH Tryz.prog 243 [.v (.agg ⟨[.int .i64 k,.string (bs nm),.int .i64 ty.dim,.int .u8 ty.base,.string (bs ty.name),c5,c6,c7,c8,c9,Ix,Iw,c12,Iv,Iu,BD,It,Is,Ir,Iq,c20,c21,qT]⟩),.v (.bool t)] ⟨[],[]⟩ m fun r H' _=>r= .v (.bool (j5 nm ty t))/\H' =⟨[],[]⟩:=by
 refine aH yA Tryz.func243 ?_
 ·simp only[go_sem,qi];exact⟨fun h=>⟨h2,fun _=>h1,by rw[j5,ah h]⟩,fun h=>by rw[j5,ae (by simp [h])];rfl⟩
def CZ:List Value->Option (Prop×Value)
 |[.agg ⟨[.int .i64 _,.string s,.int .i64 d,.int .u8 b,.string nm,_,_,_,_,_,_,_,_,_,_,_,_,_,_,_,_,_,_]⟩,.bool t]=>some (BL (tl s)/\BL (tl nm),.bool (j5 (tl s) ⟨d,b,tl nm⟩ t))
 |_=>none
attribute [go_sem] CZ.eq_1
theorem Si:nJ Tryz.prog 243 CZ:=fun b5 y hy hB m=>by
 unfold CZ at hy;split at hy
 ·rename_i k s d b nm c5 c6 c7 c8 c9 Ix Iw c12 Iv Iu BD It Is Ir Iq c20 c21 qT t;cases hy;have:=Qc k (tl s) ⟨d,b,tl nm⟩ c5 c6 c7 c8 c9 Ix Iw c12 Iv Iu BD It Is Ir Iq c20 c21 qT t m hB.1 hB.2;simp only[la] at this;exact this
 ·cases hy
abbrev n7:Cfg:=fh (fun _=>false) [(215,Dc),(243,CZ)]
theorem oR:cd n7 Tryz.prog:=pure_cons (by kernel_rfl) TU (pure_cons (by kernel_rfl) Si pure_nil)
theorem QY (e:Ex) (cs:List Value) (m:Mem) (he:ba m e cs):ay 219 [.v (.agg ⟨cs⟩)] m (.bool (tR e)):=by
 cases e with
 |mk k n s c ty args=>
  simp only[ba] at he;obtain⟨a,cp,xs,rfl,bb,hr,av,eE⟩:=he;have hn:=av.2.2.2.2.2;refine enter BB yA Tryz.func219 rfl rfl (by kernel_rfl) rfl ?_ ?_
  ·simp only[go_sem,cT]
  ·simp only[go_sem,cT];refine fy yA (fun x:Nat×Mem=>⟨[⟨1,[],.box 0 0⟩,⟨3,[],.v (.int .i64 x.1)⟩],[],[⟨0,33,(cT k n s c ty (.slice a args.length cp)).map .v⟩],[],1,x.2⟩)
    (fun x=>ak m x.2/\x.1<=args.length/\kv (args.take x.1)=true) (fun x=>args.length - x.1) (0,m) (by kernel_rfl) (fun _ _=>aq _) (fun x hx=>hx.1) (fun _=> ?_) ?_ ?_ ?_
   ·simp only[go_sem,cT]
   ·simp only[go_sem,cT];rfl
   ·exact⟨.inl rfl,au _,by simp [kv]⟩
   ·rintro⟨i,mm⟩ ⟨h1,h2,h3⟩;simp only at h1 h2 h3;have hx:∀(hi:i<args.length),∃x:Nd,Rd mm (cI a (i * 8)) x.cs/\a≠none/\ay 36 [.v (.agg ⟨x.cs⟩)] mm (.bool (dm args[i])):=fun hi=>by
     have aY:=aU h1 (sw eE hi);obtain⟨x,hx⟩:=pT aY;have bP:=ed (aK h1 hr) hi;rw[hx] at aY bP;exact⟨x,bP.1,bP.2,yZ _ args[i] x.cs mm (aq _) aY⟩
    simp only[go_sem,cT];refine⟨fun ao=> ?_,fun cA=> ?_⟩
    ·refine Exists.elim (hx (by clear hx;omega)) fun x bR=>⟨⟨by clear hx bR;omega,ao,bR.2.1⟩,x.cs,⟨bR.1,rfl⟩,?_⟩
     clear hx;have ha:=bR.2.2;simp only[go_sem,Nd.cs,cT];refine ab ((aS ha (fun V=>rfl)).mono ?_);clear bR ha;rintro r H' m2 aG ⟨aX,rfl,rfl⟩;simp only[go_sem,cT];have hi:i<args.length:=by omega
     refine⟨fun hv=>⟨aa h1 aX,?_⟩,fun hv=>⟨by unfold ax;simp only[az] at hn;omega,(i+1,m2),⟨by simp,.inl rfl⟩,⟨aa h1 aX,by simp only;omega,?_⟩,by simp only;omega⟩⟩
     ·rw[tR,Jc hi hv,Bool.and_false]
     ·simp only;rw[El hi,h3,hv];rfl
    ·clear hx;rw[fH (by omega)] at h3;refine⟨h1,?_⟩;rw[tR,h3,Bool.and_true];exact Tw k n s c ty args.length
theorem Ew (sup:Bool) (l:List St) (a:Option Addr) (n c:Nat) (xs:List Value) (m:Mem) (hl:n=l.length) (hr:aM m a n 23 xs) (hs:bj m l xs) (hn:n<=az)
  (hV:∀e∈l,∀cs m',ak m m' ->eH m' e cs->ay 172 [.v (.agg ⟨cs⟩)] m' (.bool (gE e))):
  ay 108 [.v (.slice a n c),.v (.bool sup)] m (.bool (eU sup l)):=by
 refine aH aw Tryz.func108 ?_
 ·simp only[go_sem];refine cK aw (fun x:Nat×Mem=>⟨[⟨0,[],.v (.slice a n c)⟩,⟨1,[],.v (.bool sup)⟩,⟨5,[],.v (.int .i64 x.1)⟩],[],[],[],0,x.2⟩)
    (fun x=>ak m x.2/\x.1<=n/\iB sup (l.take x.1)=true) (fun x=>n - x.1) (0,m) (fun _ _=>aq _) (fun x hx=>hx.1) ?_ ?_ ?_
  ·simp only[go_sem];rfl
  ·exact⟨.inl rfl,au _,by simp [iB]⟩
  ·rintro⟨k,mm⟩ ⟨h1,h2,h3⟩;simp only at h1 h2 h3;have hy:∀(hk:k<l.length),∃X:Sd,(Rd mm (cI a (k * 23)) X.cs/\a≠none)/\X.k=l[k].k/\ay 172 [.v (.agg ⟨X.cs⟩)] mm (.bool (gE l[k])):=fun hk=>by
    have aY:=rW h1 (p7 hs hk);have HS:∃X:Sd,(xs.drop (k * 23)).take 23=X.cs/\X.k=l[k].k:=by
     cases ko:l[k] with
     |mk k' nm ty tg ex body alt=>
      rw[ko] at aY;obtain⟨X,e1,e2,_⟩:=rY aY;exact⟨X,e1,e2⟩
    obtain⟨X,e1,e2⟩:=HS;have r1:=ed (aK h1 hr) (by omega:k<n);rw[e1] at r1 aY;exact⟨X,r1,e2,hV _ (List.getElem_mem hk) _ _ h1 aY⟩
   clear hV;simp only[go_sem];refine⟨fun ao=> ?_,fun cA=>⟨h1,?_⟩⟩
   ·have hk:k<l.length:=by clear hy;omega
    refine Exists.elim (hy hk) fun X bc=>⟨⟨by clear hy bc;omega,ao,bc.1.2⟩,kS bc.1.1,.int .i64 X.k,je bc.1.1 0 1 (dO rfl),?_⟩
    clear hy;have eP:=bc.2.1;have ha:=bc.2.2;have eM:=bc.1.1;have hrn:=bc.1.2;clear bc;simp only[go_sem,Sd.cs,Nd.cs];refine⟨fun _=>⟨by omega,ao,hrn⟩,X.cs,fun _=>⟨eM,rfl⟩,fun hc=>ab (ha.mono ?_),fun hc=>⟨h1,?_⟩⟩
    ·clear ha;have hb:nQ sup k l[k]=gE l[k]:=by
      rw[eP] at hc;rcases hc with hc |hc
      ·simp [nQ,hc]
      ·have:k=0:=by omega
       simp [nQ,hc.1,this]
     rintro r H' m2 aG ⟨aX,rfl,rfl⟩;simp only[go_sem];refine⟨fun hv=>⟨aa h1 aX,?_⟩,fun hv=>⟨by unfold ax;simp only[az] at hn;omega,(k+1,m2),⟨by simp,.inl rfl⟩,⟨aa h1 aX,by simp only;omega,?_⟩,by simp only;omega⟩⟩
     ·rw[eU,BR hk (by rw[hb];exact hv),Bool.and_false]
     ·simp only;rw[BI hk,h3,hb,hv];rfl
    ·clear ha;rw[eP] at hc;rw[eU,BR hk,Bool.and_false];rcases hc.2 with h0 |h0
     ·simp [nQ,hc.1,h0]
     ·have:¬k=0:=by omega
      simp [nQ,hc.1,this]
   ·clear hy;rw[fH (by omega)] at h3;rw[eU,h3,Bool.and_true,decide_eq_decide];omega
theorem Qf (X:Sd) (tg ex:Ex) (body alt:List St) (t t2 b1 b2:Bool) (m:Mem) (h1:BL X.name) (h2:BL X.ty.name) (cL:ba m tg X.tg.cs) (hl:X.l=body.length) (bw:X.l2=alt.length)
  (hB:∀m',ak m m' ->ay 108 [.v (.slice X.a X.l X.cp),.v (.bool false)] m' (.bool (eU false body)))
  (hA:∀m',ak m m' ->ay 108 [.v (.slice X.b X.l2 X.cp2),.v (.bool false)] m' (.bool (eU false alt))):
  ay 218 [.v (.agg ⟨X.cs⟩),.v (.bool t),.v (.bool t2),.v (.bool b1),.v (.bool b2)] m (.bool (gW X.name X.ty tg body alt t t2 b1 b2)):=by
 have hz:mi tg=jS X.tg.k X.tg.n X.tg.s X.tg.c X.tg.ty X.tg.l:=by
  cases tg with
  |mk k n s c ty args=>
   obtain⟨y,hy,e1,e2,e3,e4,e5,e6,_⟩:=rZ cL;rw[C2 hy,e1,e2,e3,e4,e5,e6];rfl
 refine enter n7 oR Tryz.func218 rfl rfl (by kernel_rfl) rfl ?_ ?_
 ·simp only[go_sem,Sd.cs,Nd.cs]
 ·simp only[go_sem,Sd.cs,Nd.cs];have e0:gW X.name X.ty tg body alt t t2 b1 b2=(j5 X.name X.ty t&&(t2||mi tg)&&(b1||decide (body.length=0))&&(b2||decide (alt.length=0))&&eU false body&&eU false alt):=rfl;refine⟨⟨h1,h2⟩,fun hc=>ab ((hB m (.inl rfl)).mono ?_),fun hc=> ?_⟩
  ·have q:(j5 X.name X.ty t&&(t2||mi tg)&&(b1||decide (body.length=0))&&(b2||decide (alt.length=0)))=true:=by
    rw[hz,<- hl,<- bw];simp only[cO,Bool.or_eq_true,gA];exact⟨⟨⟨hc.1.1.1,hc.1.1.2⟩,Or.elim hc.1.2 .inl fun h=> .inr (by omega)⟩,Or.elim hc.2 .inl fun h=> .inr (by omega)⟩
   rw[e0,q];clear hB e0 q;rintro r H' m1 aJ ⟨l1,rfl,rfl⟩;simp only[go_sem];refine⟨fun hb=>ab ((hA m1 l1).mono ?_),fun hb=>⟨l1,by rw[hb];rfl⟩⟩;clear hA;rintro r H' m2 aG ⟨l2,rfl,rfl⟩;simp only[go_sem];exact⟨aa l1 l2,by rw[hb];rfl⟩
  ·clear hA hB;rw[e0,hz,<- hl,<- bw];rcases hc with ((h |h) |h) |h
   ·have h' :j5 X.name X.ty t=false:=h;rw[h'];rfl
   ·have h' :jS X.tg.k X.tg.n X.tg.s X.tg.c X.tg.ty X.tg.l=false:=h.2;rw[h',h.1];simp
   ·have h' :decide (X.l=0)=false:=bg (by omega);rw[h',h.1];simp
   ·have h' :decide (X.l2=0)=false:=bg (by omega);rw[h',h.1];simp
theorem aay (nm:List UInt8) (ty:Ty) (tN eN:Nd) (a:Option Addr) (l cp:Nat) (b:Option Addr) (l2 cp2:Nat) (m:Mem) (sB:Bool) (hS:ay 218 [.v (.agg ⟨Sd.cs ⟨1,nm,ty,tN,eN,a,l,cp,b,l2,cp2⟩⟩),.v (.bool true),.v (.bool false),.v (.bool false),.v (.bool false)] m (.bool sB)) (xB:Bool) (hX:∀m',ak m m' ->ay 36 [.v (.agg ⟨eN.cs⟩)] m' (.bool xB)):ay 172 [.v (.agg ⟨Sd.cs ⟨1,nm,ty,tN,eN,a,l,cp,b,l2,cp2⟩⟩)] m (.bool (sB&&xB)):=by
 refine enter n7 oR Tryz.func172 rfl rfl (by kernel_rfl) rfl ?_ ?_
 ·simp only[go_sem,Sd.cs,Nd.cs,Int.reduceEq,aC,aL]
 ·simp only[go_sem,Sd.cs,Nd.cs,Int.reduceEq,aC,aL];refine ab ((aS hS (fun V=>rfl)).mono ?_);clear hS;rintro r H' m1 aJ ⟨l1,rfl,rfl⟩;simp only[go_sem,Sd.cs,Nd.cs,Int.reduceEq,aC,aL];refine⟨fun c=>ab ((aS (hX m1 l1) (fun V=>rfl)).mono ?_),fun c=>⟨l1,by rw[c];rfl⟩⟩;clear hX;rintro r H' m2 aG ⟨db,rfl,rfl⟩;simp only[go_sem,Sd.cs,Nd.cs,Int.reduceEq,aC,aL];exact⟨aa l1 db,by rw[c];rfl⟩
theorem aax (nm:List UInt8) (ty:Ty) (tN eN:Nd) (a:Option Addr) (l cp:Nat) (b:Option Addr) (l2 cp2:Nat) (m:Mem) (sB:Bool) (hS:ay 218 [.v (.agg ⟨Sd.cs ⟨2,nm,ty,tN,eN,a,l,cp,b,l2,cp2⟩⟩),.v (.bool false),.v (.bool true),.v (.bool false),.v (.bool false)] m (.bool sB)) (xB:Bool) (hX:∀m',ak m m' ->ay 36 [.v (.agg ⟨eN.cs⟩)] m' (.bool xB)) (tB:Bool) (hT:∀m',ak m m' ->ay 36 [.v (.agg ⟨tN.cs⟩)] m' (.bool tB)):ay 172 [.v (.agg ⟨Sd.cs ⟨2,nm,ty,tN,eN,a,l,cp,b,l2,cp2⟩⟩)] m (.bool (sB&&xB&&tB&&(decide (tN.k=6)||decide (tN.k=7)||decide (tN.k=8)||decide (tN.k=9)))):=by
 refine enter n7 oR Tryz.func172 rfl rfl (by kernel_rfl) rfl ?_ ?_
 ·simp only[go_sem,Sd.cs,Nd.cs,Int.reduceEq,aC,aL]
 ·simp only[go_sem,Sd.cs,Nd.cs,Int.reduceEq,aC,aL];refine ab ((aS hS (fun V=>rfl)).mono ?_);clear hS;rintro r H' m1 aJ ⟨l1,rfl,rfl⟩;simp only[go_sem,Sd.cs,Nd.cs,Int.reduceEq,aC,aL];refine⟨fun c=>ab ((aS (hX m1 l1) (fun V=>rfl)).mono ?_),fun c=>⟨l1,by rw[c];rfl⟩⟩;clear hX;rintro r H' m2 aG ⟨db,rfl,rfl⟩;simp only[go_sem,Sd.cs,Nd.cs,Int.reduceEq,aC,aL];have k2:=aa l1 db;refine⟨fun c2=>ab ((aS (hT m2 k2) (fun V=>rfl)).mono ?_),fun c2=>⟨k2,by rw[c,c2];rfl⟩⟩;clear hT;rintro r H' m3 bu ⟨l3',rfl,rfl⟩;simp only[go_sem,Sd.cs,Nd.cs,Int.reduceEq,aC,aL];exact⟨aa k2 l3',by rw[c,c2];rfl⟩
theorem aaw (nm:List UInt8) (ty:Ty) (tN eN:Nd) (a:Option Addr) (l cp:Nat) (b:Option Addr) (l2 cp2:Nat) (m:Mem) (sB:Bool) (hS:ay 218 [.v (.agg ⟨Sd.cs ⟨3,nm,ty,tN,eN,a,l,cp,b,l2,cp2⟩⟩),.v (.bool false),.v (.bool false),.v (.bool false),.v (.bool false)] m (.bool sB)) (xB:Bool) (hX:∀m',ak m m' ->ay 36 [.v (.agg ⟨eN.cs⟩)] m' (.bool xB)):ay 172 [.v (.agg ⟨Sd.cs ⟨3,nm,ty,tN,eN,a,l,cp,b,l2,cp2⟩⟩)] m (.bool (sB&&xB&&(decide (eN.k=10)||decide (eN.k=11)||decide (eN.k=12)||decide (eN.k=13)))):=by
 refine enter n7 oR Tryz.func172 rfl rfl (by kernel_rfl) rfl ?_ ?_
 ·simp only[go_sem,Sd.cs,Nd.cs,Int.reduceEq,aC,aL]
 ·simp only[go_sem,Sd.cs,Nd.cs,Int.reduceEq,aC,aL];refine ab ((aS hS (fun V=>rfl)).mono ?_);clear hS;rintro r H' m1 aJ ⟨l1,rfl,rfl⟩;simp only[go_sem,Sd.cs,Nd.cs,Int.reduceEq,aC,aL];refine⟨fun c=>ab ((aS (hX m1 l1) (fun V=>rfl)).mono ?_),fun c=>⟨l1,by rw[c];rfl⟩⟩;clear hX;rintro r H' m2 aG ⟨db,rfl,rfl⟩;simp only[go_sem,Sd.cs,Nd.cs,Int.reduceEq,aC,aL];exact⟨aa l1 db,by rw[c];rfl⟩
theorem aav (nm:List UInt8) (ty:Ty) (tN eN:Nd) (a:Option Addr) (l cp:Nat) (b:Option Addr) (l2 cp2:Nat) (m:Mem) (sB:Bool) (hS:ay 218 [.v (.agg ⟨Sd.cs ⟨4,nm,ty,tN,eN,a,l,cp,b,l2,cp2⟩⟩),.v (.bool false),.v (.bool false),.v (.bool true),.v (.bool true)] m (.bool sB)) (xB:Bool) (hX:∀m',ak m m' ->ay 36 [.v (.agg ⟨eN.cs⟩)] m' (.bool xB)):ay 172 [.v (.agg ⟨Sd.cs ⟨4,nm,ty,tN,eN,a,l,cp,b,l2,cp2⟩⟩)] m (.bool (sB&&xB)):=by
 refine enter n7 oR Tryz.func172 rfl rfl (by kernel_rfl) rfl ?_ ?_
 ·simp only[go_sem,Sd.cs,Nd.cs,Int.reduceEq,aC,aL]
 ·simp only[go_sem,Sd.cs,Nd.cs,Int.reduceEq,aC,aL];refine ab ((aS hS (fun V=>rfl)).mono ?_);clear hS;rintro r H' m1 aJ ⟨l1,rfl,rfl⟩;simp only[go_sem,Sd.cs,Nd.cs,Int.reduceEq,aC,aL];refine⟨fun c=>ab ((aS (hX m1 l1) (fun V=>rfl)).mono ?_),fun c=>⟨l1,by rw[c];rfl⟩⟩;clear hX;rintro r H' m2 aG ⟨db,rfl,rfl⟩;simp only[go_sem,Sd.cs,Nd.cs,Int.reduceEq,aC,aL];exact⟨aa l1 db,by rw[c];rfl⟩
theorem aau (nm:List UInt8) (ty:Ty) (tN eN:Nd) (a:Option Addr) (l cp:Nat) (b:Option Addr) (l2 cp2:Nat) (m:Mem) (sB:Bool) (hS:ay 218 [.v (.agg ⟨Sd.cs ⟨5,nm,ty,tN,eN,a,l,cp,b,l2,cp2⟩⟩),.v (.bool false),.v (.bool false),.v (.bool true),.v (.bool false)] m (.bool sB)) (xB:Bool) (hX:∀m',ak m m' ->ay 36 [.v (.agg ⟨eN.cs⟩)] m' (.bool xB)):ay 172 [.v (.agg ⟨Sd.cs ⟨5,nm,ty,tN,eN,a,l,cp,b,l2,cp2⟩⟩)] m (.bool (sB&&xB)):=by
 refine enter n7 oR Tryz.func172 rfl rfl (by kernel_rfl) rfl ?_ ?_
 ·simp only[go_sem,Sd.cs,Nd.cs,Int.reduceEq,aC,aL]
 ·simp only[go_sem,Sd.cs,Nd.cs,Int.reduceEq,aC,aL];refine ab ((aS hS (fun V=>rfl)).mono ?_);clear hS;rintro r H' m1 aJ ⟨l1,rfl,rfl⟩;simp only[go_sem,Sd.cs,Nd.cs,Int.reduceEq,aC,aL];refine⟨fun c=>ab ((aS (hX m1 l1) (fun V=>rfl)).mono ?_),fun c=>⟨l1,by rw[c];rfl⟩⟩;clear hX;rintro r H' m2 aG ⟨db,rfl,rfl⟩;simp only[go_sem,Sd.cs,Nd.cs,Int.reduceEq,aC,aL];exact⟨aa l1 db,by rw[c];rfl⟩
theorem aat (nm:List UInt8) (ty:Ty) (tN eN:Nd) (a:Option Addr) (l cp:Nat) (b:Option Addr) (l2 cp2:Nat) (m:Mem) (sB:Bool) (hS:ay 218 [.v (.agg ⟨Sd.cs ⟨6,nm,ty,tN,eN,a,l,cp,b,l2,cp2⟩⟩),.v (.bool false),.v (.bool false),.v (.bool false),.v (.bool false)] m (.bool sB)) (xB:Bool) (hX:∀m',ak m m' ->ay 36 [.v (.agg ⟨eN.cs⟩)] m' (.bool xB)):ay 172 [.v (.agg ⟨Sd.cs ⟨6,nm,ty,tN,eN,a,l,cp,b,l2,cp2⟩⟩)] m (.bool (sB&&(jS eN.k eN.n eN.s eN.c eN.ty eN.l||xB))):=by
 refine enter n7 oR Tryz.func172 rfl rfl (by kernel_rfl) rfl ?_ ?_
 ·simp only[go_sem,Sd.cs,Nd.cs,Int.reduceEq,aC,aL]
 ·simp only[go_sem,Sd.cs,Nd.cs,Int.reduceEq,aC,aL];refine ab ((aS hS (fun V=>rfl)).mono ?_);clear hS;rintro r H' m1 aJ ⟨l1,rfl,rfl⟩;simp only[go_sem,Sd.cs,Nd.cs,Int.reduceEq,aC,aL];refine⟨fun c=>⟨fun z=>ab ((aS (hX m1 l1) (fun V=>rfl)).mono ?_),fun z=>⟨l1,?_⟩⟩,fun c=>⟨l1,by rw[c];rfl⟩⟩
  ·clear hX;have z:jS eN.k eN.n eN.s eN.c eN.ty eN.l=false:=z;rintro r H' m2 aG ⟨db,rfl,rfl⟩;simp only[go_sem,Sd.cs,Nd.cs,Int.reduceEq,aC,aL];exact⟨aa l1 db,by rw[c,z];rfl⟩
  ·have z:jS eN.k eN.n eN.s eN.c eN.ty eN.l=true:=z;rw[c,z];rfl
theorem aas (nm:List UInt8) (ty:Ty) (tN eN:Nd) (a:Option Addr) (l cp:Nat) (b:Option Addr) (l2 cp2:Nat) (m:Mem) (sB:Bool) (hS:ay 218 [.v (.agg ⟨Sd.cs ⟨7,nm,ty,tN,eN,a,l,cp,b,l2,cp2⟩⟩),.v (.bool false),.v (.bool false),.v (.bool false),.v (.bool false)] m (.bool sB)) (xB:Bool) (hX:∀m',ak m m' ->ay 36 [.v (.agg ⟨eN.cs⟩)] m' (.bool xB)):ay 172 [.v (.agg ⟨Sd.cs ⟨7,nm,ty,tN,eN,a,l,cp,b,l2,cp2⟩⟩)] m (.bool (sB&&xB)):=by
 refine enter n7 oR Tryz.func172 rfl rfl (by kernel_rfl) rfl ?_ ?_
 ·simp only[go_sem,Sd.cs,Nd.cs,Int.reduceEq,aC,aL]
 ·simp only[go_sem,Sd.cs,Nd.cs,Int.reduceEq,aC,aL];refine ab ((aS hS (fun V=>rfl)).mono ?_);clear hS;rintro r H' m1 aJ ⟨l1,rfl,rfl⟩;simp only[go_sem,Sd.cs,Nd.cs,Int.reduceEq,aC,aL];refine⟨fun c=>ab ((aS (hX m1 l1) (fun V=>rfl)).mono ?_),fun c=>⟨l1,by rw[c];rfl⟩⟩;clear hX;rintro r H' m2 aG ⟨db,rfl,rfl⟩;simp only[go_sem,Sd.cs,Nd.cs,Int.reduceEq,aC,aL];exact⟨aa l1 db,by rw[c];rfl⟩
theorem aar (nm:List UInt8) (ty:Ty) (tN eN:Nd) (a:Option Addr) (l cp:Nat) (b:Option Addr) (l2 cp2:Nat) (m:Mem) (sB:Bool) (hS:ay 218 [.v (.agg ⟨Sd.cs ⟨8,nm,ty,tN,eN,a,l,cp,b,l2,cp2⟩⟩),.v (.bool true),.v (.bool false),.v (.bool true),.v (.bool true)] m (.bool sB)):ay 172 [.v (.agg ⟨Sd.cs ⟨8,nm,ty,tN,eN,a,l,cp,b,l2,cp2⟩⟩)] m (.bool (sB&&jS eN.k eN.n eN.s eN.c eN.ty eN.l)):=by
 refine enter n7 oR Tryz.func172 rfl rfl (by kernel_rfl) rfl ?_ ?_
 ·simp only[go_sem,Sd.cs,Nd.cs,Int.reduceEq,aC,aL]
 ·simp only[go_sem,Sd.cs,Nd.cs,Int.reduceEq,aC,aL];refine ab ((aS hS (fun V=>rfl)).mono ?_);clear hS;rintro r H' m1 aJ ⟨l1,rfl,rfl⟩;simp only[go_sem,Sd.cs,Nd.cs,Int.reduceEq,aC,aL];exact l1
theorem aaq (nm:List UInt8) (ty:Ty) (tN eN:Nd) (a:Option Addr) (l cp:Nat) (b:Option Addr) (l2 cp2:Nat) (m:Mem) (sB:Bool) (hS:ay 218 [.v (.agg ⟨Sd.cs ⟨9,nm,ty,tN,eN,a,l,cp,b,l2,cp2⟩⟩),.v (.bool false),.v (.bool false),.v (.bool true),.v (.bool false)] m (.bool sB)) (xB:Bool) (hX:∀m',ak m m' ->ay 36 [.v (.agg ⟨eN.cs⟩)] m' (.bool xB)):ay 172 [.v (.agg ⟨Sd.cs ⟨9,nm,ty,tN,eN,a,l,cp,b,l2,cp2⟩⟩)] m (.bool (sB&&xB)):=by
 refine enter n7 oR Tryz.func172 rfl rfl (by kernel_rfl) rfl ?_ ?_
 ·simp only[go_sem,Sd.cs,Nd.cs,Int.reduceEq,aC,aL]
 ·simp only[go_sem,Sd.cs,Nd.cs,Int.reduceEq,aC,aL];refine ab ((aS hS (fun V=>rfl)).mono ?_);clear hS;rintro r H' m1 aJ ⟨l1,rfl,rfl⟩;simp only[go_sem,Sd.cs,Nd.cs,Int.reduceEq,aC,aL];refine⟨fun c=>ab ((aS (hX m1 l1) (fun V=>rfl)).mono ?_),fun c=>⟨l1,by rw[c];rfl⟩⟩;clear hX;rintro r H' m2 aG ⟨db,rfl,rfl⟩;simp only[go_sem,Sd.cs,Nd.cs,Int.reduceEq,aC,aL];exact⟨aa l1 db,by rw[c];rfl⟩
theorem Yi (nm:List UInt8) (ty:Ty) (tN eN:Nd) (a:Option Addr) (l cp:Nat) (b:Option Addr) (l2 cp2:Nat) (m:Mem) (sB:Bool) (hS:ay 218 [.v (.agg ⟨Sd.cs ⟨10,nm,ty,tN,eN,a,l,cp,b,l2,cp2⟩⟩),.v (.bool false),.v (.bool false),.v (.bool true),.v (.bool false)] m (.bool sB)):ay 172 [.v (.agg ⟨Sd.cs ⟨10,nm,ty,tN,eN,a,l,cp,b,l2,cp2⟩⟩)] m (.bool (sB&&jS eN.k eN.n eN.s eN.c eN.ty eN.l)):=by
 refine enter n7 oR Tryz.func172 rfl rfl (by kernel_rfl) rfl ?_ ?_
 ·simp only[go_sem,Sd.cs,Nd.cs,Int.reduceEq,aC,aL]
 ·simp only[go_sem,Sd.cs,Nd.cs,Int.reduceEq,aC,aL];refine ab ((aS hS (fun V=>rfl)).mono ?_);clear hS;rintro r H' m1 aJ ⟨l1,rfl,rfl⟩;simp only[go_sem,Sd.cs,Nd.cs,Int.reduceEq,aC,aL];exact l1
theorem Yh (nm:List UInt8) (ty:Ty) (tN eN:Nd) (a:Option Addr) (l cp:Nat) (b:Option Addr) (l2 cp2:Nat) (m:Mem) (sB:Bool) (hS:ay 218 [.v (.agg ⟨Sd.cs ⟨11,nm,ty,tN,eN,a,l,cp,b,l2,cp2⟩⟩),.v (.bool false),.v (.bool false),.v (.bool false),.v (.bool false)] m (.bool sB)) (xB:Bool) (hX:∀m',ak m m' ->ay 219 [.v (.agg ⟨eN.cs⟩)] m' (.bool xB)):ay 172 [.v (.agg ⟨Sd.cs ⟨11,nm,ty,tN,eN,a,l,cp,b,l2,cp2⟩⟩)] m (.bool (sB&&xB)):=by
 refine enter n7 oR Tryz.func172 rfl rfl (by kernel_rfl) rfl ?_ ?_
 ·simp only[go_sem,Sd.cs,Nd.cs,Int.reduceEq,aC,aL]
 ·simp only[go_sem,Sd.cs,Nd.cs,Int.reduceEq,aC,aL];refine ab ((aS hS (fun V=>rfl)).mono ?_);clear hS;rintro r H' m1 aJ ⟨l1,rfl,rfl⟩;simp only[go_sem,Sd.cs,Nd.cs,Int.reduceEq,aC,aL];refine⟨fun c=>ab ((aS (hX m1 l1) (fun V=>rfl)).mono ?_),fun c=>⟨l1,by rw[c];rfl⟩⟩;clear hX;rintro r H' m2 aG ⟨db,rfl,rfl⟩;simp only[go_sem,Sd.cs,Nd.cs,Int.reduceEq,aC,aL];exact⟨aa l1 db,by rw[c];rfl⟩
theorem aaz (k:Int) (nm:List UInt8) (ty:Ty) (tN eN:Nd) (a:Option Addr) (l cp:Nat) (b:Option Addr) (l2 cp2:Nat) (m:Mem) (e:∀j:Int,1<=j->j<=11->(k=j)=False):
  ay 172 [.v (.agg ⟨Sd.cs ⟨k,nm,ty,tN,eN,a,l,cp,b,l2,cp2⟩⟩)] m (.bool false):=by
 have e1:=e 1 (by decide) (by decide);have e2:=e 2 (by decide) (by decide);have e3:=e 3 (by decide) (by decide);have e4:=e 4 (by decide) (by decide);have e5:=e 5 (by decide) (by decide);have e6:=e 6 (by decide) (by decide);have e7:=e 7 (by decide) (by decide);have e8:=e 8 (by decide) (by decide);have e9:=e 9 (by decide) (by decide);have gf:=e 10 (by decide) (by decide);have jQ:=e 11 (by decide) (by decide);refine enter n7 oR Tryz.func172 rfl rfl (by kernel_rfl) rfl ?_ ?_
 ·simp only[go_sem,Sd.cs,Nd.cs]
 ·simp only[go_sem,Sd.cs,Nd.cs,e1,e2,e3,e4,e5,e6,e7,e8,e9,gf,jQ,aL]
theorem NJ {m:Mem} {e:Ex} {x:Nd} (h:ba m e x.cs):x.k=e.k/\jS x.k x.n x.s x.c x.ty x.l=mi e:=by
 cases e with
 |mk k n s c ty args=>
  obtain⟨y,hy,e1,e2,e3,e4,e5,e6,_⟩:=rZ h;rw[C2 hy,e1,e2,e3,e4,e5,e6];exact⟨rfl,rfl⟩
theorem Et:∀(h:Nat) (e:St) (cs:List Value) (m:Mem),ep e<=h->eH m e cs->ay 172 [.v (.agg ⟨cs⟩)] m (.bool (gE e))
 |0,.mk k nm ty tg ex body alt,cs,m,hd,_=>by simp [ep] at hd
 |h+1,.mk k nm ty tg ex body alt,cs,m,hd,he=>by
  obtain⟨⟨k,nm,ty,tN,eN,a,l,cp,b,l2,cp2⟩,rfl,rfl,rfl,rfl,cL,hex,hl,bb,bw,dC,av,xs,ys,r1,r2,s1,s2⟩:=rY he;simp only[ep] at hd;simp only at cL hex hl bb bw dC av r1 r2;have hB:=fun m' (hle:ak m m')=>Ew false body a l cp xs m' hl (aK hle r1) (di hle s1) (by rw[hl];exact av.l) fun e he cs m2 aX aY=>Et h e cs m2 (by have:=n8 he;omega) aY
  have hA:=fun m' (hle:ak m m')=>Ew false alt b l2 cp2 ys m' bw (aK hle r2) (di hle s2) (by rw[bw];exact av.l2) fun e he cs m2 aX aY=>Et h e cs m2 (by have:=n8 he;omega) aY
  have hS:=fun(t t2 b1 b2:Bool)=>Qf ⟨k,nm,ty,tN,eN,a,l,cp,b,l2,cp2⟩ tg ex body alt t t2 b1 b2 m (cg av.nm (by decide)) (cg av.ty.2.2 (by decide)) cL hl bw hB hA
  have hX:=fun m' (hle:ak m m')=>yZ _ ex eN.cs m' (aq _) (aU hle hex)
  have hT:=fun m' (hle:ak m m')=>yZ _ tg tN.cs m' (aq _) (aU hle cL)
  have hR:=fun m' (hle:ak m m')=>QY ex eN.cs m' (aU hle hex)
  have nt:=NJ cL;have ne:=NJ hex;rw[MO];simp only;rcases Lh (k:=k) with hk |hk
  ·rcases hk with rfl |rfl |rfl |rfl |rfl |rfl |rfl |rfl |rfl |rfl |rfl
   ·have h:=aay nm ty tN eN a l cp b l2 cp2 m _ (hS true false false false) _ hX;simp only[gk,Int.reduceEq,or_false,or_true,false_or,true_or,if_true,if_false];exact h
   ·have h:=aax nm ty tN eN a l cp b l2 cp2 m _ (hS false true false false) _ hX _ hT;rw[nt.1] at h;simp only[gk,Int.reduceEq,or_false,or_true,false_or,true_or,if_true,if_false];exact h
   ·have h:=aaw nm ty tN eN a l cp b l2 cp2 m _ (hS false false false false) _ hX;rw[ne.1] at h;simp only[gk,Int.reduceEq,or_false,or_true,false_or,true_or,if_true,if_false];exact h
   ·have h:=aav nm ty tN eN a l cp b l2 cp2 m _ (hS false false true true) _ hX;simp only[gk,Int.reduceEq,or_false,or_true,false_or,true_or,if_true,if_false];exact h
   ·have h:=aau nm ty tN eN a l cp b l2 cp2 m _ (hS false false true false) _ hX;simp only[gk,Int.reduceEq,or_false,or_true,false_or,true_or,if_true,if_false];exact h
   ·have h:=aat nm ty tN eN a l cp b l2 cp2 m _ (hS false false false false) _ hX;rw[ne.2] at h;simp only[gk,Int.reduceEq,or_false,or_true,false_or,true_or,if_true,if_false];exact h
   ·have h:=aas nm ty tN eN a l cp b l2 cp2 m _ (hS false false false false) _ hX;simp only[gk,Int.reduceEq,or_false,or_true,false_or,true_or,if_true,if_false];exact h
   ·have h:=aar nm ty tN eN a l cp b l2 cp2 m _ (hS true false true true);rw[ne.2] at h;simp only[gk,Int.reduceEq,or_false,or_true,false_or,true_or,if_true,if_false];exact h
   ·have h:=aaq nm ty tN eN a l cp b l2 cp2 m _ (hS false false true false) _ hX;simp only[gk,Int.reduceEq,or_false,or_true,false_or,true_or,if_true,if_false];exact h
   ·have h:=Yi nm ty tN eN a l cp b l2 cp2 m _ (hS false false true false);rw[ne.2] at h;simp only[gk,Int.reduceEq,or_false,or_true,false_or,true_or,if_true,if_false];exact h
   ·have h:=Yh nm ty tN eN a l cp b l2 cp2 m _ (hS false false false false) _ hR;simp only[gk,Int.reduceEq,or_false,or_true,false_or,true_or,if_true,if_false];exact h
  ·have e:∀j:Int,1<=j->j<=11->¬k=j:=fun j h1 h2 h3=>by have:=hk j h1 h2;rw[this] at h3;exact h3
   have e0:gk k nm ty tg ex body alt=false:=by
    simp only[gk,hk 1 (by decide) (by decide),hk 2 (by decide) (by decide),hk 3 (by decide) (by decide),hk 4 (by decide) (by decide),hk 5 (by decide) (by decide),hk 6 (by decide) (by decide),hk 7 (by decide) (by decide),hk 8 (by decide) (by decide),hk 9 (by decide) (by decide),hk 10 (by decide) (by decide),hk 11 (by decide) (by decide),or_false,if_false]
   rw[e0];exact aaz k nm ty tN eN a l cp b l2 cp2 m hk
theorem JN (fl:Int) (m:Mem):FnH Tryz.prog 173 [.v (.int .i64 fl)] ⟨[],[]⟩ m fun r H' _=>r= .v (.bool (jU fl))/\H' =⟨[],[]⟩:=by
 refine aH aw Tryz.func173 ?_
 ·simp only[go_sem];rfl
theorem EL (fl al:Int) (m:Mem):FnH Tryz.prog 109 [.v (.int .i64 fl),.v (.int .i64 al)] ⟨[],[]⟩ m fun r H' _=>r= .v (.bool (j6 fl al))/\H' =⟨[],[]⟩:=by
 refine aH aw Tryz.func109 ?_
 ·simp only[go_sem];rfl
def sb (fl:Int):Bool:=j6 fl 1087&&jU fl&&(!hasB fl 32|| !hasB fl 8)&&(!hasB fl 1024|| !hasB fl 58)
theorem R6 {fl:Int} (hI:ax fl):sb fl=oh fl:=by
 have e:j6 fl 1087=iP fl 1087:=zw (al:=1087) hI (by decide);rw[sb,e,oh,Bool.not_and];cases jU fl<;>cases iP fl 1087<;>simp [Bool.and_comm]
abbrev PA:Cfg:=fh (fun _=>false) [(109,uP j6),(173,uQ jU),(163,eB BL fun s=> .bool (dZ s)),(164,qD gg),(107,eB BL fun s=> .bool (dz s))]
theorem OH:cd PA Tryz.prog:=pure_cons (by kernel_rfl) (zU EL) (pure_cons (by kernel_rfl) (zV JN) (pure_cons (by kernel_rfl) (ff BO) (pure_cons (by kernel_rfl) (tS Es) (pure_cons (by kernel_rfl) (ff xd) pure_nil))))
theorem Qi (f:Fc) (m:Mem) (h:FcOk f):ay 110 [.v (.agg ⟨f.cs⟩)] m (.bool (nu f)):=by
 have h1:BL f.name:=cg h.name (by decide);have h2:BL f.ty.name:=cg h.ty.2.2 (by decide);have h3:nu f=(j6 f.fl 31&&jU f.fl&&gg f.ty.dim f.ty.base f.ty.name&&dZ f.name):=by
  have e:j6 f.fl 31=iP f.fl 31:=zw (al:=31) h.fl (by decide);rw[e,nu];cases gg f.ty.dim f.ty.base f.ty.name<;>cases dZ f.name<;>cases jU f.fl<;>simp
 rw[h3];refine enter PA OH Tryz.func110 rfl rfl (by kernel_rfl) rfl ?_ ?_
 ·simp only[go_sem,Fc.cs]
 ·simp only[go_sem,Fc.cs];exact⟨fun _=>h2,fun _=>h1⟩
theorem Qh (fl:Int) (m:Mem):FnH Tryz.prog 174 [.v (.int .i64 fl)] ⟨[],[]⟩ m fun r H' _=>r= .v (.bool (sb fl))/\H' =⟨[],[]⟩:=by
 refine aH OH Tryz.func174 ?_
 ·simp only[go_sem];refine⟨fun h=> ?_,fun h=> ?_⟩
  ·rcases h with (h |h) |h
   ·simp [sb,h]
   ·simp [sb,h]
   ·simp [sb,hasB,h.1,h.2]
  ·rw[sb,h.1.1,h.1.2];rcases h.2 with g |g<;>simp [hasB,g]
def ng (d:Md) (i:Bool):Bool:=jb d&& !(i&&s9 d)
abbrev Ot:Cfg:=fh (fun _=>false) [(109,uP j6),(173,uQ jU),(163,eB BL fun s=> .bool (dZ s)),(164,qD gg),(174,uQ sb)]
theorem N7:cd Ot Tryz.prog:=pure_cons (by kernel_rfl) (zU EL) (pure_cons (by kernel_rfl) (zV JN) (pure_cons (by kernel_rfl) (ff BO) (pure_cons (by kernel_rfl) (tS Es) (pure_cons (by kernel_rfl) (zV Qh) pure_nil))))
theorem xL {α:Type} (p:α->Bool):∀(l:List α),l.all p= !(l.any fun x=> !p x)
 |[]=>rfl
 |a::l=>by rw[List.all_cons,List.any_cons,Bool.not_or,Bool.not_not,xL p l]
theorem zB {α:Type} {p:α->Bool} {l:List α} {k:Nat} (hk:k<l.length):(l.take (k+1)).all p=((l.take k).all p&&p l[k]):=by
 rw[List.take_succ_eq_append_getElem hk,List.all_append];simp
theorem Aa {α:Type} {p:α->Bool} {l:List α} {k:Nat} (hk:k<l.length) (h:p l[k]=false):l.all p=false:=by
 rw[List.all_eq_false];exact⟨_,List.getElem_mem hk,by rw[h];decide⟩
theorem Jk (sup:Bool) (l:List St) (a:Option Addr) (n c:Nat) (xs:List Value) (m:Mem) (hl:n=l.length) (hr:aM m a n 23 xs) (hs:bj m l xs) (hn:n<=az):
  ay 108 [.v (.slice a n c),.v (.bool sup)] m (.bool (eU sup l)):=
 Ew sup l a n c xs m hl hr hs hn fun e _ cs m' _ he=>Et _ e cs m' (aq _) he
theorem Jr {d:Md} {i:Bool} (hI:ax d.fl) (hp:d.params.all lD=true):ng d i=(decide (d.params.length<=16)&&(d.hb||decide (d.body.length=0))&&eU (decide (d.name=ei)) d.body&&
  (if d.name=ei then !i&&qY d.res&&d.hb&&j6 d.fl 7&&jU d.fl else((!i||decide (d.fl=1))||decide (d.fl=1025))&&(dZ d.name&&(qY d.res||gg d.res.dim d.res.base d.res.name)&&sb d.fl&&(d.hb==decide (bits .and .i64 d.fl 1024=0))))):=by
 have e0:(d.params.any fun p=> !lD p)=false:=by
  have:=xL lD d.params;rw[hp] at this;cases h:d.params.any fun p=> !lD p with
  |false=>rfl
  |true=>rw[h] at this;cases this
 rw[ng,jb,qe,ry,e0,s9];by_cases hn:d.name=ei
 ·have e7:j6 d.fl 7=iP d.fl 7:=zw (al:=7) hI (by decide);rw[ah hn,ah hn,bO hn,e7];cases ho:iP d.fl 7 with
  |false=>simp
  |true=>
   obtain⟨q1,q2⟩:=XM hI ho;rw[q1,q2];generalize decide (d.params.length<=16)=w1
   generalize decide (d.body.length=0)=w2
   generalize eU true d.body=w3
   generalize qY d.res=w4
   generalize jU d.fl=w5
   cases d.hb<;>cases i<;>cases w1<;>cases w2<;>cases w3<;>cases w4<;>cases w5<;>simp
 ·rw[ae hn,ae hn,bg hn,R6 hI,hasB];generalize decide (d.params.length<=16)=w1
  generalize decide (d.body.length=0)=w2
  generalize eU false d.body=w3
  generalize (dZ d.name&&(qY d.res||gg d.res.dim d.res.base d.res.name))=w4
  generalize oh d.fl=w5
  generalize decide (bits .and .i64 d.fl 1024=0)=w6
  generalize decide (d.fl=1)=w7
  generalize decide (d.fl=1025)=w8
  cases d.hb<;>cases i<;>cases w1<;>cases w2<;>cases w3<;>cases w4<;>cases w5<;>cases w6<;>cases w7<;>cases w8<;>rfl
theorem PW {d:Md} {i:Bool} {k:Nat} (hk:k<d.params.length) (h:lD d.params[k]=false):ng d i=false:=by
 have e0:=xL lD d.params;rw[Aa hk h] at e0;rw[ng,jb,<- e0];simp
theorem PX {d:Md} {i:Bool} (h:eU (decide (d.name=ei)) d.body=false):ng d i=false:=by
 rw[ng,jb,h];simp
theorem P2 (d:Md) (i:Bool) (cs:List Value) (m:Mem) (h:iD m d cs):ay 111 [.v (.agg ⟨cs⟩),.v (.bool i)] m (.bool (ng d i)):=by
 obtain⟨fl,res,name,params,hb,body⟩:=d;obtain⟨x,⟨rfl,rfl,rfl,rfl,rfl⟩,⟨km,yG,hl,bb⟩,av,r1,xs,r2,s2⟩:=h;simp only at km hl r1 s2;have h1:BL x.name:=cg av.name (by decide);have h2:BL x.res.name:=cg av.res.2.2 (by decide);have bp:x.pl<=az:=by rw[km];exact av.pl
 have uW:∀p∈params,BL p.name/\BL p.ty.name:=fun p hp=>⟨cg (av.ps p hp).name (by decide),cg (av.ps p hp).ty.2.2 (by decide)⟩
 have hB:=Jk (decide (x.name=ei)) body x.a x.l x.cp xs m hl r2 s2 (by rw[hl];exact av.l);have hI:ax x.fl:=av.fl;clear s2;refine enter Ot N7 Tryz.func111 rfl rfl (by kernel_rfl) rfl ?_ ?_
 ·simp only[go_sem,Mc.cs]
 ·simp only[go_sem,Mc.cs];refine fy N7 (fun y:Nat=>⟨[⟨1,[],.v (.bool i)⟩,⟨2,[],.box 0 0⟩,⟨5,[],.v (.int .i64 y)⟩],[],[⟨0,98,x.cs.map .v⟩],[],1,m⟩)
    (fun y=>y<=x.pl/\(params.take y).all lD=true) (fun y=>x.pl - y) 0 (by kernel_rfl) (fun _ _=>aq _) (fun y hy=> .inl rfl) (fun _=> ?_) ?_ ?_ ?_
  ·simp only[go_sem,Mc.cs]
  ·simp only[go_sem,Mc.cs];rfl
  ·exact⟨au _,rfl⟩
  ·rintro k ⟨g2,g3⟩;have hy:∀(hk:k<params.length),(Rd m (cI x.pa (k * 4)) (params[k]).cs/\x.pa≠none)/\BL params[k].name/\BL params[k].ty.name:=fun hk=>by
    have q1:=ed r1 (by omega:k<x.pl);rw[vB (f:=Pc.cs) (sz:=4) (fun _=>rfl) hk] at q1;exact⟨q1,uW _ (List.getElem_mem hk)⟩
   simp only[go_sem,Mc.cs];refine⟨fun ao=> ?_,fun cA=>⟨qi,fun c=>ab (hB.mono ?_),fun c=> ?_⟩⟩
   ·have hk:k<params.length:=by clear hB;omega
    have bc:=hy hk;clear hy hB;refine⟨⟨by omega,ao,bc.1.2⟩,kS bc.1.1,[.int .i64 params[k].ty.dim,.int .u8 params[k].ty.base,.string (bs params[k].ty.name)],⟨je bc.1.1 0 3 (dO rfl),rfl⟩,?_⟩;simp only[go_sem,Mc.cs,Pc.cs];refine⟨bc.2.2,fun _=>⟨by omega,ao,bc.1.2⟩,fun _=>kS bc.1.1,.string (bs params[k].name),fun _=>je bc.1.1 3 1 (dO rfl),?_⟩;have hBn:=bc.2.1;clear bc;have bz:=PW (d:=⟨x.fl,x.res,x.name,params,x.hb,body⟩) (i:=i) hk;simp only[lD] at bz;simp only[go_sem,Mc.cs,Pc.cs];refine⟨fun _=>hBn,fun hf=>(bz ?_).symm,fun ht=>⟨by unfold ax;simp only[az] at bp;omega,k+1,by simp,⟨by omega,?_⟩,by omega⟩⟩
    ·rcases hf with h |h<;>simp [h]
    ·rw[zB hk,g3,lD,ht.1,ht.2];rfl
   ·clear hB;have eP:params.take k=params:=fH (by omega);rw[eP] at g3;have hE:=Jr (d:=⟨x.fl,x.res,x.name,params,x.hb,body⟩) (i:=i) hI g3;have bz:=PX (d:=⟨x.fl,x.res,x.name,params,x.hb,body⟩) (i:=i);simp only at hE bz;rw[bO (by omega:params.length<=16),(by rcases c.2 with h |h;rw[h];rfl;rw[bO (by omega:body.length=0),Bool.or_true]:(x.hb||decide (body.length=0))=true),Bool.true_and,Bool.true_and] at hE;rintro r H' m2 aG ⟨l2,rfl,rfl⟩;simp only[go_sem,Mc.cs];refine⟨fun hb=>⟨l2,(bz hb).symm⟩,fun hb=> ?_⟩;rw[hb,Bool.true_and] at hE;refine⟨fun hn=>⟨l2,?_⟩,fun hn=>⟨fun hc=>⟨l2,?_⟩,fun hc=>⟨h1,fun _=>h2,by kernel_rfl,l2,?_⟩⟩⟩
    ·have yJ:x.name=ei:=hn;rw[hE,ah yJ];rfl
    ·have yJ:¬x.name=ei:=hn;rw[hE,ae yJ];simp [hc]
    ·have yJ:¬x.name=ei:=hn;rw[hE,ae yJ];have e:((!i||decide (x.fl=1))||decide (x.fl=1025))=true:=by
      rcases hc with (h |h) |h<;>simp [h]
     rw[e,Bool.true_and];rfl
   ·clear hB;have eP:params.take k=params:=fH (by omega);rw[eP] at g3;have hE:=Jr (d:=⟨x.fl,x.res,x.name,params,x.hb,body⟩) (i:=i) hI g3;simp only at hE;rw[hE];rcases c with h |h
    ·rw[bg (by omega:¬params.length<=16)];rfl
    ·rw[h.1,bg (by omega:¬body.length=0)];simp
def Nb (d:Cd):Bool:=j6 d.fl 1537&&hasB d.fl 1024&&decide (d.fields.length=0)&&decide (d.init.length=0)&&decide (d.super=jX)
def MS (d:Cd):Bool:=j6 d.fl 1041&& !(hasB d.fl 16&&hasB d.fl 1024)
def As (d:Cd):Bool:=if hasB d.fl 512=true then Nb d else MS d
def xX (d:Cd):Bool:=mu d&&oK d
def C8 (d:Cd):Bool:=xX d&&eU false d.init&&As d&&d.ifs.all dz&&d.fields.all nu&&d.methods.all fun e=>ng e (hasB d.fl 512)
theorem LB (i:Bool):∀(l:List Md),(l.all fun e=>ng e i)=(l.all jb&& !(i&&l.any s9))
 |[]=>by simp
 |e::r=>by
  rw[List.all_cons,List.all_cons,List.any_cons,LB i r,ng];cases jb e<;>cases i<;>cases s9 e<;>simp
theorem UF (d:Cd) (hI:ax d.fl):C8 d=nz d:=by
 have e1:j6 d.fl 1537=iP d.fl 1537:=zw (al:=1537) hI (by decide);have e2:j6 d.fl 1041=iP d.fl 1041:=zw (al:=1041) hI (by decide);have e3:decide (d.fields.length+d.init.length=0)=(decide (d.fields.length=0)&&decide (d.init.length=0)):=by
  rw[<- Bool.decide_and,decide_eq_decide];omega
 rw[C8,LB,nz,rn,As,xX,Nb,MS,C3,e1,e2,e3,xL dz,xL nu,xL jb];generalize mu d=q1
 generalize oK d=q2
 generalize eU false d.init=q3
 generalize iP d.fl 1537=q4
 generalize iP d.fl 1041=q5
 generalize (d.ifs.any fun x=> !dz x)=q6
 generalize (d.fields.any fun x=> !nu x)=q7
 generalize (d.methods.any fun x=> !jb x)=q8
 generalize d.methods.any s9=q9
 generalize hasB d.fl 1024=w1
 generalize decide (d.fields.length=0)=w2
 generalize decide (d.init.length=0)=w3
 generalize decide (d.super=jX)=w4
 cases hasB d.fl 512
 ·simp only[Bool.false_and,Bool.not_false,Bool.and_true,Bool.false_eq_true,if_false];generalize hasB d.fl 16=w5
  cases q1<;>cases q2<;>cases q3<;>cases q5<;>cases q6<;>cases q7<;>cases q8<;>simp
 ·simp only[Bool.true_and,if_true];cases q1<;>cases q2<;>cases q3<;>cases q4<;>cases q6<;>cases q7<;>cases q8<;>cases q9<;>cases w2<;>cases w3<;>simp
abbrev Ou:Cfg:=fh (fun _=>false) [(109,uP j6),(107,eB BL fun s=> .bool (dz s))]
theorem Ds:cd Ou Tryz.prog:=pure_cons (by kernel_rfl) (zU EL) (pure_cons (by kernel_rfl) (ff xd) pure_nil)
set_option maxHeartbeats 8000000 in
theorem Qk (d:Cd) (cs:List Value) (m:Mem) (h:lK m d cs):ay 42 [.v (.agg ⟨cs⟩)] m (.bool (C8 d)):=by
 obtain⟨fl,name,super,ifs,fields,methods,init⟩:=d;obtain⟨x,⟨rfl,rfl,rfl,rfl⟩,⟨dJ,hic,gm,hfc,hml,hmc,ga,hsc⟩,av,r1,r2,xs,ys,r3,s3,r4,s4⟩:=h;simp only at dJ gm hml ga r1 r2 r3 s3 r4 s4;have h1:BL x.name:=cg av.name (by decide);have h2:BL x.super:=cg av.super (by decide);have b0:x.il<=az:=by rw[dJ];exact av.il
 have b1:x.fn<=az:=by rw[gm];exact av.fn
 have b2:x.ml<=az:=by rw[hml];exact av.ml
 have hB:=Jk false init x.sa x.sl x.sc ys m ga r4 s4 (by rw[ga];exact av.l);have y0:∀m',ak m m' ->∀i (hk:i<ifs.length),(Rd m' (cI x.ia i) [.string (bs ifs[i])]/\x.ia≠none)/\BL ifs[i]:=fun m' hle i hk=>⟨F0 (aK hle r1) hk,cg (av.ifs _ (List.getElem_mem hk)) (by decide)⟩
 have y1:∀m',ak m m' ->∀i (hk:i<fields.length),(Rd m' (cI x.fa (i * 5)) (fields[i]).cs/\x.fa≠none)/\ay 110 [.v (.agg ⟨(fields[i]).cs⟩)] m' (.bool (nu fields[i])):=fun m' hle i hk=>by
  have:=ed (aK hle r2) (by omega:i<x.fn);rw[vB (f:=Fc.cs) (sz:=5) (fun _=>rfl) hk] at this;exact⟨this,Qi _ m' (av.fs _ (List.getElem_mem hk))⟩
 have y2:∀m',ak m m' ->∀i (hk:i<methods.length),∃X:Mc,(Rd m' (cI x.ma (i * 8)) X.cs/\x.ma≠none)/\∀b,ay 111 [.v (.agg ⟨X.cs⟩),.v (.bool b)] m' (.bool (ng methods[i] b)):=fun m' hle i hk=>by
  have aY:=tI hle (sD s3 hk);have bP:=ed (aK hle r3) (by omega:i<x.ml);obtain⟨X,e1⟩:=FJ aY;rw[e1] at bP aY;exact⟨X,bP,fun b=>P2 _ b _ m' aY⟩
 clear s3 s4;have hX:C8 ⟨x.fl,x.name,x.super,ifs,fields,methods,init⟩=(xX ⟨x.fl,x.name,x.super,ifs,fields,methods,init⟩&&eU false init&&As ⟨x.fl,x.name,x.super,ifs,fields,methods,init⟩&&ifs.all dz&&fields.all nu&&methods.all fun e=>ng e (hasB x.fl 512)):=rfl;have hN:xX ⟨x.fl,x.name,x.super,ifs,fields,methods,init⟩=(dz x.name&&dz x.super&&decide (x.il<=8)&&decide (x.fn<=64)&&decide (x.ml<=64)):=by
  rw[xX,mu,oK,dJ,gm,hml];simp only[Bool.and_assoc]
 refine enter Ou Ds Tryz.func42 rfl rfl (by kernel_rfl) rfl ?_ ?_
 ·simp only[go_sem,Cc.cs]
 ·simp only[go_sem,Cc.cs];refine⟨h1,fun _=>h2,fun hc=>ab (hB.mono ?_),fun hc=> ?_⟩
  ·clear hB;have Ph:xX ⟨x.fl,x.name,x.super,ifs,fields,methods,init⟩=true:=by
    rw[hN];simp only[cO,gA];exact⟨⟨⟨hc.1.1.1,by omega⟩,by omega⟩,by omega⟩
   rw[Ph,Bool.true_and] at hX;clear hN Ph;rintro r H' m1 aJ ⟨l1,rfl,rfl⟩;simp only[go_sem,Cc.cs];have tj:hasB x.fl 512= !decide (bits .and .i64 x.fl 512=0):=rfl;have AI:hasB x.fl 1024= !decide (bits .and .i64 x.fl 1024=0):=rfl;have rK:hasB x.fl 16= !decide (bits .and .i64 x.fl 16=0):=rfl;have hH:As ⟨x.fl,x.name,x.super,ifs,fields,methods,init⟩=(if hasB x.fl 512=true then(j6 x.fl 1537&&hasB x.fl 1024&&decide (fields.length=0)&&decide (init.length=0)&&decide (x.super=jX)) else(j6 x.fl 1041&& !(hasB x.fl 16&&hasB x.fl 1024))):=rfl;refine⟨fun b=>⟨l1,?_⟩,fun b=>⟨fun c1=>⟨l1,?_⟩,fun c1=>⟨fun c2=>⟨l1,?_⟩,fun c2=> ?_⟩⟩⟩
   ·rw[hX,b];simp
   ·rw[bg c1.1,Bool.not_false] at tj;rw[hX,hH,ah tj];rcases c1.2 with (((h |h) |h) |h) |h
    ·simp [h]
    ·simp [AI,h]
    ·rw[bg (by clear y0 y1 y2;omega:¬fields.length=0)];simp
    ·rw[bg (by clear y0 y1 y2;omega:¬init.length=0)];simp
    ·have h' :¬x.super=jX:=h;rw[bg h'];simp
   ·rw[bO c2.1,Bool.not_true] at tj;rw[hX,hH,ae (Bool.eq_false_iff.1 tj)];rcases c2.2 with h |h
    ·simp [h]
    ·rw[rK,AI,bg h.1,bg h.2];simp
   ·have Pm:As ⟨x.fl,x.name,x.super,ifs,fields,methods,init⟩=true:=by
     rw[hH];by_cases h5:bits .and .i64 x.fl 512=0
     ·rw[bO h5,Bool.not_true] at tj;rw[ae (Bool.eq_false_iff.1 tj)];rcases c2 with h |h
      ·exact absurd h5 h
      ·rw[h.1,rK,AI];rcases h.2 with g |g<;>simp [g]
     ·rw[bg h5,Bool.not_false] at tj;rw[ah tj];rcases c1 with h |h
      ·exact absurd h h5
      ·have h' :x.super=jX:=h.2;rw[h.1.1.1.1,AI,bg h.1.1.1.2,bO h',bO (by clear y0 y1 y2;omega:fields.length=0),bO (by clear y0 y1 y2;omega:init.length=0)];rfl
    rw[b,Pm,Bool.true_and,Bool.true_and] at hX;clear hH Pm AI rK tj c1 c2 hc;refine fy Ds (fun y:Nat×Mem=>⟨[⟨1,[],.box 0 0⟩,⟨3,[],.v (.bool (hasB x.fl 512))⟩,⟨4,[],.v (.int .i64 y.1)⟩],[],[⟨0,59,x.cs.map .v⟩],[],1,y.2⟩)
     (fun y=>ak m1 y.2/\y.1<=x.il/\(ifs.take y.1).all dz=true) (fun y=>x.il - y.1) (0,m1) (by kernel_rfl) (fun _ _=>aq _) (fun y hy=> ?_) (fun _=> ?_) ?_ ?_ ?_
    ·exact hy.1
    ·simp only[go_sem,Cc.cs]
    ·simp only[go_sem,Cc.cs];exact⟨rfl,rfl⟩
    ·exact⟨.inl rfl,au _,rfl⟩
    ·rintro⟨k,m2⟩ ⟨g1,g2,g3⟩;simp only at g1 g2 g3;have k2:=aa l1 g1;simp only[go_sem,Cc.cs];refine⟨fun ao=> ?_,fun cA=> ?_⟩
     ·have hk:k<ifs.length:=by clear y0 y1 y2;omega
      have hy:=y0 m2 k2 k hk;clear y0 y1 y2;refine⟨⟨by omega,ao,hy.1.2⟩,_,hy.1.1,?_⟩;have hBs:=hy.2;clear hy;simp only[go_sem,Cc.cs];refine⟨hBs,fun hf=>⟨k2,?_⟩,fun ht=>⟨by unfold ax;simp only[az] at b0;omega,(k+1,m2),⟨by simp,.inl rfl⟩,⟨g1,by simp only;omega,?_⟩,by simp only;omega⟩⟩
      ·rw[hX,Aa hk hf];simp
      ·simp only;rw[zB hk,g3,ht];rfl
     ·have eP:ifs.take k=ifs:=fH (by clear y0 y1 y2;omega);rw[eP] at g3;rw[g3,Bool.true_and] at hX;clear g3 eP;refine fy Ds (fun y:Nat×Mem=>⟨[⟨1,[],.box 0 0⟩,⟨3,[],.v (.bool (hasB x.fl 512))⟩,⟨5,[],.v (.int .i64 y.1)⟩],[],[⟨0,59,x.cs.map .v⟩],[],1,y.2⟩)
       (fun y=>ak m2 y.2/\y.1<=x.fn/\(fields.take y.1).all nu=true) (fun y=>x.fn - y.1) (0,m2) (by kernel_rfl) (fun _ _=>aq _) (fun y hy=> ?_) (fun _=> ?_) ?_ ?_ ?_
      ·exact hy.1
      ·simp only[go_sem,Cc.cs]
      ·simp only[go_sem,Cc.cs];rfl
      ·exact⟨.inl rfl,au _,rfl⟩
      ·rintro⟨k,m3⟩ ⟨g1,g2,g3⟩;simp only at g1 g2 g3;have k3:=aa k2 g1;simp only[go_sem,Cc.cs];refine⟨fun ao=> ?_,fun cA=> ?_⟩
       ·have hk:k<fields.length:=by clear y0 y1 y2;omega
        have hy:=y1 m3 k3 k hk;clear y0 y1 y2;refine⟨⟨by clear hy;omega,ao,hy.1.2⟩,(fields[k]).cs,⟨hy.1.1,rfl⟩,?_⟩;have ha:=hy.2;clear hy;simp only[go_sem,Cc.cs,Fc.cs];refine ab ((aS ha (fun V=>rfl)).mono ?_);clear ha;rintro r H' m5 b9 ⟨l5,rfl,rfl⟩;simp only[go_sem,Cc.cs];refine⟨fun hf=>⟨aa k3 l5,?_⟩,fun ht=>⟨by unfold ax;simp only[az] at b1;omega,(k+1,m5),⟨by simp,.inl rfl⟩,⟨aa g1 l5,by simp only;omega,?_⟩,by simp only;omega⟩⟩
        ·rw[hX,Aa hk hf];simp
        ·simp only;rw[zB hk,g3,ht];rfl
       ·have eP:fields.take k=fields:=fH (by clear y0 y1 y2;omega);rw[eP] at g3;rw[g3,Bool.true_and] at hX;clear g3 eP;refine fy Ds (fun y:Nat×Mem=>⟨[⟨1,[],.box 0 0⟩,⟨3,[],.v (.bool (hasB x.fl 512))⟩,⟨6,[],.v (.int .i64 y.1)⟩],[],[⟨0,59,x.cs.map .v⟩],[],1,y.2⟩)
         (fun y=>ak m3 y.2/\y.1<=x.ml/\(methods.take y.1).all (fun e=>ng e (hasB x.fl 512))=true) (fun y=>x.ml - y.1) (0,m3) (by kernel_rfl) (fun _ _=>aq _) (fun y hy=> ?_) (fun _=> ?_) ?_ ?_ ?_
        ·exact hy.1
        ·simp only[go_sem,Cc.cs]
        ·simp only[go_sem,Cc.cs];rfl
        ·exact⟨.inl rfl,au _,rfl⟩
        ·rintro⟨k,m4⟩ ⟨g1,g2,g3⟩;simp only at g1 g2 g3;have k4:=aa k3 g1;simp only[go_sem,Cc.cs];refine⟨fun ao=> ?_,fun cA=> ?_⟩
         ·have hk:k<methods.length:=by clear y0 y1 y2;omega
          have hy:=y2 m4 k4 k hk;clear y0 y1 y2;refine Exists.elim hy fun X jo=>⟨⟨by clear hy jo;omega,ao,jo.1.2⟩,X.cs,⟨jo.1.1,rfl⟩,?_⟩
          have ha:=jo.2 (hasB x.fl 512);clear hy jo;simp only[go_sem,Cc.cs,Mc.cs];refine ab ((aS ha (fun V=>rfl)).mono ?_);clear ha;rintro r H' m5 b9 ⟨l5,rfl,rfl⟩;simp only[go_sem,Cc.cs];refine⟨fun hf=>⟨aa k4 l5,?_⟩,fun ht=>⟨by unfold ax;simp only[az] at b2;omega,(k+1,m5),⟨by simp,.inl rfl⟩,⟨aa g1 l5,by simp only;omega,?_⟩,by simp only;omega⟩⟩
          ·rw[hX];exact(Aa (p:=(fun e=>ng e (hasB x.fl 512))) hk hf).symm
          ·simp only;rw[zB hk,g3,ht];rfl
         ·have eP:methods.take k=methods:=fH (by clear y0 y1 y2;omega);rw[eP] at g3;exact⟨k4,by rw[hX];exact g3.symm⟩
  ·clear hB;rw[hX,hN];rcases hc with (((h |h) |h) |h) |h
   ·simp [h]
   ·simp [h]
   ·rw[bg (by omega:¬x.il<=8)];simp
   ·rw[bg (by omega:¬x.fn<=64)];simp
   ·rw[bg (by omega:¬x.ml<=64)];simp
mutual
def mB:St->Nat
 | .mk k _ _ tg ex body alt=>max (max (if k=11 then bq ex - 1 else max (bq tg) (bq ex)) (eg body)) (eg alt)
def eg:List St->Nat
 |[]=>0
 |e::r=>max (mB e) (eg r)
end
theorem xg:∀{l:List St} {k:Nat} (hk:k<l.length),eg (l.take (k+1))=max (eg (l.take k)) (mB l[k])
 |[],_,hk=>absurd hk (Nat.not_lt_zero _)
 |e::r,0,_=>by simp [eg]
 |e::r,k+1,hk=>by
  have:=xg (l:=r) (k:=k) (by simpa using hk);simp only[List.take_succ_cons,eg,this,List.getElem_cons_succ,Nat.max_assoc]
theorem xT {f:FuncId} {g:St->Value} {l:List St} {a:Option Addr} {n:Nat} {xs:List Value} {m:Mem} (hl:n=l.length) (hr:aM m a n 23 xs) (hs:bj m l xs)
  (ih:∀e∈l,∀cs m',ak m m' ->eH m' e cs->ay f [.v (.agg ⟨cs⟩)] m' (g e)) (mm:Mem) (hle:ak m mm) (k:Nat) (hk:k<l.length):
  ∃X:Sd,(Rd mm (cI a (k * 23)) X.cs/\a≠none)/\∀m2,ak mm m2->ay f [.v (.agg ⟨X.cs⟩)] m2 (g l[k]):=by
 have aY:=rW hle (p7 hs hk);obtain⟨X,e1⟩:=FB aY;have r1:=ed (aK hle hr) (by omega:k<n);rw[e1] at r1 aY;exact⟨X,r1,fun m2 h2=>ih _ (List.getElem_mem hk) _ _ (aa hle h2) (rW h2 aY)⟩
theorem EK:∀(h:Nat) (e:St) (cs:List Value) (m:Mem),ep e<=h->h<=az->eH m e cs->ay 175 [.v (.agg ⟨cs⟩)] m (.int .i64 (ep e))
 |0,.mk k nm ty tg ex body alt,cs,m,hd,_,_=>by simp [ep] at hd
 |h+1,.mk k nm ty tg ex body alt,cs,m,hd,hb,he=>by
  obtain⟨X,rfl,rfl,rfl,rfl,cL,hex,hl,bb,bw,dC,av,xs,ys,r1,r2,s1,s2⟩:=rY he;simp only[ep] at hd;have bn:X.l<=az:=by rw[hl];exact av.l
  have Ee:X.l2<=az:=by rw[bw];exact av.l2
  have hB:=xT (g:=fun e=> .int .i64 (ep e)) hl r1 s1 fun e he cs m2 aX aY=>EK h e cs m2 (by have:=n8 he;omega) (by omega) aY
  have hA:=xT (g:=fun e=> .int .i64 (ep e)) bw r2 s2 fun e he cs m2 aX aY=>EK h e cs m2 (by have:=n8 he;omega) (by omega) aY
  refine enter gp aw Tryz.func175 rfl rfl (by kernel_rfl) rfl ?_ ?_
  ·simp only[go_sem,Sd.cs,Nd.cs]
  ·simp only[go_sem,Sd.cs,Nd.cs];refine fy aw (fun x:Nat×Mem=>⟨[⟨1,[],.box 0 0⟩,⟨3,[],.v (.int .i64 (cH (body.take x.1)))⟩,⟨4,[],.v (.int .i64 x.1)⟩],[],[⟨0,73,(X.cs).map .v⟩],[],1,x.2⟩)
    (fun x=>ak m x.2/\x.1<=X.l) (fun x=>X.l - x.1) (0,m) (by kernel_rfl) (fun _ _=>aq _) (fun x hx=>hx.1) (fun _=> ?_) ?_ ?_ ?_
   ·simp only[go_sem,Sd.cs,Nd.cs]
   ·simp only[go_sem,Sd.cs,Nd.cs];exact⟨rfl,rfl⟩
   ·exact⟨.inl rfl,au _⟩
   ·rintro⟨i,mm⟩ ⟨h1,h2⟩;simp only at h1 h2;simp only[go_sem,Sd.cs,Nd.cs];refine⟨fun ao=> ?_,fun cA=> ?_⟩
    ·have hi:i<body.length:=by clear hA hB;omega
     clear hA;refine Exists.elim (hB mm h1 i hi) fun Y hY=>⟨⟨by clear hB hY;omega,ao,hY.1.2⟩,Y.cs,⟨hY.1.1,rfl⟩,?_⟩
     clear hB;have ha:=hY.2 mm (.inl rfl);clear hY;simp only[go_sem,Sd.cs,Nd.cs];refine ab ((aS ha (fun V=>rfl)).mono ?_);clear ha;rintro r H' m2 aG ⟨aX,rfl,rfl⟩;simp only[go_sem,Sd.cs,Nd.cs];have iZ:=yT hi;refine⟨by unfold ax;simp only[az] at bn;omega,(i+1,m2),⟨⟨?_,by simp⟩,.inl rfl⟩,⟨aa h1 aX,by simp only;omega⟩,by simp only;omega⟩;simp only;rw[iZ];split<;>omega
    ·clear hB;have e0:body.take i=body:=fH (by clear hA;omega);rw[e0];refine fy aw (fun x:Nat×Nat×Mem=>⟨[⟨1,[],.box 0 0⟩,⟨3,[],.v (.int .i64 x.2.1)⟩,⟨5,[],.v (.int .i64 x.1)⟩],[],[⟨0,73,(X.cs).map .v⟩],[],1,x.2.2⟩)
      (fun x=>ak mm x.2.2/\x.1<=X.l2/\x.2.1=max (cH body) (cH (alt.take x.1))) (fun x=>X.l2 - x.1) (0,cH body,mm) (by kernel_rfl) (fun _ _=>aq _) (fun x hx=> ?_) (fun _=> ?_) ?_ ?_ ?_
     ·exact hx.1
     ·simp only[go_sem,Sd.cs,Nd.cs]
     ·simp only[go_sem,Sd.cs,Nd.cs];rfl
     ·exact⟨.inl rfl,au _,by simp only[List.take_zero,cH,Nat.max_zero]⟩
     ·rintro⟨j,v,mj⟩ ⟨h3,h4,h5⟩;simp only at h3 h4 h5;simp only[go_sem,Sd.cs,Nd.cs];refine⟨fun ao=> ?_,fun cA=> ?_⟩
      ·have hi:j<alt.length:=by clear hA;omega
       refine Exists.elim (hA mj (aa h1 h3) j hi) fun Y hY=>⟨⟨by clear hA hY;omega,ao,hY.1.2⟩,Y.cs,⟨hY.1.1,rfl⟩,?_⟩
       clear hA;have ha:=hY.2 mj (.inl rfl);clear hY;simp only[go_sem,Sd.cs,Nd.cs];refine ab ((aS ha (fun V=>rfl)).mono ?_);clear ha;rintro r H' m2 aG ⟨aX,rfl,rfl⟩;simp only[go_sem,Sd.cs,Nd.cs];have iZ:=yT hi;refine⟨by unfold ax;simp only[az] at Ee;omega,(j+1,max v (ep alt[j]),m2),⟨⟨?_,by simp⟩,.inl rfl⟩,⟨aa h3 aX,by simp only;omega,by simp only;rw[iZ,h5];exact Nat.max_assoc _ _ _⟩,by simp only;omega⟩;simp only;split<;>omega
      ·clear hA;have e1:alt.take j=alt:=fH (by omega);rw[e1] at h5;simp only[ep];exact⟨by unfold ax;simp only[az] at hb;omega,aa h1 h3,by omega⟩
theorem EW:∀(h:Nat) (e:St) (cs:List Value) (m:Mem),ep e<=h->iO e<=az->eH m e cs->ay 176 [.v (.agg ⟨cs⟩)] m (.int .i64 (mB e))
 |0,.mk k nm ty tg ex body alt,cs,m,hd,_,_=>by simp [ep] at hd
 |h+1,.mk k nm ty tg ex body alt,cs,m,hd,hb,he=>by
  obtain⟨X,rfl,rfl,rfl,rfl,cL,hex,hl,bb,bw,dC,av,xs,ys,r1,r2,s1,s2⟩:=rY he;simp only[ep] at hd;simp only[iO] at hb;have z1:=vm tg;have z2:=vm ex;have hT:=fun m2 (hle:ak m m2)=>BU _ tg X.tg.cs m2 (aq _) (by omega) (aU hle cL)
  have hE:=fun m2 (hle:ak m m2)=>BU _ ex X.ex.cs m2 (aq _) (by omega) (aU hle hex)
  have bn:X.l<=az:=by rw[hl];exact av.l
  have Ee:X.l2<=az:=by rw[bw];exact av.l2
  have hB:=xT (g:=fun e=> .int .i64 (mB e)) hl r1 s1 fun e he cs m2 aX aY=>EW h e cs m2 (by have:=n8 he;omega) (by have:=yY he;omega) aY
  have hA:=xT (g:=fun e=> .int .i64 (mB e)) bw r2 s2 fun e he cs m2 aX aY=>EW h e cs m2 (by have:=n8 he;omega) (by have:=yY he;omega) aY
  refine enter gp aw Tryz.func176 rfl rfl (by kernel_rfl) rfl ?_ ?_
  ·simp only[go_sem,Sd.cs,Nd.cs]
  ·simp only[go_sem,Sd.cs,Nd.cs];refine cw (.hoist 0 (.hoist 1 (.hoist 3 (.hoist 4 (.alt 2 [4,3] (.alt 5 [] (.hoist 6 (.hoist 7 .done)) .stop) .stop))))) aw (by kernel_rfl) (by kernel_rfl) ?_;simp only[go_sem,Sd.cs,Nd.cs];refine ab ((aS (hT m (.inl rfl)) (fun V=>rfl)).mono ?_);clear hT;rintro r H' m1 aJ ⟨l1,rfl,rfl⟩;have wR:=hE m1 l1;simp only[go_sem,Sd.cs,Nd.cs,l1,and_self];refine ab ((aS wR (fun V=>rfl)).mono ?_);clear wR;rintro r H' m2 aG ⟨l2,rfl,rfl⟩;have k2:=aa l1 l2;have bz:=hE m2 k2;clear hE;simp only[go_sem,Sd.cs,Nd.cs,l1,l2,k2,and_self];refine⟨fun wS=>ab ((aS bz (fun V=>rfl)).mono ?_),fun wS=> ?_⟩
   ·clear bz;rintro r H' m3 bu ⟨l3,rfl,rfl⟩;have k3:=aa k2 l3;simp only[go_sem,Sd.cs,Nd.cs];refine⟨by unfold ax;simp only[az] at hb;omega,?_⟩;have hR:mB (.mk X.k X.name X.ty tg ex body alt)=max (max (bq ex - 1) (eg body)) (eg alt):=by
     rw[mB,ah wS]
    rw[hR];clear hR;refine fy aw (fun x:Nat×Int×Mem=>⟨[⟨1,[],.box 0 0⟩,⟨3,[],.v (.int .i64 x.2.1)⟩,⟨4,[],.v (.int .i64 x.1)⟩],[],[⟨0,73,(X.cs).map .v⟩],[],1,x.2.2⟩)
     (fun x=>ak m3 x.2.2/\x.1<=X.l/\x.2.1=(max (bq ex - 1) (eg (body.take x.1)):Nat)) (fun x=>X.l - x.1) (0,((bq ex:Nat):Int) - 1,m3) (by kernel_rfl) (fun _ _=>aq _) (fun x hx=> ?_) (fun _=> ?_) ?_ ?_ ?_
    ·exact hx.1
    ·simp only[go_sem,Sd.cs,Nd.cs]
    ·simp only[go_sem,Sd.cs,Nd.cs];rfl
    ·refine⟨.inl rfl,au _,?_⟩;simp only[List.take_zero,eg,Nat.max_zero];have:1<=bq ex:=by cases ex;simp only[bq];omega
     omega
    ·rintro⟨i,v,mm⟩ ⟨h1,h2,h5⟩;simp only at h1 h2 h5;have q1:=aa k3 h1;simp only[go_sem,Sd.cs,Nd.cs];refine⟨fun ao=> ?_,fun cA=> ?_⟩
     ·have hi:i<body.length:=by clear hA hB;omega
      refine Exists.elim (hB mm q1 i hi) fun Y hY=>⟨⟨by clear hA hB hY;omega,ao,hY.1.2⟩,Y.cs,⟨hY.1.1,rfl⟩,?_⟩
      have ha:=hY.2 mm (.inl rfl);clear hY hA hB;simp only[go_sem,Sd.cs,Nd.cs];refine ab ((aS ha (fun V=>rfl)).mono ?_);clear ha;rintro r H' m5 b9 ⟨aX,rfl,rfl⟩;simp only[go_sem,Sd.cs,Nd.cs];have iZ:=xg hi;refine⟨by unfold ax;simp only[az] at bn;omega,(i+1,((max (bq ex - 1) (eg (body.take (i+1))):Nat):Int),m5),⟨⟨?_,by simp⟩,.inl rfl⟩,⟨aa h1 aX,by simp only;omega,rfl⟩,by simp only;omega⟩;simp only;rw[iZ,h5];split<;>omega
     ·clear hB;have e0:body.take i=body:=fH (by clear hA;omega);rw[e0] at h5;refine fy aw (fun x:Nat×Int×Mem=>⟨[⟨1,[],.box 0 0⟩,⟨3,[],.v (.int .i64 x.2.1)⟩,⟨5,[],.v (.int .i64 x.1)⟩],[],[⟨0,73,(X.cs).map .v⟩],[],1,x.2.2⟩)
       (fun x=>ak mm x.2.2/\x.1<=X.l2/\x.2.1=(max (max (bq ex - 1) (eg body)) (eg (alt.take x.1)):Nat)) (fun x=>X.l2 - x.1) (0,v,mm) (by kernel_rfl) (fun _ _=>aq _) (fun x hx=> ?_) (fun _=> ?_) ?_ ?_ ?_
      ·exact hx.1
      ·simp only[go_sem,Sd.cs,Nd.cs]
      ·simp only[go_sem,Sd.cs,Nd.cs];rfl
      ·exact⟨.inl rfl,au _,by simp only[List.take_zero,eg,Nat.max_zero];exact h5⟩
      ·rintro⟨j,u,mj⟩ ⟨h3,h4,h6⟩;simp only at h3 h4 h6;have q2:=aa q1 h3;have hB:=True.intro;simp only[go_sem,Sd.cs,Nd.cs];refine⟨fun ao=> ?_,fun cA=> ?_⟩
       ·have hi:j<alt.length:=by clear hA hB;omega
        refine Exists.elim (hA mj q2 j hi) fun Y hY=>⟨⟨by clear hA hB hY;omega,ao,hY.1.2⟩,Y.cs,⟨hY.1.1,rfl⟩,?_⟩
        have ha:=hY.2 mj (.inl rfl);clear hY hA hB;simp only[go_sem,Sd.cs,Nd.cs];refine ab ((aS ha (fun V=>rfl)).mono ?_);clear ha;rintro r H' m5 b9 ⟨aX,rfl,rfl⟩;simp only[go_sem,Sd.cs,Nd.cs];have iZ:=xg hi;refine⟨by unfold ax;simp only[az] at Ee;omega,(j+1,((max (max (bq ex - 1) (eg body)) (eg (alt.take (j+1))):Nat):Int),m5),⟨⟨?_,by simp⟩,.inl rfl⟩,⟨aa h3 aX,by simp only;omega,rfl⟩,by simp only;omega⟩;simp only;rw[iZ,h6];split<;>omega
       ·clear hA hB;have e1:alt.take j=alt:=fH (by omega);rw[e1] at h6;exact⟨q2,h6⟩
   ·clear bz;have hR:mB (.mk X.k X.name X.ty tg ex body alt)=max (max (max (bq tg) (bq ex)) (eg body)) (eg alt):=by
     rw[mB,ae wS]
    rw[hR];clear hR;refine fy aw (fun x:Nat×Int×Mem=>⟨[⟨1,[],.box 0 0⟩,⟨3,[],.v (.int .i64 x.2.1)⟩,⟨4,[],.v (.int .i64 x.1)⟩],[],[⟨0,73,(X.cs).map .v⟩],[],1,x.2.2⟩)
     (fun x=>ak m2 x.2.2/\x.1<=X.l/\x.2.1=(max (max (bq tg) (bq ex)) (eg (body.take x.1)):Nat)) (fun x=>X.l - x.1) (0,(if((bq tg:Nat):Int)<(bq ex:Nat) then((bq ex:Nat):Int) else((bq tg:Nat):Int)),m2) (by kernel_rfl) (fun _ _=>aq _) (fun x hx=> ?_) (fun _=> ?_) ?_ ?_ ?_
    ·exact hx.1
    ·simp only[go_sem,Sd.cs,Nd.cs]
    ·simp only[go_sem,Sd.cs,Nd.cs];rfl
    ·refine⟨.inl rfl,au _,?_⟩;simp only[List.take_zero,eg,Nat.max_zero];split<;>omega
    ·rintro⟨i,v,mm⟩ ⟨h1,h2,h5⟩;simp only at h1 h2 h5;have q1:=aa k2 h1;simp only[go_sem,Sd.cs,Nd.cs];refine⟨fun ao=> ?_,fun cA=> ?_⟩
     ·have hi:i<body.length:=by clear hA hB;omega
      refine Exists.elim (hB mm q1 i hi) fun Y hY=>⟨⟨by clear hA hB hY;omega,ao,hY.1.2⟩,Y.cs,⟨hY.1.1,rfl⟩,?_⟩
      have ha:=hY.2 mm (.inl rfl);clear hY hA hB;simp only[go_sem,Sd.cs,Nd.cs];refine ab ((aS ha (fun V=>rfl)).mono ?_);clear ha;rintro r H' m5 b9 ⟨aX,rfl,rfl⟩;simp only[go_sem,Sd.cs,Nd.cs];have iZ:=xg hi;refine⟨by unfold ax;simp only[az] at bn;omega,(i+1,((max (max (bq tg) (bq ex)) (eg (body.take (i+1))):Nat):Int),m5),⟨⟨?_,by simp⟩,.inl rfl⟩,⟨aa h1 aX,by simp only;omega,rfl⟩,by simp only;omega⟩;simp only;rw[iZ,h5];split<;>omega
     ·clear hB;have e0:body.take i=body:=fH (by clear hA;omega);rw[e0] at h5;refine fy aw (fun x:Nat×Int×Mem=>⟨[⟨1,[],.box 0 0⟩,⟨3,[],.v (.int .i64 x.2.1)⟩,⟨5,[],.v (.int .i64 x.1)⟩],[],[⟨0,73,(X.cs).map .v⟩],[],1,x.2.2⟩)
       (fun x=>ak mm x.2.2/\x.1<=X.l2/\x.2.1=(max (max (max (bq tg) (bq ex)) (eg body)) (eg (alt.take x.1)):Nat)) (fun x=>X.l2 - x.1) (0,v,mm) (by kernel_rfl) (fun _ _=>aq _) (fun x hx=> ?_) (fun _=> ?_) ?_ ?_ ?_
      ·exact hx.1
      ·simp only[go_sem,Sd.cs,Nd.cs]
      ·simp only[go_sem,Sd.cs,Nd.cs];rfl
      ·exact⟨.inl rfl,au _,by simp only[List.take_zero,eg,Nat.max_zero];exact h5⟩
      ·rintro⟨j,u,mj⟩ ⟨h3,h4,h6⟩;simp only at h3 h4 h6;have q2:=aa q1 h3;have hB:=True.intro;simp only[go_sem,Sd.cs,Nd.cs];refine⟨fun ao=> ?_,fun cA=> ?_⟩
       ·have hi:j<alt.length:=by clear hA hB;omega
        refine Exists.elim (hA mj q2 j hi) fun Y hY=>⟨⟨by clear hA hB hY;omega,ao,hY.1.2⟩,Y.cs,⟨hY.1.1,rfl⟩,?_⟩
        have ha:=hY.2 mj (.inl rfl);clear hY hA hB;simp only[go_sem,Sd.cs,Nd.cs];refine ab ((aS ha (fun V=>rfl)).mono ?_);clear ha;rintro r H' m5 b9 ⟨aX,rfl,rfl⟩;simp only[go_sem,Sd.cs,Nd.cs];have iZ:=xg hi;refine⟨by unfold ax;simp only[az] at Ee;omega,(j+1,((max (max (max (bq tg) (bq ex)) (eg body)) (eg (alt.take (j+1))):Nat):Int),m5),⟨⟨?_,by simp⟩,.inl rfl⟩,⟨aa h3 aX,by simp only;omega,rfl⟩,by simp only;omega⟩;simp only;rw[iZ,h6];split<;>omega
       ·clear hA hB;have e1:alt.take j=alt:=fH (by omega);rw[e1] at h6;exact⟨q2,h6⟩
def jk (l:List St):Bool:=decide (cH l<=24)&&decide (eg l<=24)
theorem Cj {α:Type} [BEq α] {l:List α} {k:Nat} (hk:k<l.length) (a:α):(l.take (k+1)).contains a=((l.take k).contains a||a==l[k]):=by
 rw[List.take_succ_eq_append_getElem hk,List.contains_eq_any_beq,List.contains_eq_any_beq,List.any_append];simp only[List.any_cons,List.any_nil,Bool.or_false]
theorem CR {α:Type} [BEq α] [LawfulBEq α] {l:List α} {k j:Nat} (hj:j<k) (hk:k<l.length) (a:α) (h:l[j]=a):(l.take k).contains a=true:=by
 rw[List.contains_iff_mem];rw[<- h];have e:(l.take k)[j]'(by rw[List.length_take];omega)=l[j]:=List.getElem_take;rw[<- e];exact List.getElem_mem _
set_option maxHeartbeats 8000000 in
theorem Qd (d:Cd) (cs:List Value) (m:Mem) (h:lK m d cs):ay 44 [.v (.agg ⟨cs⟩)] m (.bool (mM d)):=by
 obtain⟨fl,name,super,ifs,fields,methods,init⟩:=d;obtain⟨x,⟨rfl,rfl,rfl,rfl⟩,⟨dJ,hic,gm,hfc,hml,hmc,ga,hsc⟩,av,r1,r2,xs,ys,r3,s3,r4,s4⟩:=h;simp only at dJ gm hml ga r1 r2 r3 s3 r4 s4;have b0:x.il<=az:=by rw[dJ];exact av.il
 have b1:x.fn<=az:=by rw[gm];exact av.fn
 have b2:x.ml<=az:=by rw[hml];exact av.ml
 clear r4 s4;have y0:∀i (hk:i<ifs.length),Rd m (cI x.ia i) [.string (bs ifs[i])]/\x.ia≠none:=fun i hk=>F0 r1 hk
 have y1:∀i (hk:i<fields.length),Rd m (cI x.fa (i * 5)) (fields[i]).cs/\x.fa≠none:=fun i hk=>by
  have:=ed r2 (by omega:i<x.fn);rw[vB (f:=Fc.cs) (sz:=5) (fun _=>rfl) hk] at this;exact this
 have y2:∀i (hk:i<methods.length),∃X:Mc,(Rd m (cI x.ma (i * 8)) X.cs/\x.ma≠none)/\X.name=methods[i].name/\X.pl=methods[i].params.length:=fun i hk=>by
  have aY:=sD s3 hk;have bP:=ed r3 (by omega:i<x.ml);obtain⟨X,e1,e2,_⟩:=aY;rw[e1.1] at bP;exact⟨X,bP,e1.2.2.2.1,e2.1⟩
 refine enter gp aw Tryz.func44 rfl rfl (by kernel_rfl) rfl ?_ ?_
 ·simp only[go_sem,Cc.cs]
 ·simp only[go_sem,Cc.cs];refine fy aw (fun y:Nat=>⟨[⟨1,[],.box 0 0⟩,⟨3,[],.v (.int .i64 y)⟩],[],[⟨0,59,x.cs.map .v⟩],[],1,m⟩)
   (fun y=>y<=x.il/\iu [] ifs=iu (ifs.take y) (ifs.drop y)) (fun y=>x.il - y) 0 (by kernel_rfl) (fun _ _=>aq _) (fun _ _=> .inl rfl) (fun _=> ?_) ?_ ?_ ?_
  ·simp only[go_sem,Cc.cs]
  ·simp only[go_sem,Cc.cs];rfl
  ·exact⟨au _,rfl⟩
  ·rintro k0 ⟨h0,g0⟩;simp only[go_sem,Cc.cs];refine⟨fun ao=> ?_,fun cA=> ?_⟩
   ·have hk:k0<ifs.length:=by omega
    have bV:k0<ifs.length:=by simpa using hk
    have iz:=xD bV;refine fy aw (fun y:Nat=>⟨[⟨1,[],.box 0 0⟩,⟨3,[],.v (.int .i64 k0)⟩,⟨4,[],.v (.int .i64 y)⟩],[],[⟨0,59,x.cs.map .v⟩],[],1,m⟩)
     (fun y=>y<=k0/\(ifs.take y).contains ifs[k0]=false) (fun y=>k0 - y) 0 (by kernel_rfl) (fun _ _=>aq _) (fun _ _=> .inl rfl) (fun _=> ?_) ?_ ?_ ?_
    ·simp only[go_sem,Cc.cs]
    ·simp only[go_sem,Cc.cs];rfl
    ·exact⟨au _,by simp⟩
    ·rintro j ⟨u1,u2⟩;simp only[go_sem,Cc.cs];refine⟨fun HU=> ?_,fun HV=> ?_⟩
     ·have hj:j<ifs.length:=by omega
      have oU:j<ifs.length:=by simpa using hj
      have qQ:=Cj oU ifs[k0];have kq:=fun(pK:j<k0) (he:ifs[j]=ifs[k0])=>CR pK bV ifs[k0] he
      refine cw (.hoist 0 (.hoist 1 (.hoist 2 (.hoist 3 (.hoist 4 (.hoist 5 (.hoist 6 (.hoist 7 (.hoist 8 (.hoist 9 (.hoist 10 .done))))))))))) aw (by kernel_rfl) (by kernel_rfl) ?_;simp only[go_sem,Cc.cs];refine⟨⟨by omega,by omega,(y0 k0 hk).2⟩,.string (bs ifs[k0]),(y0 k0 hk).1,⟨by omega,by omega,(y0 j hj).2⟩,.string (bs ifs[j]),(y0 j hj).1,?_⟩;simp only[go_sem,Cc.cs,Fc.cs];refine⟨fun he=> ?_,fun cY=>⟨by unfold ax;simp only[az] at b0;omega,j+1,by simp,⟨by omega,?_⟩,by omega⟩⟩
      ·have hc:=kq (by omega) he.symm;rw[mM,g0,iz,hc];rfl
      ·rw[qQ,u2,beq_eq_false_iff_ne.2 cY];rfl
     ·have nW:j=k0:=by omega
      subst nW;exact⟨by unfold ax;simp only[az] at b0;omega,j+1,by simp,⟨by omega,by rw[g0,iz,u2];rfl⟩,by omega⟩
   ·have e0:iu [] ifs=false:=by
     rw[g0,List.drop_of_length_le (by omega)];rfl
    refine fy aw (fun y:Nat=>⟨[⟨1,[],.box 0 0⟩,⟨5,[],.v (.int .i64 y)⟩],[],[⟨0,59,x.cs.map .v⟩],[],1,m⟩)
     (fun y=>y<=x.fn/\iu [] (fields.map (·.name))=iu ((fields.map (·.name)).take y) ((fields.map (·.name)).drop y)) (fun y=>x.fn - y) 0 (by kernel_rfl) (fun _ _=>aq _) (fun _ _=> .inl rfl) (fun _=> ?_) ?_ ?_ ?_
    ·simp only[go_sem,Cc.cs]
    ·simp only[go_sem,Cc.cs];rfl
    ·exact⟨au _,rfl⟩
    ·rintro k1 ⟨h1,g1⟩;simp only[go_sem,Cc.cs];refine⟨fun ao=> ?_,fun cA=> ?_⟩
     ·have hk:k1<fields.length:=by omega
      have bV:k1<(fields.map (·.name)).length:=by simpa using hk
      have iz:=xD bV;refine fy aw (fun y:Nat=>⟨[⟨1,[],.box 0 0⟩,⟨5,[],.v (.int .i64 k1)⟩,⟨6,[],.v (.int .i64 y)⟩],[],[⟨0,59,x.cs.map .v⟩],[],1,m⟩)
       (fun y=>y<=k1/\((fields.map (·.name)).take y).contains (fields.map (·.name))[k1]=false) (fun y=>k1 - y) 0 (by kernel_rfl) (fun _ _=>aq _) (fun _ _=> .inl rfl) (fun _=> ?_) ?_ ?_ ?_
      ·simp only[go_sem,Cc.cs]
      ·simp only[go_sem,Cc.cs];rfl
      ·exact⟨au _,by simp⟩
      ·rintro j ⟨u1,u2⟩;simp only[go_sem,Cc.cs];refine⟨fun HU=> ?_,fun HV=> ?_⟩
       ·have hj:j<fields.length:=by omega
        have oU:j<(fields.map (·.name)).length:=by simpa using hj
        have qQ:=Cj oU (fields.map (·.name))[k1];have kq:=fun(pK:j<k1) (he:(fields.map (·.name))[j]=(fields.map (·.name))[k1])=>CR pK bV (fields.map (·.name))[k1] he
        refine cw (.hoist 0 (.hoist 1 (.hoist 2 (.hoist 3 (.hoist 4 (.hoist 5 (.hoist 6 (.hoist 7 (.hoist 8 (.hoist 9 (.hoist 10 (.hoist 11 (.hoist 12 .done))))))))))))) aw (by kernel_rfl) (by kernel_rfl) ?_;simp only[go_sem,Cc.cs];refine⟨⟨by omega,by omega,(y1 k1 hk).2⟩,kS (y1 k1 hk).1,.string (bs (fields[k1]).name),je (y1 k1 hk).1 4 1 (dO rfl),⟨by omega,by omega,(y1 j hj).2⟩,kS (y1 j hj).1,.string (bs (fields[j]).name),je (y1 j hj).1 4 1 (dO rfl),?_⟩;simp only[go_sem,Cc.cs,Fc.cs];simp only[List.getElem_map] at qQ kq u2;refine⟨fun he=> ?_,fun cY=>⟨by unfold ax;simp only[az] at b1;omega,j+1,by simp,⟨by omega,?_⟩,by omega⟩⟩
        ·have hc:=kq (by omega) he.symm;simp only[List.getElem_map] at iz;simp only[mM,g1,iz,hc,Bool.true_or,Bool.or_true]
        ·rw[List.getElem_map,qQ,u2,beq_eq_false_iff_ne.2 cY];rfl
       ·have nW:j=k1:=by omega
        subst nW;exact⟨by unfold ax;simp only[az] at b1;omega,j+1,by simp,⟨by omega,by rw[g1,iz,u2];rfl⟩,by omega⟩
     ·have e1:iu [] (fields.map (·.name))=false:=by
       rw[g1,List.drop_of_length_le (by simp;omega)];rfl
      refine fy aw (fun y:Nat=>⟨[⟨1,[],.box 0 0⟩,⟨7,[],.v (.int .i64 y)⟩],[],[⟨0,59,x.cs.map .v⟩],[],1,m⟩)
       (fun y=>y<=x.ml/\iu [] (methods.map fun m=>(m.name,m.params.length))=iu ((methods.map fun m=>(m.name,m.params.length)).take y) ((methods.map fun m=>(m.name,m.params.length)).drop y)) (fun y=>x.ml - y) 0 (by kernel_rfl) (fun _ _=>aq _) (fun _ _=> .inl rfl) (fun _=> ?_) ?_ ?_ ?_
      ·simp only[go_sem,Cc.cs]
      ·simp only[go_sem,Cc.cs];rfl
      ·exact⟨au _,rfl⟩
      ·rintro k2 ⟨h2,g2⟩;simp only[go_sem,Cc.cs];refine⟨fun ao=> ?_,fun cA=> ?_⟩
       ·have hk:k2<methods.length:=by omega
        have bV:k2<(methods.map fun m=>(m.name,m.params.length)).length:=by simpa using hk
        have iz:=xD bV;refine fy aw (fun y:Nat=>⟨[⟨1,[],.box 0 0⟩,⟨7,[],.v (.int .i64 k2)⟩,⟨8,[],.v (.int .i64 y)⟩],[],[⟨0,59,x.cs.map .v⟩],[],1,m⟩)
         (fun y=>y<=k2/\((methods.map fun m=>(m.name,m.params.length)).take y).contains (methods.map fun m=>(m.name,m.params.length))[k2]=false) (fun y=>k2 - y) 0 (by kernel_rfl) (fun _ _=>aq _) (fun _ _=> .inl rfl) (fun _=> ?_) ?_ ?_ ?_
        ·simp only[go_sem,Cc.cs]
        ·simp only[go_sem,Cc.cs];rfl
        ·exact⟨au _,by simp⟩
        ·rintro j ⟨u1,u2⟩;simp only[go_sem,Cc.cs];refine⟨fun HU=> ?_,fun HV=> ?_⟩
         ·have hj:j<methods.length:=by omega
          have oU:j<(methods.map fun m=>(m.name,m.params.length)).length:=by simpa using hj
          have qQ:=Cj oU (methods.map fun m=>(m.name,m.params.length))[k2];have kq:=fun(pK:j<k2) (he:(methods.map fun m=>(m.name,m.params.length))[j]=(methods.map fun m=>(m.name,m.params.length))[k2])=>CR pK bV (methods.map fun m=>(m.name,m.params.length))[k2] he
          refine cw (.hoist 0 (.hoist 1 (.hoist 2 (.hoist 3 (.hoist 4 (.hoist 5 (.hoist 6 (.hoist 7 (.hoist 8 (.hoist 9 (.hoist 10 (.hoist 11 (.hoist 12 (.hoist 13 (.hoist 14 (.hoist 15 (.hoist 16 (.hoist 17 (.hoist 18 (.hoist 19 (.hoist 20 (.hoist 21 (.hoist 22 (.hoist 23 (.hoist 24 (.hoist 25 (.hoist 26 (.hoist 27 (.hoist 28 (.hoist 29 .done)))))))))))))))))))))))))))))) aw (by kernel_rfl) (by kernel_rfl) ?_;simp only[go_sem,Cc.cs];refine Exists.elim (y2 k2 hk) fun X hX=>Exists.elim (y2 j hj) fun Y hY=> ?_
          refine⟨⟨by clear hX hY;omega,by clear hX hY;omega,hX.1.2⟩,kS hX.1.1,.string (bs X.name),je hX.1.1 4 1 (dO rfl),⟨by clear hX hY;omega,by clear hX hY;omega,hY.1.2⟩,kS hY.1.1,.string (bs Y.name),je hY.1.1 4 1 (dO rfl),?_⟩;simp only[go_sem,Cc.cs,Mc.cs];refine⟨fun _=>⟨by clear hX hY;omega,by clear hX hY;omega,hX.1.2⟩,fun _=>kS hX.1.1,.slice X.pa X.pl X.pc,fun _=>je hX.1.1 5 1 (dO rfl),?_⟩;simp only[go_sem,Cc.cs,Mc.cs];refine⟨fun _=>⟨by clear hX hY;omega,by clear hX hY;omega,hY.1.2⟩,fun _=>kS hY.1.1,.slice Y.pa Y.pl Y.pc,fun _=>je hY.1.1 5 1 (dO rfl),?_⟩;have e3:(methods.map fun m=>(m.name,m.params.length))[k2]=(X.name,X.pl):=by rw[List.getElem_map,hX.2.1,hX.2.2]
          have e4:(methods.map fun m=>(m.name,m.params.length))[j]=(Y.name,Y.pl):=by rw[List.getElem_map,hY.2.1,hY.2.2]
          rw[e3] at kq iz u2 qQ;rw[e4] at kq qQ;clear hX hY e4;simp only[go_sem,Cc.cs,Mc.cs];refine⟨fun he=> ?_,fun cY=>⟨by unfold ax;simp only[az] at b2;omega,j+1,by simp,⟨by omega,?_⟩,by omega⟩⟩
          ·have hc:=kq (by omega) (by rw[he.1,(by omega:X.pl=Y.pl)]);simp only[mM,g2,iz,hc,Bool.true_or,Bool.or_true]
          ·have hn:¬(X.name,X.pl)=(Y.name,Y.pl):=fun h=>by
            have g1:=congrArg Prod.fst h;have g2:=congrArg Prod.snd h;simp only at g1 g2;rcases cY with h |h
            ·exact h g1
            ·omega
           rw[e3,qQ,u2,beq_eq_false_iff_ne.2 hn];rfl
         ·have nW:j=k2:=by omega
          subst nW;exact⟨by unfold ax;simp only[az] at b2;omega,j+1,by simp,⟨by omega,by rw[g2,iz,u2];rfl⟩,by omega⟩
       ·have e2:iu [] (methods.map fun m=>(m.name,m.params.length))=false:=by
         rw[g2,List.drop_of_length_le (by simp;omega)];rfl
        simp only[mM,e0,e1,e2];rfl
theorem Rt {l:List St} {k:Nat} (hk:k<l.length) (h:jk (l.take k)=true):jk (l.take (k+1))=(decide (ep l[k]<=24)&&decide (mB l[k]<=24)):=by
 simp only[jk,cO,gA] at h;rw[jk,yT hk,xg hk,<- Bool.decide_and,<- Bool.decide_and,decide_eq_decide];omega
theorem Un {l:List St} {k:Nat} (h:jk (l.take (k+1))=false) (hk:k<l.length):jk l=false:=by
 have h1:=B3 l (k+1);have h2:eg (l.take (k+1))<=eg l:=by
  have:∀(l:List St) (k:Nat),eg (l.take k)<=eg l:=fun l=>by
   induction l with
   |nil=>intro k;simp
   |cons a r ih=>
    intro k;cases k with
    |zero=>simp [eg]
    |succ k=>
     have:=ih k;simp only[List.take_succ_cons,eg];omega
  exact this l (k+1)
 cases hf:jk l with
 |false=>rfl
 |true=>
  simp only[jk,cO,gA] at hf;rw[jk,bO (by omega),bO (by omega)] at h;cases h
theorem Jj (l:List St) (a:Option Addr) (n c:Nat) (xs:List Value) (m:Mem) (hl:n=l.length) (hr:aM m a n 23 xs) (hs:bj m l xs) (hn:n<=az) (hz:dN l<=az):ay 112 [.v (.slice a n c)] m (.bool (jk l)):=by
 have hD:=xT (g:=fun e=> .int .i64 (ep e)) hl hr hs fun e he cs m2 aX aY=>EK _ e cs m2 (aq _) (by have:=yY he;have:=Ki e;omega) aY
 have hE:=xT (g:=fun e=> .int .i64 (mB e)) hl hr hs fun e he cs m2 aX aY=>EW _ e cs m2 (aq _) (by have:=yY he;omega) aY
 refine aH aw Tryz.func112 ?_
 ·simp only[go_sem];refine cK aw (fun x:Nat×Mem=>⟨[⟨0,[],.v (.slice a n c)⟩,⟨3,[],.v (.int .i64 x.1)⟩],[],[],[],0,x.2⟩)
    (fun x=>ak m x.2/\x.1<=n/\jk (l.take x.1)=true) (fun x=>n - x.1) (0,m) (fun _ _=>aq _) (fun x hx=>hx.1) ?_ ?_ ?_
  ·simp only[go_sem];rfl
  ·exact⟨.inl rfl,au _,rfl⟩
  ·rintro⟨k,mm⟩ ⟨h1,h2,h3⟩;simp only at h1 h2 h3;simp only[go_sem];refine⟨fun ao=> ?_,fun cA=>⟨h1,?_⟩⟩
   ·have hk:k<l.length:=by clear hD hE;omega
    have hT:=Rt hk h3;have hF:=fun(h:jk (l.take (k+1))=false)=>Un h hk
    have Ec:=fun m2 (h:ak m m2)=>hE m2 h k hk
    clear hE;refine Exists.elim (hD mm h1 k hk) fun X hX=>⟨⟨by clear hD Ec hX;omega,ao,hX.1.2⟩,X.cs,⟨hX.1.1,rfl⟩,?_⟩
    clear hD;have ha:=hX.2 mm (.inl rfl);clear hX;simp only[go_sem,Sd.cs,Nd.cs];refine ab ((aS ha (fun V=>rfl)).mono ?_);clear ha;rintro r H' m2 aG ⟨l2,rfl,rfl⟩;have k2:=aa h1 l2;simp only[go_sem,Sd.cs,Nd.cs];refine Exists.elim (Ec m2 k2) fun Y hY=>⟨fun _=>⟨by clear Ec hY;omega,ao,hY.1.2⟩,Y.cs,fun _=>⟨hY.1.1,rfl⟩,?_⟩
    clear Ec;have ha:=hY.2 m2 (.inl rfl);clear hY;simp only[go_sem,Sd.cs,Nd.cs];refine⟨fun hc=>ab ((aS ha (fun V=>rfl)).mono ?_),fun hc=> ?_⟩
    ·clear ha;rintro r H' m3 bu ⟨l3,rfl,rfl⟩;have k3:=aa k2 l3;simp only[go_sem,Sd.cs,Nd.cs];refine⟨fun hb=>⟨k3,?_⟩,fun hb=>⟨by unfold ax;simp only[az] at hn;omega,(k+1,m3),⟨by simp,.inl rfl⟩,⟨k3,by simp only;omega,?_⟩,by simp only;omega⟩⟩
     ·rw[hF];rw[hT,bg (by omega:¬mB l[k]<=24),Bool.and_false]
     ·simp only;rw[hT,bO (by omega:ep l[k]<=24),bO (by omega:mB l[k]<=24)];rfl
    ·clear ha;refine⟨k2,?_⟩;rw[hF];rw[hT,bg (by omega:¬ep l[k]<=24),Bool.false_and]
   ·clear hD hE;rw[fH (by omega)] at h3;exact h3.symm
def xy (d:Cd):Bool:=(d.methods.all fun e=>jk e.body)&&jk d.init
theorem PT (d:Cd) (cs:List Value) (m:Mem) (h:lK m d cs) (hz:eI d<=az):ay 43 [.v (.agg ⟨cs⟩)] m (.bool (xy d)):=by
 obtain⟨fl,name,super,ifs,fields,methods,init⟩:=d;obtain⟨x,⟨rfl,rfl,rfl,rfl⟩,⟨dJ,hic,gm,hfc,hml,hmc,ga,hsc⟩,av,r1,r2,xs,ys,r3,s3,r4,s4⟩:=h;simp only at dJ gm hml ga r1 r2 r3 s3 r4 s4;simp only[eI] at hz;have b2:x.ml<=az:=by rw[hml];exact av.ml
 have hI:=fun m' (hle:ak m m')=>Jj init x.sa x.sl x.sc ys m' ga (aK hle r4) (di hle s4) (by rw[ga];exact av.l) (by omega)
 have y2:∀m',ak m m' ->∀i (hk:i<methods.length),∃X:Mc,(Rd m' (cI x.ma (i * 8)) X.cs/\x.ma≠none)/\ay 112 [.v (.slice X.a X.l X.cp)] m' (.bool (jk methods[i].body)):=fun m' hle i hk=>by
  have aY:=tI hle (sD s3 hk);have bP:=ed (aK hle r3) (by omega:i<x.ml);have nU:=CM (f:=rh) methods[i] (List.getElem_mem hk);simp only[rh] at nU;obtain⟨X,e1,e2,e3,e4,zs,e5,e6⟩:=aY;rw[e1.1] at bP;exact⟨X,bP,Jj _ X.a X.l X.cp zs m' e2.2.2.1 e5 e6 (by rw[e2.2.2.1];exact e3.l) (by omega)⟩
 clear s3 s4;have hX:xy ⟨x.fl,x.name,x.super,ifs,fields,methods,init⟩=((methods.all fun e=>jk e.body)&&jk init):=rfl;refine enter gp aw Tryz.func43 rfl rfl (by kernel_rfl) rfl ?_ ?_
 ·simp only[go_sem,Cc.cs]
 ·simp only[go_sem,Cc.cs];refine fy aw (fun y:Nat×Mem=>⟨[⟨1,[],.box 0 0⟩,⟨3,[],.v (.int .i64 y.1)⟩],[],[⟨0,59,x.cs.map .v⟩],[],1,y.2⟩)
   (fun y=>ak m y.2/\y.1<=x.ml/\((methods.take y.1).all fun e=>jk e.body)=true) (fun y=>x.ml - y.1) (0,m) (by kernel_rfl) (fun _ _=>aq _) (fun y hy=> ?_) (fun _=> ?_) ?_ ?_ ?_
  ·exact hy.1
  ·simp only[go_sem,Cc.cs]
  ·simp only[go_sem,Cc.cs];rfl
  ·exact⟨.inl rfl,au _,rfl⟩
  ·rintro⟨k,mm⟩ ⟨g1,g2,g3⟩;simp only at g1 g2 g3;simp only[go_sem,Cc.cs];refine⟨fun ao=> ?_,fun cA=> ?_⟩
   ·have hk:k<methods.length:=by clear y2 hI;omega
    have hy:=y2 mm g1 k hk;clear y2 hI;refine Exists.elim hy fun X jo=>⟨⟨by clear hy jo;omega,ao,jo.1.2⟩,kS jo.1.1,.slice X.a X.l X.cp,je jo.1.1 7 1 (dO rfl),?_⟩
    have ha:=jo.2;clear hy jo;refine ab (ha.mono ?_);clear ha;rintro r H' m5 b9 ⟨l5,rfl,rfl⟩;simp only[go_sem,Cc.cs];refine⟨fun hf=>⟨aa g1 l5,?_⟩,fun ht=>⟨by unfold ax;simp only[az] at b2;omega,(k+1,m5),⟨by simp,.inl rfl⟩,⟨aa g1 l5,by simp only;omega,?_⟩,by simp only;omega⟩⟩
    ·rw[hX,Aa (p:=fun e:Md=>jk e.body) hk hf];rfl
    ·simp only;rw[zB hk,g3,ht];rfl
   ·have eP:methods.take k=methods:=fH (by clear y2 hI;omega);rw[eP] at g3;rw[g3,Bool.true_and] at hX;have ha:=hI mm g1;clear y2 hI;refine ab (ha.mono ?_);clear ha;rintro r H' m5 b9 ⟨l5,rfl,rfl⟩;simp only[go_sem,Cc.cs];exact⟨aa g1 l5,hX.symm⟩
/-! Plain: the two depths. -/
theorem QM {k:Int} {nm:List UInt8} {ty:Ty} {tg ex:Ex} {body alt:List St} (h:gk k nm ty tg ex body alt=true):eU false body=true/\eU false alt=true/\(k=11->mi tg=true):=by
 have hs:∃t t2 a b,gW nm ty tg body alt t t2 a b=true/\(k=11->t2=false):=by
  unfold gk at h;split at h
  ·simp only[cO] at h;exact⟨_,_,_,_,h.1,fun _=>rfl⟩
  split at h
  ·rename_i hk;simp only[cO] at h;exact⟨_,_,_,_,h.1.1.1,fun e=>by rw[hk] at e;exact absurd e (by decide)⟩
  split at h
  ·simp only[cO] at h;exact⟨_,_,_,_,h.1.1,fun _=>rfl⟩
  split at h
  ·simp only[cO] at h;exact⟨_,_,_,_,h.1,fun _=>rfl⟩
  split at h
  ·simp only[cO] at h;exact⟨_,_,_,_,h.1,fun _=>rfl⟩
  split at h
  ·rw[cO] at h;exact⟨_,_,_,_,h.1,fun _=>rfl⟩
  split at h
  ·simp only[cO] at h;exact⟨_,_,_,_,h.1,fun _=>rfl⟩
  split at h
  ·simp only[cO] at h;exact⟨_,_,_,_,h.1,fun _=>rfl⟩
  split at h
  ·simp only[cO] at h;exact⟨_,_,_,_,h.1,fun _=>rfl⟩
  split at h
  ·simp only[cO] at h;exact⟨_,_,_,_,h.1,fun _=>rfl⟩
  ·cases h
 obtain⟨t,t2,a,b,hs,wS⟩:=hs;simp only[gW,cO,Bool.or_eq_true] at hs
 exact⟨hs.1.2,hs.2,fun e=>by
  rcases hs.1.1.1.1.2 with h |h
  ·rw[wS e] at h;cases h
  ·exact h⟩
mutual
theorem UC:∀(s:St),gE s=true->(oJ s<=24↔mB s<=24)
 | .mk k nm ty tg ex body alt,h=>by
  rw[MO] at h;obtain⟨h1,h2,h3⟩:=QM h;simp only[eU,cO] at h1 h2;have i1:=Ch false body h1.2;have i2:=Ch false alt h2.2;have dx:bq ex=vS ex+1:=by cases ex;simp [bq,vS]
  simp only[oJ,mB];by_cases hk:k=11
  ·have ht:bq tg=1:=by
    have:=h3 hk;cases tg with
    |mk k n s c ty args=>
     simp only[mi,jS,cO,gA] at this;have ha:args=[]:=List.length_eq_zero_iff.1 (by omega);subst ha;simp [bq,jT]
   rw[ah hk,ah hk];omega
  ·rw[ae hk,ae hk];omega
theorem Ch:∀(sup:Bool) (l:List St),iB sup l=true->(dt l<=24↔eg l<=24)
 |_,[],_=>by simp [dt,eg]
 |sup,e::r,h=>by
  simp only[iB,cO] at h;have i1:=UC e h.1.2;have i2:=Ch false r h.2;simp only[dt,eg];omega
end
theorem Mq {sup:Bool} {l:List St} (h:eU sup l=true):jk l=decide (cH l<=24/\dt l<=24):=by
 simp only[eU,cO] at h;have:=Ch sup l h.2;rw[jk,<- Bool.decide_and,decide_eq_decide];omega
theorem Ln:∀(l:List Md),(∀e∈l,jb e=true)->(l.all fun e=>jk e.body)=decide (jB l<=24/\jC l<=24)
 |[],_=>by simp [jB,jC]
 |e::r,h=>by
  have h1:=h e (df ..);simp only[jb,cO] at h1;rw[List.all_cons,Ln r fun x hx=>h x (cu _ hx),Mq h1.2,<- Bool.decide_and,decide_eq_decide];simp only[jB,jC];omega
theorem Wx {d:Cd} (h:nz d=true):sG d= !xy d:=by
 simp only[nz,cO,Bool.not_eq_true',List.any_eq_false] at h;have hm:∀e∈d.methods,jb e=true:=fun e he=>by
  have:=h.2.1.2 e he;simpa using this
 rw[xy,Ln d.methods hm,Mq h.2.2,sG,<- Bool.decide_and,<- Bool.decide_or,<- decide_not,decide_eq_decide];omega
structure RCls (X:Cc) (e:Cd) (p:Option Addr) (o:Nat) (m' :Mem):Prop where
 rd:Rd m' (cI p o) X.cs
 nn:p≠none
 cl:ay 42 [.v (.agg ⟨X.cs⟩)] m' (.bool (nz e))
 sh:ay 43 [.v (.agg ⟨X.cs⟩)] m' (.bool (xy e))
 tw:ay 44 [.v (.agg ⟨X.cs⟩)] m' (.bool (mM e))
theorem Ql (l:List Cd) (p:Option Addr) (n c:Nat) (m:Mem) (hz:(l.map eI).sum<=1048576) (h:vN m l p n c):
  FnH Tryz.prog 21 [.v (.slice p n c)] ⟨[],[]⟩ m fun r H' m' =>ak m m' /\H' =⟨[],[]⟩/\r= .tup [.v (.string (bs (fB [] l).1)),.v (.int .i64 (fB [] l).2)]:=by
 obtain⟨hl,bb,hn,xs,r1,s1⟩:=h;have y:∀i (hk:i<l.length),∃X:Cc,X.name=l[i].name/\∀m',ak m m' ->RCls X l[i] p (i * 7) m' :=fun i hk=>by
  have aY:=sD s1 hk;have jO:=CM (f:=eI) l[i] (List.getElem_mem hk);have hX:∃X:Cc,(xs.drop (i * 7)).take 7=X.cs/\X.name=l[i].name/\ax l[i].fl:=by
   obtain⟨X,e1,e2,e3,_⟩:=aY;exact⟨X,e1.1,e1.2.2.1,e3.fl⟩
  obtain⟨X,e1,e2,e3⟩:=hX;refine⟨X,e2,fun m' hle=> ?_⟩;have bP:=ed (aK hle r1) (by omega:i<n);have cX:=vv hle aY;rw[e1] at bP cX;have hc:=Qk _ _ m' cX;rw[UF _ e3] at hc;exact⟨bP.1,bP.2,hc,PT _ _ m' cX (by simp only[az];omega),Qd _ _ m' cX⟩
 clear s1;refine aH aw Tryz.func21 ?_
 ·simp only[go_sem];refine fy aw (fun x:Nat×Mem=>⟨[⟨0,[],.v (.slice p n c)⟩,⟨4,[],.v (.int .i64 x.1)⟩],[],[],[],0,x.2⟩)
   (fun x=>ak m x.2/\x.1<=n/\fB [] l=fB ((l.map (·.name)).take x.1) (l.drop x.1)) (fun x=>n - x.1) (0,m) (by kernel_rfl) (fun _ _=>aq _) (fun x hx=>hx.1) (fun _=> ?_) ?_ ?_ ?_
  ·simp only[go_sem]
  ·simp only[go_sem];rfl
  ·exact⟨.inl rfl,au _,rfl⟩
  ·rintro⟨k,mm⟩ ⟨h1,h2,h3⟩;simp only at h1 h2 h3;have fQ:∀(hk:k<l.length),fB [] l=(if nz l[k]=true then(if sG l[k]=true then(l[k].name,9) else if(((l.map (·.name)).take k).contains l[k].name||mM l[k])=true then(l[k].name,6) else fB ((l.map (·.name)).take (k+1)) (l.drop (k+1))) else(l[k].name,4)):=fun hk=>by
    rw[h3,List.drop_eq_getElem_cons hk,fB];have:(l.map (·.name)).take (k+1)=(l.map (·.name)).take k++[l[k].name]:=by
     rw[List.take_succ_eq_append_getElem (by simpa using hk)];simp
    rw[this]
   simp only[go_sem];refine⟨fun ao=> ?_,fun cA=> ?_⟩
   ·have hk:k<l.length:=by clear y;omega
    have ll:=fQ hk;clear fQ;refine Exists.elim (y k hk) fun X hy=>⟨⟨by clear y hy;omega,ao,(hy.2 mm h1).nn⟩,X.cs,⟨(hy.2 mm h1).rd,rfl⟩,?_⟩
    have qM:=hy.1;have hV:=(hy.2 mm h1).cl;simp only[go_sem,Cc.cs];refine ab ((aS hV (fun V=>rfl)).mono ?_);clear hV;rintro r H' m2 aG ⟨l2,rfl,rfl⟩;have k2:=aa h1 l2;have qJ:=(hy.2 m2 k2).rd;have rO:=(hy.2 m2 k2).nn;have hS:=(hy.2 m2 k2).sh;simp only[go_sem,Cc.cs];refine⟨fun b1=>⟨⟨by clear y hy hS;omega,ao,rO⟩,kS qJ,.string (bs X.name),je qJ 1 1 (dO rfl),?_⟩,fun b1=>⟨⟨by clear y hy hS;omega,ao,rO⟩,X.cs,⟨qJ,rfl⟩,?_⟩⟩
    ·clear y hy hS;refine⟨k2,?_⟩;rw[ll,ae (by rw[b1];decide),qM]
    ·rw[ah b1] at ll;simp only[go_sem,Cc.cs];refine ab ((aS hS (fun V=>rfl)).mono ?_);clear hS;rintro r H' m3 bu ⟨l3,rfl,rfl⟩;have k3:=aa k2 l3;have wL:=(hy.2 m3 k3).rd;have hT:=(hy.2 m3 k3).tw;have lZ:sG l[k]= !xy l[k]:=Wx b1;simp only[go_sem,Cc.cs];refine⟨fun b2=>⟨⟨by clear y hy hT;omega,ao,rO⟩,kS wL,.string (bs X.name),je wL 1 1 (dO rfl),?_⟩,fun b2=> ?_⟩
     ·clear y hy hT;refine⟨k3,?_⟩;rw[b2,Bool.not_false] at lZ;rw[ll,ah lZ,qM]
     ·rw[b2] at lZ;rw[ae (by rw[lZ];decide),<- qM] at ll;refine fy aw (fun x:Nat=>⟨[⟨0,[],.v (.slice p n c)⟩,⟨4,[],.v (.int .i64 k)⟩,⟨5,[],.v (.int .i64 x)⟩],[],[],[],0,m3⟩)
       (fun x=>x<=k/\((l.map (·.name)).take x).contains X.name=false) (fun x=>k - x) 0 (by kernel_rfl) (fun _ _=>aq _) (fun _ _=> .inl rfl) (fun _=> ?_) ?_ ?_ ?_
      ·simp only[go_sem]
      ·simp only[go_sem];rfl
      ·exact⟨au _,by simp⟩
      ·rintro j ⟨u1,u2⟩;simp only[go_sem];refine⟨fun HU=> ?_,fun HV=> ?_⟩
       ·have hj:j<l.length:=by clear y hy hT;omega
        have oU:j<(l.map (·.name)).length:=by simpa using hj
        have bV:k<(l.map (·.name)).length:=by simpa using hk
        have qQ:=Cj oU X.name;have kq:=fun(pK:j<k) (he:(l.map (·.name))[j]=X.name)=>CR pK bV X.name he
        rw[List.getElem_map] at qQ;refine cw (.hoist 0 (.hoist 1 (.hoist 2 (.hoist 3 (.hoist 4 (.hoist 5 (.hoist 6 (.hoist 7 (.hoist 8 (.hoist 9 (.hoist 10 .done))))))))))) aw (by kernel_rfl) (by kernel_rfl) ?_;simp only[go_sem];refine Exists.elim (y j hj) fun Y hY=> ?_
        have O1:=(hY.2 m3 k3).rd;have OU:=hY.1;clear y hy hT hY;refine⟨⟨by omega,by omega,rO⟩,kS O1,.string (bs Y.name),je O1 1 1 (dO rfl),⟨by omega,ao,rO⟩,kS wL,.string (bs X.name),je wL 1 1 (dO rfl),?_⟩;simp only[go_sem];refine⟨fun he=>⟨⟨by omega,ao,rO⟩,kS wL,.string (bs X.name),je wL 1 1 (dO rfl),?_⟩,fun cY=>⟨by unfold ax;simp only[az] at hn;omega,j+1,by simp,⟨by omega,?_⟩,by omega⟩⟩
        ·refine⟨k3,?_⟩;rw[ll,kq (by omega) (by rw[List.getElem_map,<- OU,he])];rfl
        ·rw[qQ,u2,beq_eq_false_iff_ne.2 (fun h=>cY (by rw[OU,h]))];rfl
       ·have pK:j=k:=by clear y hy hT;omega
        subst pK;refine⟨⟨by clear y hy hT;omega,ao,rO⟩,X.cs,⟨wL,rfl⟩,?_⟩;clear y;rw[u2,Bool.false_or] at ll;simp only[go_sem,Cc.cs];refine ab ((aS hT (fun V=>rfl)).mono ?_);clear hT;rintro r H' m4 dc ⟨l4,rfl,rfl⟩;have k4:=aa k3 l4;have O2:=(hy.2 m4 k4).rd;clear hy;simp only[go_sem,Cc.cs];refine⟨fun b4=>⟨⟨by omega,ao,rO⟩,kS O2,.string (bs X.name),je O2 1 1 (dO rfl),?_⟩,fun b4=>⟨by unfold ax;simp only[az] at hn;omega,(j+1,m4),⟨by simp,.inl rfl⟩,⟨k4,by simp only;omega,?_⟩,by simp only;omega⟩⟩
        ·refine⟨k4,?_⟩;rw[ll,ah b4]
        ·simp only;rw[ll,ae (by rw[b4];decide)]
   ·clear y;rw[h3,List.drop_of_length_le (by omega),fB];exact⟨h1,rfl⟩
section
variable {ts:List Tk} {i:Nat} {m:Mem} {a:Option Addr}
theorem Yt (hr:aM m a ts.length 4 (cG ts)) (hi:i<ts.length) {K:Value->Prop}:(∃c,Rd m (o9 (cI a (i * 4)) 3) [c]/\K c)=K (.int .i64 (aP ts i).at_):=by
 have h0:Rd m (o9 (cI a (i * 4)) 3) [.int .i64 (aP ts i).at_]:=je (zQ hr hi).2 3 1 (by simp [dG]);refine eq_iff_iff.2 ⟨fun h=> ?_,fun h=>⟨_,h0,h⟩⟩;obtain⟨c,⟨ad,e1,_,h1⟩,hk⟩:=h;obtain⟨ad',e2,_,h2⟩:=h0;rw[e1] at e2;cases e2;have h3:=(h1 0 (by simp)).1;have h4:=(h2 0 (by simp)).1;rw[h3] at h4;simp only[List.getElem?_cons_zero,de] at h4;rw[<- h4];exact hk
theorem Vv {en:Int} (hi:i<ts.length):lQ en (ts.drop i)=(aP ts i).at_:=by
 rw[List.drop_eq_getElem_cons hi,zL hi];rfl
theorem Vw {en:Int} (hi:¬i<ts.length):lQ en (ts.drop i)=en:=by
 rw[List.drop_eq_nil_of_le (by omega)];rfl
end
theorem E1 {ts:List Tk} (hT:TsR ts) (t:List UInt8) {k:Nat} (hk:k<=ts.length) (a:Option Addr) (c:Nat) (m:Mem) (ht:t.length<=4611686018427387904) (hr:aM m a ts.length 4 (cG ts)):
  FnH Tryz.prog 29 [.v (.string (bs t)),.v (.slice a ts.length c),.v (.int .i64 k)] ⟨[],[]⟩ m fun r H' m' =>m' =m/\H' =⟨[],[]⟩/\r= .v (.int .i64 (lQ t.length (ts.drop k))):=by
 have hl:=hT.few;by_cases hi:k<ts.length
 ·rw[Vv hi];have jq:((k:Int)<ts.length)=True:=eq_true (by omega);refine aH aw Tryz.func29 ?_
  ·simp only[go_sem,jq,wa hr hi,ru hr hi,Yt hr hi,not_true_eq_false,false_implies]
 ·rw[Vw hi];have jq:((k:Int)<ts.length)=False:=eq_false (by omega);refine aH aw Tryz.func29 ?_
  ·simp only[go_sem,jq]
theorem QU (t:List UInt8) (m:Mem) (ht:t.length<=4611686018427387904):FnH Tryz.prog 14 [.v (.string (bs t))] ⟨[],[]⟩ m (OA (iM t) m):=by
 have hk:=Iy t m ht;have hT:=LF t;have hl:=qW t;have hz:∀m',ba m' zE (Nd.cs ⟨0,0,[],[],af,none,0,0⟩):=fun m' =>kR ⟨by decide,by decide⟩ ⟨by decide,by decide⟩ (au _) (au _) bX
 by_cases h0:(aD t).2.2=0
 ·have h1:=MJ hk h0
  have e0:iM t=(match lg (aD t).1 with
   | .error r=>(zE,lQ t.length r,71)
   | .ok x=>if dm x.1=true then(if 24<bq x.1 then(zE,0,9) else(x.1,0,0)) else(zE,0,4)):=ah h0
  have hE:∀(a:Option Addr) (c:Nat) (m' :Mem),aM m' a (aD t).1.length 4 (cG (aD t).1)->FnH Tryz.prog 35 [.v (.slice a (aD t).1.length c),.v (.int .i64 0),.v (.int .i64 1)] ⟨[],[]⟩ m' (gr (aD t).1 (bL 0 (aD t).1) m'):=fun a c m' hr=>(uL hT (au _)).bin 0 (by decide) a c m' hr
  refine aH aw Tryz.func14 ?_
  ·simp only[go_sem];refine ab (h1.mono ?_);clear h1;rintro r H' m1 aJ ⟨l1,rfl,rfl⟩;simp only[go_sem,not_true_eq_false];refine⟨by kernel_rfl,fun a c m2 g1 g2 g3=>cE ((hE a c m2 g3).mono ?_)⟩;clear hE;rintro r H' m3 bu ⟨l3,rfl,x,k,b,rfl,hk,hb⟩;have u3:ak m m3:=aa l1 (aa (.inr g1) l3);rcases hb with ⟨rfl,e,hK,hx⟩ |⟨rfl,hK⟩
   ·by_cases hi:k<(aD t).1.length
    ·have jq:((k:Int)<(aD t).1.length)=True:=eq_true (by omega);have eR:iM t=(zE,lQ t.length ((aD t).1.drop k),71):=by
      rw[e0,lg,bQ hK,ae (fun h=>by have:=congrArg List.length h;rw[cj] at this;simp at this;omega)]
     simp only[go_sem,jq,not_true_eq_false];refine⟨by kernel_rfl,fun a2 c2 m4 w1 w2 w3=>cE ((E1 hT t hk a2 c2 m4 ht w3).mono ?_)⟩;rintro r H' m5 b9 ⟨rfl,rfl,rfl⟩;simp only[go_sem];rw[eR];exact⟨aa u3 (.inr w1),⟨0,0,[],[],af,none,0,0⟩,rfl,hz _,rfl⟩
    ·have jq:((k:Int)<(aD t).1.length)=False:=eq_false (by omega);have kf:(aD t).1.drop k=[]:=List.drop_eq_nil_of_le (by omega);have He:bq e<=az:=by
      have h1:=Ls (aD t).1;have:=h1 e _ hK;have:=vm e;unfold az;omega
     have eK:iM t=if dm e=true then(if 24<bq e then(zE,0,9) else(e,0,0)) else(zE,0,4):=by
      rw[e0,lg,bQ hK,ah kf]
     have hv:=aS (iE:=[.agg x.svs]) (yZ _ e x.cs m3 (aq _) hx) (fun V=>rfl);simp only[go_sem,jq,not_true_eq_false];refine ab (hv.mono ?_);clear hv;rintro r H' m4 dc ⟨l4,rfl,rfl⟩;have hd:=aS (iE:=[.agg x.svs]) (BU _ e x.cs m4 (aq _) He (aU l4 hx)) (fun V=>rfl);have u4:=aa u3 l4;cases wb:dm e with
     |false=>
      rw[ae (by rw[wb];decide)] at eK;simp only[go_sem];rw[eK];exact⟨u4,⟨0,0,[],[],af,none,0,0⟩,rfl,hz _,rfl⟩
     |true=>
      rw[ah wb] at eK;simp only[go_sem,not_true_eq_false];refine ab (hd.mono ?_);clear hd;rintro r H' m5 b9 ⟨l5,rfl,rfl⟩;have u5:=aa u4 l5;simp only[go_sem];refine⟨fun hd=> ?_,fun hd=> ?_⟩
      ·rw[eK,ah (by omega)];exact⟨u5,⟨0,0,[],[],af,none,0,0⟩,rfl,hz _,rfl⟩
      ·rw[eK,ae (by omega)];exact⟨u5,x,rfl,aU (aa l4 l5) hx,rfl⟩
   ·have eR:iM t=(zE,lQ t.length ((aD t).1.drop k),71):=by
     rw[e0,lg,dU hK]
    simp only[go_sem,not_false_eq_true,false_and,false_implies,true_implies,and_true,true_or];refine⟨by kernel_rfl,fun a2 c2 m4 w1 w2 w3=>cE ((E1 hT t hk a2 c2 m4 ht w3).mono ?_)⟩;rintro r H' m5 b9 ⟨rfl,rfl,rfl⟩;simp only[go_sem];rw[eR];exact⟨aa u3 (.inr w1),⟨0,0,[],[],af,none,0,0⟩,rfl,hz _,rfl⟩
 ·have h1:=MK hk h0;have e0:iM t=(zE,(aD t).2.1,(aD t).2.2):=ae h0;rw[e0];refine aH aw Tryz.func14 ?_
  ·simp only[go_sem];refine ab (h1.mono ?_);clear h1;rintro r H' m1 aJ ⟨l1,rfl,rfl⟩;simp only[go_sem];refine⟨fun _=>⟨l1,⟨0,0,[],[],af,none,0,0⟩,rfl,hz _,rfl⟩,fun h=>absurd h h0⟩
theorem QW (t:List UInt8) (m:Mem) (ht:t.length<=4611686018427387904):FnH Tryz.prog 16 [.v (.string (bs t))] ⟨[],[]⟩ m (OB (nC t) m):=by
 have hk:=Iy t m ht;have hT:=LF t;have hl:=qW t;by_cases h0:(aD t).2.2=0
 ·have h1:=MJ hk h0
  have e0:nC t=(match ld [] (aD t).1 with
   | .error r=>([],lQ t.length r,71)
   | .ok x=>if(fB [] [jI x.1]).2=0 then(x.1,0,0) else([],0,(fB [] [jI x.1]).2)):=ah h0
  refine jv (aH aw Tryz.func16 ?_)
  ·simp only[go_sem];refine ab (h1.mono ?_);clear h1;rintro r H' m1 aJ ⟨l1,rfl,rfl⟩;simp only[go_sem,not_true_eq_false];refine qV 8 73 23 (by decide) rfl ?_;refine cK aw (fun y:Nat×List St×List Value×Nat×Mem=>⟨[⟨0,[],.v (.string (bs t))⟩,⟨5,[],.vec 0 0⟩,⟨8,[],.vec 1 y.2.2.2.1⟩,⟨9,[],.v (.int .i64 y.1)⟩],[],[],[⟨1,y.2.2.2.1,73,23,y.2.1.length,y.2.2.1⟩,Dp (aD t).1],40,y.2.2.2.2⟩)
    (fun y=>ak m1 y.2.2.2.2/\y.1<=(aD t).1.length/\y.2.1.length<=y.1/\y.2.2.1.length=y.2.1.length * 23/\bj y.2.2.2.2 y.2.1 y.2.2.1/\ld y.2.1 ((aD t).1.drop y.1)=ld [] (aD t).1)
    (fun y=>(aD t).1.length - y.1) (0,[],[],0,m1) (fun _ _=>dO rfl) (fun y hy=>hy.1) ?_ ?_ ?_
   ·simp only[go_sem];exact rfl
   ·exact⟨.inl rfl,au _,au _,rfl,dy _ _,rfl⟩
   ·rintro⟨i,ds,xs,u,m4⟩ ⟨q1,q2,q3,q4,q5,q6⟩;dsimp only at q1 q2 q3 q4 q5 q6;by_cases hi:i<(aD t).1.length
    ·have jq:((i:Int)<(aD t).1.length)=True:=eq_true (by omega);have hS:=fun a c m' hr=>(rsx hT q2).st a c m' hr
     have hO:=fun k (hk:k<=(aD t).1.length) a c m' hr=>E1 hT t hk a c m' ht hr
     simp only[go_sem,jq,not_true_eq_false,not_false_eq_true,false_implies,true_implies,and_true,true_and];refine⟨by kernel_rfl,fun a c m5 w1 w2 w3=>cE ((hS a c m5 w3).mono ?_)⟩;clear hS;rintro r H' m6 ej ⟨l6,rfl,x6,k6,b6,rfl,dD,⟨rfl,d6,hK6,hd6⟩ |⟨rfl,hK6⟩⟩
     ·have ao:i<k6:=by
       have:=F1 _ _ _ hK6;rw[cj,cj] at this;omega
      have u6:ak m4 m6:=aa (.inr w1) l6;simp only[go_sem];refine⟨gD (by omega) (by decide),(k6,ds++[d6],xs++x6.cs,u+1,m6),⟨⟨rfl,rfl⟩,⟨rfl,by simp,rfl⟩,.inl rfl⟩,⟨aa q1 u6,dD,?_,by simp only[bY,fI,q4,Sd.cs,cC,fm];omega,zu hd6 q4 (kz u6 q5),?_⟩,?_⟩
      ·dsimp only;rw[bY,fI];omega
      ·dsimp only;rw[<- q6,zC ds,ae (fun h=>by have:=congrArg List.length h;rw[cj] at this;simp at this;omega),bQ hK6]
      ·dsimp only;omega
     ·have e:nC t=([],lQ t.length ((aD t).1.drop k6),71):=by
       rw[e0,<- q6,zC,ae (fun h=>by have:=congrArg List.length h;rw[cj] at this;simp at this;omega),dU hK6]
      simp only[go_sem];refine⟨by kernel_rfl,fun a2 c2 m7 x1 x2 x3=>cE ((hO k6 dD a2 c2 m7 x3).mono ?_)⟩;clear hO;rintro r H' m8 jP ⟨rfl,rfl,rfl⟩;simp only[go_sem];rw[e];exact .inl ⟨aa l1 (aa q1 (aa (.inr w1) (aa l6 (.inr x1)))),none,0,0,rfl,xG _,rfl⟩
    ·have kf:(aD t).1.drop i=[]:=List.drop_eq_nil_of_le (by omega);have jq:((i:Int)<(aD t).1.length)=False:=eq_false (by omega);have hK:ld [] (aD t).1= .ok (ds,[]):=by rw[<- q6,kf,zC,ah rfl]
     simp only[go_sem,jq,not_true_eq_false,not_false_eq_true,false_implies,true_implies,and_true,true_and];intro a c m6 w1 w2 w3;refine⟨by kernel_rfl,fun a9 c9 m7 v1 v2 v3=>cE ?_⟩;have jO:([jI ds].map eI).sum<=1048576:=by
      have:=LJ (aD t).1 ds [] hK;have:=qW t;simp only[bh,List.map_nil,List.sum_cons,List.sum_nil,eI,jI,fm] at *;omega
     rw[hK] at e0;have rE:ds.length<=az:=by unfold az;omega
     have wM:CdOk (jI ds):=⟨(⟨by decide,by decide⟩:ax 0),(by decide:([65]:List UInt8).length<=az),(by decide:jX.length<=az),au _,fun s hs=>(by cases hs),au _,fun s hs=>(by cases hs),au _,rE⟩;have H7:lK m7 (jI ds) (Cc.cs ⟨0,[65],jX,none,0,0,none,0,0,none,0,0,a,ds.length,c⟩):=
      ⟨_,⟨rfl,rfl,rfl,rfl⟩,⟨rfl,aq _,rfl,aq _,rfl,aq _,rfl,w2⟩,wM,cv _ _,cv _ _,[],xs,cv _ _,trivial,aK (.inr v1) w3,kz (aa (.inr w1) (.inr v1)) q5⟩
     have aY:vN m7 [jI ds] a9 1 c9:=⟨rfl,v2,by decide,_,v3,⟨H7,trivial⟩⟩;have hc:=Ql [jI ds] a9 1 c9 m7 jO aY;refine hc.mono ?_;clear hc;rintro r H' m8 jP ⟨l8,rfl,rfl⟩;simp only[go_sem];refine⟨fun aV=> ?_,fun aV=> ?_⟩
     ·have e:nC t=([],0,(fB [] [jI ds]).2):=by rw[e0];exact ae aV
      rw[e];exact .inl ⟨aa l1 (aa q1 (aa (.inr w1) (aa (.inr v1) l8))),none,0,0,rfl,xG _,rfl⟩
     ·have e:nC t=(ds,0,0):=by rw[e0];exact ah aV
      rw[e];exact zG (b:=⟨1,u,73,23,ds.length,xs⟩) (by simp [cS]) fun a8 c8 mz x1 x2 x3=>⟨aa l1 (aa q1 (aa (.inr w1) (aa (.inr v1) (aa l8 (.inr x1))))),a8,ds.length,c8,rfl,⟨rfl,x2,rE,xs,x3,kz (aa (.inr w1) (aa (.inr v1) (aa l8 (.inr x1)))) q5⟩,rfl⟩
 ·have h1:=MK hk h0;have e0:nC t=([],(aD t).2.1,(aD t).2.2):=ae h0;rw[e0];refine aH aw Tryz.func16 ?_
  ·simp only[go_sem];refine ab (h1.mono ?_);clear h1;rintro r H' m1 aJ ⟨l1,rfl,rfl⟩;simp only[go_sem];refine⟨fun _=>⟨l1,none,0,0,rfl,(xG _),rfl⟩,fun h=>absurd h h0⟩
theorem Rl (t:List UInt8) (m:Mem) (hg:GlobX m) (ht:t.length<=4611686018427387904):FnH Tryz.prog 4 [.v (.string (bs t))] ⟨[],[]⟩ m fun r H' m' =>ak m m' /\r= .v (.bool true)/\H' =⟨[],[]⟩:=by
 have hw:=fun m' (h:ak m m')=>QF m' (hg.upM h)
 have k1:=zj t m hg ht;have k2:=fun m' =>QU t m' ht
 have k3:=fun m' (h:ak m m')=>LA t m' (hg.upM h) ht
 have k4:=fun m' =>QW t m' ht
 refine aH aw Tryz.func4 ?_
 ·simp only[go_sem];refine⟨fun h4=>ab ((hw m (.inl rfl)).mono ?_),fun h4=> ?_⟩
  ·clear hw k1 k2 k3 k4;rintro r H' m1 aJ ⟨l1,rfl,rfl⟩;simp only[go_sem];exact l1
  ·refine ab (k1.mono ?_);clear k1;rintro r H' m1 aJ ⟨u1,y1,rfl,r1,rfl⟩;simp only[go_sem];refine ab ((k2 m1).mono ?_);clear k2;rintro r H' m2 aG ⟨l2,y2,rfl,r2,rfl⟩;have u2:=aa u1 l2;simp only[go_sem];refine ab ((k3 m2 u2).mono ?_);clear k3;rintro r H' m3 bu ⟨l3,a3,n3,c3,rfl,r3,rfl⟩;have u3:=aa u2 l3;simp only[go_sem];refine ab ((k4 m3).mono ?_);clear k4;rintro r H' m4 dc ⟨l4,a4,n4,c4,rfl,r4,rfl⟩;have u4:=aa u3 l4;have kX:=aS (iE:=[.agg y1.svs,.agg y2.svs]) (Co _ (iM t).1 (iM t).1 y1.cs y2.cs m4 (aq _) (aU (aa l2 (aa l3 l4)) r1) (aU (aa l3 l4) r2)) (fun V=>rfl);rw[Cx] at kX;have kB:=fun m' (h:ak m4 m')=>RW m' (MD (aa l4 h) r3) (MD h r4)
   rw[Cb] at kB;simp only[go_sem];refine ab (kX.mono ?_);clear kX;rintro r H' m5 b9 ⟨l5,rfl,rfl⟩;have u5:=aa u4 l5;simp only[go_sem,not_true_eq_false,or_self,or_false,false_or,false_implies,true_implies,and_true,true_and,and_self];refine ab ((kB m5 l5).mono ?_);clear kB;rintro r H' m6 ej ⟨l6,rfl,rfl⟩;have u6:=aa u5 l6;simp only[go_sem,not_true_eq_false,or_self,or_false,false_or,false_implies,true_implies,and_true,true_and,and_self];refine ab ((hw m6 u6).mono ?_);clear hw;rintro r H' m7 gb ⟨l7,rfl,rfl⟩;simp only[go_sem];exact aa u6 l7
end Go.Proofs.YtimddhkipjedcaaGreatDoor.E

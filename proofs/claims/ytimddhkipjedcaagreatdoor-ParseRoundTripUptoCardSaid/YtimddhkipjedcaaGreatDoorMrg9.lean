/- Several texts in one. -/
import Derived.Test.YtimddhkipjedcaaGreatDoorMrg8
set_option linter.unusedSimpArgs false
set_option linter.unusedVariables false
set_option maxHeartbeats 4000000
set_option maxRecDepth 20000
namespace Go.Proofs.YtimddhkipjedcaaGreatDoor.E
open Go
theorem Yr (e:Ex):(lY e).1.length<=4611686018427387904:=by
 unfold lY;split
 ·split
  ·exact aD _
  ·exact cX N8 (by decide)
 ·exact aD _
theorem Yg (l:List Cd) (p:Option Addr) (n c:Nat) (e:Ex) (x:Nd) (m:Mem) (hg:GlobX m) (h:oT m l p n c) (hz:(l.map ea).sum<=1048576) (hx:bw m e x.cs) (hze:dd e<=aq) (hde:bU e<=aq):
  FnH Tryz.prog 5 [.v (.slice p n c),.v (.agg ⟨x.cs⟩)] ⟨[],[]⟩ m fun r H' m' =>ae m m' /\r= .v (.bool true)/\H' =⟨[],[]⟩:=by
 have hw:=fun m' (h:ae m m')=>XB m' (hg.upM h)
 have hW:=Rf h;have hF:=WE l p n c m hz h;have hP:=fun m' (h:ae m m')=>OH (nK l).1 m' (hg.upM h) (Yq _)
 have hcn:=canon hW hz;have Ec:=fun m' (h:ae m m')=>aP (jb:=[.agg x.svs]) (Xd e x.cs m' (bq h hx) hze hde) (fun V=>rfl)
 have zh:=fun m' (h:ae m m')=>BO (lY e).1 m' (hg.upM h) (Yr _)
 have VP:=afQ (Cf _ _ hx);refine aP (args:=[.v (.slice p n c),.agg x.svs]) ?_ (fun V=>rfl);refine aR aB Tryz.func5 ?_
 ·simp only[go_sem,Nd.svs];refine⟨fun h8=>ab ((hw m (.inl rfl)).mono ?_),fun h8=> ?_⟩
  ·clear hw hF hP Ec zh;rintro r H' m1 aN ⟨l1,rfl,rfl⟩;simp only[go_sem];exact l1
  ·refine ab (hF.mono ?_);clear hF;rintro r H' m1 aN ⟨l1,rfl,rfl⟩;by_cases hf:(nK l).2=0
   ·have MG:=hP m1 l1;rw[hcn hf] at MG;clear hP;simp only[go_sem,hf,not_true_eq_false];refine ab (MG.mono ?_);clear MG;rintro r H' m2 aH ⟨l2,a2,n2,c2,rfl,r2,rfl⟩;have u2:=aa l1 l2;have kE:=Xh l l p n c a2 n2 c2 m2 (aaS u2 h) r2;rw[BW abH] at kE;simp only[go_sem];refine ab (kE.mono ?_);clear kE;rintro r H' m3 bI ⟨l3,rfl,rfl⟩;have u3:=aa u2 l3;simp only[go_sem,not_true_eq_false];refine ab ((Ec m3 u3).mono ?_);clear Ec;rintro r H' m4 cQ ⟨l4,rfl,rfl⟩;have u4:=aa u3 l4;by_cases vL:(lY e).2=0
    ·have zi:=zh m4 u4;rw[VP vL] at zi;clear zh;simp only[go_sem,vL,not_true_eq_false];refine ab (zi.mono ?_);clear zi;rintro r H' m5 cK ⟨l5,y5,rfl,r5,rfl⟩;have u5:=aa u4 l5;have kX:=aP (jb:=[.agg x.svs,.agg y5.svs]) (B3 _ e e x.cs y5.cs m5 (av _) (bq u5 hx) r5) (fun V=>rfl);rw[Ca] at kX;simp only[go_sem];refine ab (kX.mono ?_);clear kX;rintro r H' m6 ej ⟨l6,rfl,rfl⟩;have u6:=aa u5 l6;simp only[go_sem,not_true_eq_false];refine ab ((hw m6 u6).mono ?_);clear hw;rintro r H' m7 eW ⟨l7,rfl,rfl⟩;simp only[go_sem];exact aa u6 l7
    ·clear zh;simp only[go_sem,vL];refine ab ((hw m4 u4).mono ?_);clear hw;rintro r H' m7 eW ⟨l7,rfl,rfl⟩;simp only[go_sem];exact aa u4 l7
   ·clear hP;simp only[go_sem,hf];refine ab ((Ec m1 l1).mono ?_);clear Ec;rintro r H' m4 cQ ⟨l4,rfl,rfl⟩;have u4:=aa l1 l4;by_cases vL:(lY e).2=0
    ·have zi:=zh m4 u4;rw[VP vL] at zi;clear zh;simp only[go_sem,vL,not_true_eq_false];refine ab (zi.mono ?_);clear zi;rintro r H' m5 cK ⟨l5,y5,rfl,r5,rfl⟩;have u5:=aa u4 l5;have kX:=aP (jb:=[.agg x.svs,.agg y5.svs]) (B3 _ e e x.cs y5.cs m5 (av _) (bq u5 hx) r5) (fun V=>rfl);rw[Ca] at kX;simp only[go_sem];refine ab (kX.mono ?_);clear kX;rintro r H' m6 ej ⟨l6,rfl,rfl⟩;have u6:=aa u5 l6;simp only[go_sem,not_true_eq_false];refine ab ((hw m6 u6).mono ?_);clear hw;rintro r H' m7 eW ⟨l7,rfl,rfl⟩;simp only[go_sem];exact aa u6 l7
    ·clear zh;simp only[go_sem,vL];refine ab ((hw m4 u4).mono ?_);clear hw;rintro r H' m7 eW ⟨l7,rfl,rfl⟩;simp only[go_sem];exact aa u4 l7
end Go.Proofs.YtimddhkipjedcaaGreatDoor.E

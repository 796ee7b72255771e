/- Several texts in one: AstRf, AstRh, AstTe, AstTf, AstTg, AstTj, AstTk, AstTl, AstSb, AstSe, AstVn. -/
import Derived.Test.YtimddhkipjedcaaGreatDoorMrg7
set_option linter.unusedSimpArgs false
set_option linter.unusedVariables false
set_option maxHeartbeats 4000000
set_option maxRecDepth 20000
namespace Go.Proofs.YtimddhkipjedcaaGreatDoor.E
open Go
structure RArgOk (args:List Ex) (a:Option Addr) (cp:Nat) (m:Mem):Prop where
 opd:∀(i o:Nat) (m' :Mem) (_:i<args.length),ae m m' ->o=i * 8->∃x:Nd,(Rd m' (cM a o) x.cs/\a≠none)/\
  (∀m2,ae m' m2->(dR (aS args) i).length<=cap->bS 104 [.v (.agg ⟨x.cs⟩)] m2 (dR (aS args) i))/\
  (∀m2,ae m' m2->(fN (aS args) i).length<=cap->bS 41 [.v (.agg ⟨x.cs⟩)] m2 (fN (aS args) i))
 lst:∀m',ae m m' ->(bF true ((aS args).map (·.2))).length<=cap->bS 106 [.v (.slice a args.length cp)] m' (bF true ((aS args).map (·.2)))
 lst1:1<=args.length->∀m',ae m m' ->(bF true (((aS args).drop 1).map (·.2))).length<=cap->bS 106 [.v (Le a cp 1 args.length 8)] m' (bF true (((aS args).drop 1).map (·.2)))
theorem aiP (n:Int) (s c:List UInt8) (ty:Ty) (args:List Ex) (a:Option Addr) (cp:Nat) (m:Mem) (bg:args.length<=cp) (hn:args.length<=av) (bL:ty.dim<=1000) (hA:RArgOk args a cp m)
  (hb:(bW 1 n s c ty (aS args)).length<=cap):bS 41 [.v (.agg ⟨aK 1 n s c ty (.slice a args.length cp)⟩)] m (bW 1 n s c ty (aS args)):=by
 have hT:bW 1 n s c ty (aS args)=[⟨3,[],n,0⟩]:=rfl;rw[hT] at hb ⊢;clear hT;refine ew ?_;refine enter jA cG Tryz.func41 rfl rfl (by kernel_rfl) rfl ?_ ?_
 ·simp only[go_sem,aK]
 ·simp only[go_sem,aK,Int.reduceEq,ao,aq];refine ab ((cV _ _ m).mono ?_);rintro r H' m1 aN ⟨rfl,rfl,rfl⟩;simp only[go_sem,aK];exact⟨_,_,rfl,rfl⟩
theorem aiO (n:Int) (s c:List UInt8) (ty:Ty) (args:List Ex) (a:Option Addr) (cp:Nat) (m:Mem) (bg:args.length<=cp) (hn:args.length<=av) (bL:ty.dim<=1000) (hA:RArgOk args a cp m)
  (hb:(bW 2 n s c ty (aS args)).length<=cap):bS 41 [.v (.agg ⟨aK 2 n s c ty (.slice a args.length cp)⟩)] m (bW 2 n s c ty (aS args)):=by
 have hT:bW 2 n s c ty (aS args)=[⟨4,[],n,0⟩]:=rfl;rw[hT] at hb ⊢;clear hT;refine ew ?_;refine enter jA cG Tryz.func41 rfl rfl (by kernel_rfl) rfl ?_ ?_
 ·simp only[go_sem,aK]
 ·simp only[go_sem,aK,Int.reduceEq,ao,aq];refine ab ((cV _ _ m).mono ?_);rintro r H' m1 aN ⟨rfl,rfl,rfl⟩;simp only[go_sem,aK];exact⟨_,_,rfl,rfl⟩
theorem aiN (n:Int) (s c:List UInt8) (ty:Ty) (args:List Ex) (a:Option Addr) (cp:Nat) (m:Mem) (bg:args.length<=cp) (hn:args.length<=av) (bL:ty.dim<=1000) (hA:RArgOk args a cp m)
  (hb:(bW 3 n s c ty (aS args)).length<=cap):bS 41 [.v (.agg ⟨aK 3 n s c ty (.slice a args.length cp)⟩)] m (bW 3 n s c ty (aS args)):=by
 have hT:bW 3 n s c ty (aS args)=[⟨5,s,0,0⟩]:=rfl;rw[hT] at hb ⊢;clear hT;refine ew ?_;refine enter jA cG Tryz.func41 rfl rfl (by kernel_rfl) rfl ?_ ?_
 ·simp only[go_sem,aK]
 ·simp only[go_sem,aK,Int.reduceEq,ao,aq];refine ab ((cV _ _ m).mono ?_);rintro r H' m1 aN ⟨rfl,rfl,rfl⟩;simp only[go_sem,aK];exact⟨_,_,rfl,rfl⟩
theorem aiM (n:Int) (s c:List UInt8) (ty:Ty) (args:List Ex) (a:Option Addr) (cp:Nat) (m:Mem) (bg:args.length<=cp) (hn:args.length<=av) (bL:ty.dim<=1000) (hA:RArgOk args a cp m)
  (hb:(bW 4 n s c ty (aS args)).length<=cap):bS 41 [.v (.agg ⟨aK 4 n s c ty (.slice a args.length cp)⟩)] m (bW 4 n s c ty (aS args)):=by
 have hT:bW 4 n s c ty (aS args)=[kw [110,117,108,108]]:=rfl;rw[hT] at hb ⊢;clear hT;refine ew ?_;refine enter jA cG Tryz.func41 rfl rfl (by kernel_rfl) rfl ?_ ?_
 ·simp only[go_sem,aK]
 ·simp only[go_sem,aK,Int.reduceEq,ao,aq];refine ab ((cV _ _ m).mono ?_);rintro r H' m1 aN ⟨rfl,rfl,rfl⟩;simp only[go_sem,aK];exact⟨_,_,rfl,rfl⟩
theorem aiL (n:Int) (s c:List UInt8) (ty:Ty) (args:List Ex) (a:Option Addr) (cp:Nat) (m:Mem) (bg:args.length<=cp) (hn:args.length<=av) (bL:ty.dim<=1000) (hA:RArgOk args a cp m)
  (hb:(bW 5 n s c ty (aS args)).length<=cap):bS 41 [.v (.agg ⟨aK 5 n s c ty (.slice a args.length cp)⟩)] m (bW 5 n s c ty (aS args)):=by
 have hT:bW 5 n s c ty (aS args)=[kw [116,104,105,115]]:=rfl;rw[hT] at hb ⊢;clear hT;refine ew ?_;refine enter jA cG Tryz.func41 rfl rfl (by kernel_rfl) rfl ?_ ?_
 ·simp only[go_sem,aK]
 ·simp only[go_sem,aK,Int.reduceEq,ao,aq];refine ab ((cV _ _ m).mono ?_);rintro r H' m1 aN ⟨rfl,rfl,rfl⟩;simp only[go_sem,aK];exact⟨_,_,rfl,rfl⟩
theorem aiK (n:Int) (s c:List UInt8) (ty:Ty) (args:List Ex) (a:Option Addr) (cp:Nat) (m:Mem) (bg:args.length<=cp) (hn:args.length<=av) (bL:ty.dim<=1000) (hA:RArgOk args a cp m)
  (hb:(bW 6 n s c ty (aS args)).length<=cap):bS 41 [.v (.agg ⟨aK 6 n s c ty (.slice a args.length cp)⟩)] m (bW 6 n s c ty (aS args)):=by
 have hT:bW 6 n s c ty (aS args)=[aM s]:=rfl;rw[hT] at hb ⊢;clear hT;refine ew ?_;refine enter jA cG Tryz.func41 rfl rfl (by kernel_rfl) rfl ?_ ?_
 ·simp only[go_sem,aK]
 ·simp only[go_sem,aK,Int.reduceEq,ao,aq];refine ab ((cV _ _ m).mono ?_);rintro r H' m1 aN ⟨rfl,rfl,rfl⟩;simp only[go_sem,aK];exact⟨_,_,rfl,rfl⟩
theorem aiJ (n:Int) (s c:List UInt8) (ty:Ty) (args:List Ex) (a:Option Addr) (cp:Nat) (m:Mem) (bg:args.length<=cp) (hn:args.length<=av) (bL:ty.dim<=1000) (hA:RArgOk args a cp m) (hl:1<=args.length)
  (hb:(bW 7 n s c ty (aS args)).length<=cap):bS 41 [.v (.agg ⟨aK 7 n s c ty (.slice a args.length cp)⟩)] m (bW 7 n s c ty (aS args)):=by
 have hT:bW 7 n s c ty (aS args)=List.flatten [dR (aS args) 0,[sg [46],aM s]]:=by simp [bW,bj,bF]
 rw[hT] at hb ⊢;clear hT;have dk:=hb;simp only[List.flatten_cons,List.flatten_nil,aI,aL,bh,cap] at hb;refine ew ?_;refine enter jA cG Tryz.func41 rfl rfl (by kernel_rfl) rfl ?_ ?_
 ·simp only[go_sem,aK]
 ·simp only[go_sem,aK,Int.reduceEq,ao,aq];refine bO (.hoist 0 (.hoist 1 (.hoist 2 (.hoist 3 (.hoist 6 (.hoist 7 (.alt 4 [7,6] (.alt 5 [7,6] (.alt 8 [] (.alt 9 [] (.alt 10 [] (.alt 11 [] (.alt 12 [] (.hoist 13 .done) .stop) .stop) .stop) .stop) .stop) .stop) .stop))))))) cG (by kernel_rfl) (by kernel_rfl) ?_;simp only[go_sem,aK];refine Exists.elim (hA.opd 0 0 m (by omega) (.inl rfl) rfl) fun x0 eL=>⟨⟨by omega,by omega,eL.1.2⟩,x0.cs,⟨eL.1.1,rfl⟩,?_⟩
  refine ab ((aQ (eL.2.1 m (.inl rfl:ae m m) (by simp only[cap];omega)) (fun V=>rfl)).mono ?_);rintro r H' m1 aN ⟨l1,rfl,rfl⟩;have L1:ae m m1:=aa (.inl rfl:ae m m) l1;simp only[go_sem,aK,Int.reduceEq,ao,aq,L1,and_self];refine ab ((cV _ _ m1).mono ?_);rintro r H' m2 aH ⟨rfl,rfl,_⟩;have l2:ae m1 m2:= .inr aH;have L2:ae m m2:=aa L1 l2;simp only[go_sem,aK,Int.reduceEq,ao,aq,L2,and_self];intro p0 q0 v0 dr dF s0;intro p1 q1 v1 aW dz s1;refine⟨by kernel_rfl,fun aj cj wj bc jx rj=>bo ((fW [dR (aS args) 0,[sg [46],aM s]] aj 2 cj _ wj rfl rj ⟨⟨p0,q0,rfl,dF,ax (aa (.inr aW) (.inr bc)) s0⟩,⟨⟨p1,q1,rfl,dz,ax (.inr bc) s1⟩,trivial⟩⟩ (by decide) dk).mono ?_)⟩;rintro r H' mj jw ⟨lj,rfl,rfl⟩;simp only[go_sem,aK,Int.reduceEq,ao,aq];exact⟨aa L2 (aa (aa (.inr dr) (aa (.inr aW) (.inr bc))) lj),_,_,rfl,rfl⟩
theorem aiI (n:Int) (s c:List UInt8) (ty:Ty) (args:List Ex) (a:Option Addr) (cp:Nat) (m:Mem) (bg:args.length<=cp) (hn:args.length<=av) (bL:ty.dim<=1000) (hA:RArgOk args a cp m)
  (hb:(bW 8 n s c ty (aS args)).length<=cap):bS 41 [.v (.agg ⟨aK 8 n s c ty (.slice a args.length cp)⟩)] m (bW 8 n s c ty (aS args)):=by
 have hT:bW 8 n s c ty (aS args)=[aM c,sg [46],aM s]:=rfl;rw[hT] at hb ⊢;clear hT;refine ew ?_;refine enter jA cG Tryz.func41 rfl rfl (by kernel_rfl) rfl ?_ ?_
 ·simp only[go_sem,aK]
 ·simp only[go_sem,aK,Int.reduceEq,ao,aq];refine bO (.hoist 0 (.hoist 1 (.hoist 4 (.hoist 5 (.alt 2 [5,4] (.alt 3 [5,4] (.alt 6 [] (.alt 7 [] (.alt 8 [] (.hoist 9 .done) .stop) .stop) .stop) .stop) .stop))))) cG (by kernel_rfl) (by kernel_rfl) ?_;simp only[go_sem,aK];refine ab ((cV _ _ m).mono ?_);rintro r H' m1 aN ⟨rfl,rfl,rfl⟩;simp only[go_sem,aK];exact⟨_,_,rfl,rfl⟩
theorem aiH (n:Int) (s c:List UInt8) (ty:Ty) (args:List Ex) (a:Option Addr) (cp:Nat) (m:Mem) (bg:args.length<=cp) (hn:args.length<=av) (bL:ty.dim<=1000) (hA:RArgOk args a cp m) (hl:2<=args.length)
  (hb:(bW 9 n s c ty (aS args)).length<=cap):bS 41 [.v (.agg ⟨aK 9 n s c ty (.slice a args.length cp)⟩)] m (bW 9 n s c ty (aS args)):=by
 have hT:bW 9 n s c ty (aS args)=List.flatten [dR (aS args) 0,[sg [91]],fN (aS args) 1,[sg [93]]]:=by simp [bW,bj,bF]
 rw[hT] at hb ⊢;clear hT;have dk:=hb;simp only[List.flatten_cons,List.flatten_nil,aI,aL,bh,cap] at hb;refine ew ?_;refine enter jA cG Tryz.func41 rfl rfl (by kernel_rfl) rfl ?_ ?_
 ·simp only[go_sem,aK]
 ·simp only[go_sem,aK,Int.reduceEq,ao,aq];refine bO (.hoist 0 (.hoist 1 (.hoist 2 (.hoist 3 (.hoist 8 (.hoist 9 (.hoist 10 (.hoist 11 (.alt 4 [11,10,9,8] (.alt 5 [11,10,9,8] (.alt 6 [11,10,9,8] (.alt 7 [11,10,9,8] (.alt 12 [] (.alt 13 [] (.alt 14 [] (.alt 15 [] (.alt 16 [] (.alt 17 [] (.hoist 18 .done) .stop) .stop) .stop) .stop) .stop) .stop) .stop) .stop) .stop) .stop))))))))) cG (by kernel_rfl) (by kernel_rfl) ?_;simp only[go_sem,aK];refine Exists.elim (hA.opd 0 0 m (by omega) (.inl rfl) rfl) fun x0 eL=>⟨⟨by omega,by omega,eL.1.2⟩,x0.cs,⟨eL.1.1,rfl⟩,?_⟩
  refine Exists.elim (hA.opd 1 8 m (by omega) (.inl rfl) rfl) fun x1 lT=>⟨⟨by omega,by omega,lT.1.2⟩,x1.cs,⟨lT.1.1,rfl⟩,?_⟩
  refine ab ((aQ (eL.2.1 m (.inl rfl:ae m m) (by simp only[cap];omega)) (fun V=>rfl)).mono ?_);rintro r H' m1 aN ⟨l1,rfl,rfl⟩;have L1:ae m m1:=aa (.inl rfl:ae m m) l1;simp only[go_sem,aK,Int.reduceEq,ao,aq,L1,and_self];refine ab ((cV _ _ m1).mono ?_);rintro r H' m2 aH ⟨rfl,rfl,_⟩;have l2:ae m1 m2:= .inr aH;have L2:ae m m2:=aa L1 l2;simp only[go_sem,aK,Int.reduceEq,ao,aq,L2,and_self];refine ab ((aQ (lT.2.2 m2 L2 (by simp only[cap];omega)) (fun V=>rfl)).mono ?_);rintro r H' m3 bI ⟨l3,rfl,rfl⟩;have L3:ae m m3:=aa L2 l3;simp only[go_sem,aK,Int.reduceEq,ao,aq,L3,and_self];refine ab ((cV _ _ m3).mono ?_);rintro r H' m4 cT ⟨rfl,rfl,_⟩;have l4:ae m3 m4:= .inr cT;have L4:ae m m4:=aa L3 l4;simp only[go_sem,aK,Int.reduceEq,ao,aq,L4,and_self];intro p0 q0 v0 dr dF s0;intro p1 q1 v1 aW dz s1;intro p2 q2 v2 aA fQ s2;intro p3 q3 v3 ja mM s3;refine⟨by kernel_rfl,fun aj cj wj bc jx rj=>bo ((fW [dR (aS args) 0,[sg [91]],fN (aS args) 1,[sg [93]]] aj 4 cj _ wj rfl rj ⟨⟨p0,q0,rfl,dF,ax (aa (.inr aW) (aa (.inr aA) (aa (.inr ja) (.inr bc)))) s0⟩,⟨⟨p1,q1,rfl,dz,ax (aa (.inr aA) (aa (.inr ja) (.inr bc))) s1⟩,⟨⟨p2,q2,rfl,fQ,ax (aa (.inr ja) (.inr bc)) s2⟩,⟨⟨p3,q3,rfl,mM,ax (.inr bc) s3⟩,trivial⟩⟩⟩⟩ (by decide) dk).mono ?_)⟩;rintro r H' mj jw ⟨lj,rfl,rfl⟩;simp only[go_sem,aK,Int.reduceEq,ao,aq];exact⟨aa L4 (aa (aa (.inr dr) (aa (.inr aW) (aa (.inr aA) (aa (.inr ja) (.inr bc))))) lj),_,_,rfl,rfl⟩
theorem afO (n:Int) (s c:List UInt8) (ty:Ty) (args:List Ex) (a:Option Addr) (cp:Nat) (m:Mem) (bg:args.length<=cp) (hn:args.length<=av) (bL:ty.dim<=1000) (hA:RArgOk args a cp m) (hl:1<=args.length)
  (hb:(bW 10 n s c ty (aS args)).length<=cap):bS 41 [.v (.agg ⟨aK 10 n s c ty (.slice a args.length cp)⟩)] m (bW 10 n s c ty (aS args)):=by
 have hT:bW 10 n s c ty (aS args)=List.flatten [dR (aS args) 0,[sg [46],aM s],(sg [40]::(bF true (((aS args).drop 1).map (·.2))++[sg [41]]))]:=by simp [bW,bj,bF]
 rw[hT] at hb ⊢;clear hT;have dk:=hb;simp only[List.flatten_cons,List.flatten_nil,aI,aL,bh,cap] at hb;refine ew ?_;refine enter jA cG Tryz.func41 rfl rfl (by kernel_rfl) rfl ?_ ?_
 ·simp only[go_sem,aK]
 ·simp only[go_sem,aK,Int.reduceEq,ao,aq];refine bO (.hoist 0 (.hoist 1 (.hoist 2 (.hoist 3 (.hoist 6 (.hoist 7 (.hoist 11 (.hoist 12 (.hoist 13 (.alt 4 [13,12,11,7,6] (.alt 5 [13,12,11,7,6] (.alt 8 [13,12,11] (.alt 9 [13,12,11] (.alt 10 [13,12,11] (.alt 14 [] (.alt 15 [] (.alt 16 [] (.alt 17 [] (.hoist 18 .done) .stop) .stop) .stop) .stop) .stop) .stop) .stop) .stop) .stop)))))))))) cG (by kernel_rfl) (by kernel_rfl) ?_;simp only[go_sem,aK];refine Exists.elim (hA.opd 0 0 m (by omega) (.inl rfl) rfl) fun x0 eL=>⟨⟨by omega,by omega,eL.1.2⟩,x0.cs,⟨eL.1.1,rfl⟩,?_⟩
  refine⟨⟨by omega,by omega,by omega⟩,?_⟩;refine ab ((aQ (eL.2.1 m (.inl rfl:ae m m) (by simp only[cap];omega)) (fun V=>rfl)).mono ?_);rintro r H' m1 aN ⟨l1,rfl,rfl⟩;have L1:ae m m1:=aa (.inl rfl:ae m m) l1;simp only[go_sem,aK,Int.reduceEq,ao,aq,L1,and_self];refine ab ((cV _ _ m1).mono ?_);rintro r H' m2 aH ⟨rfl,rfl,_⟩;have l2:ae m1 m2:= .inr aH;have L2:ae m m2:=aa L1 l2;simp only[go_sem,aK,Int.reduceEq,ao,aq,L2,and_self];refine ab ((hA.lst1 hl m2 L2 (by simp only[cap];omega)).mono ?_);rintro r H' m3 bI ⟨l3,rfl,rfl⟩;have L3:ae m m3:=aa L2 l3;simp only[go_sem,aK,Int.reduceEq,ao,aq,L3,and_self];refine⟨by kernel_rfl,fun a4 c4 w4 kr qL r4=>bo ((mP _ a4 c4 w4 r4 (by simp only[cap];omega)).mono ?_)⟩;rintro r H' m4 cT ⟨l4,rfl,rfl⟩;have L4:ae m m4:=aa L3 (aa (.inr kr) l4);simp only[go_sem,aK,Int.reduceEq,ao,aq,L4,and_self];intro p0 q0 v0 dr dF s0;intro p1 q1 v1 aW dz s1;intro p2 q2 v2 aA fQ s2;refine⟨by kernel_rfl,fun aj cj wj bc jx rj=>bo ((fW [dR (aS args) 0,[sg [46],aM s],(sg [40]::(bF true (((aS args).drop 1).map (·.2))++[sg [41]]))] aj 3 cj _ wj rfl rj ⟨⟨p0,q0,rfl,dF,ax (aa (.inr aW) (aa (.inr aA) (.inr bc))) s0⟩,⟨⟨p1,q1,rfl,dz,ax (aa (.inr aA) (.inr bc)) s1⟩,⟨⟨p2,q2,rfl,fQ,ax (.inr bc) s2⟩,trivial⟩⟩⟩ (by decide) dk).mono ?_)⟩;rintro r H' mj jw ⟨lj,rfl,rfl⟩;simp only[go_sem,aK,Int.reduceEq,ao,aq];exact⟨aa L4 (aa (aa (.inr dr) (aa (.inr aW) (aa (.inr aA) (.inr bc)))) lj),_,_,rfl,rfl⟩
theorem afN (n:Int) (s c:List UInt8) (ty:Ty) (args:List Ex) (a:Option Addr) (cp:Nat) (m:Mem) (bg:args.length<=cp) (hn:args.length<=av) (bL:ty.dim<=1000) (hA:RArgOk args a cp m)
  (hb:(bW 11 n s c ty (aS args)).length<=cap):bS 41 [.v (.agg ⟨aK 11 n s c ty (.slice a args.length cp)⟩)] m (bW 11 n s c ty (aS args)):=by
 have hT:bW 11 n s c ty (aS args)=List.flatten [[aM c,sg [46],aM s],(sg [40]::(bF true ((aS args).map (·.2))++[sg [41]]))]:=by simp [bW,bj,bF]
 rw[hT] at hb ⊢;clear hT;have dk:=hb;simp only[List.flatten_cons,List.flatten_nil,aI,aL,bh,cap] at hb;refine ew ?_;refine enter jA cG Tryz.func41 rfl rfl (by kernel_rfl) rfl ?_ ?_
 ·simp only[go_sem,aK]
 ·simp only[go_sem,aK,Int.reduceEq,ao,aq];refine bO (.hoist 0 (.hoist 1 (.hoist 4 (.hoist 5 (.hoist 9 (.hoist 10 (.alt 2 [10,9,5,4] (.alt 3 [10,9,5,4] (.alt 6 [10,9] (.alt 7 [10,9] (.alt 8 [10,9] (.alt 11 [] (.alt 12 [] (.alt 13 [] (.alt 14 [] (.hoist 15 .done) .stop) .stop) .stop) .stop) .stop) .stop) .stop) .stop) .stop))))))) cG (by kernel_rfl) (by kernel_rfl) ?_;simp only[go_sem,aK];refine ab ((cV _ _ m).mono ?_);rintro r H' m1 aN ⟨rfl,rfl,_⟩;have l1:ae m m1:= .inr aN;have L1:ae m m1:=aa (.inl rfl:ae m m) l1;simp only[go_sem,aK,Int.reduceEq,ao,aq,L1,and_self];refine ab ((hA.lst m1 L1 (by simp only[cap];omega)).mono ?_);rintro r H' m2 aH ⟨l2,rfl,rfl⟩;have L2:ae m m2:=aa L1 l2;simp only[go_sem,aK,Int.reduceEq,ao,aq,L2,and_self];refine⟨by kernel_rfl,fun a3 c3 w3 mL qM r3=>bo ((mP _ a3 c3 w3 r3 (by simp only[cap];omega)).mono ?_)⟩;rintro r H' m3 bI ⟨l3,rfl,rfl⟩;have L3:ae m m3:=aa L2 (aa (.inr mL) l3);simp only[go_sem,aK,Int.reduceEq,ao,aq,L3,and_self];intro p0 q0 v0 dr dF s0;intro p1 q1 v1 aW dz s1;refine⟨by kernel_rfl,fun aj cj wj bc jx rj=>bo ((fW [[aM c,sg [46],aM s],(sg [40]::(bF true ((aS args).map (·.2))++[sg [41]]))] aj 2 cj _ wj rfl rj ⟨⟨p0,q0,rfl,dF,ax (aa (.inr aW) (.inr bc)) s0⟩,⟨⟨p1,q1,rfl,dz,ax (.inr bc) s1⟩,trivial⟩⟩ (by decide) dk).mono ?_)⟩;rintro r H' mj jw ⟨lj,rfl,rfl⟩;simp only[go_sem,aK,Int.reduceEq,ao,aq];exact⟨aa L3 (aa (aa (.inr dr) (aa (.inr aW) (.inr bc))) lj),_,_,rfl,rfl⟩
theorem afM (n:Int) (s c:List UInt8) (ty:Ty) (args:List Ex) (a:Option Addr) (cp:Nat) (m:Mem) (bg:args.length<=cp) (hn:args.length<=av) (bL:ty.dim<=1000) (hA:RArgOk args a cp m)
  (hb:(bW 12 n s c ty (aS args)).length<=cap):bS 41 [.v (.agg ⟨aK 12 n s c ty (.slice a args.length cp)⟩)] m (bW 12 n s c ty (aS args)):=by
 have hT:bW 12 n s c ty (aS args)=List.flatten [[kw [115,117,112,101,114],sg [46],aM s],(sg [40]::(bF true ((aS args).map (·.2))++[sg [41]]))]:=by simp [bW,bj,bF]
 rw[hT] at hb ⊢;clear hT;have dk:=hb;simp only[List.flatten_cons,List.flatten_nil,aI,aL,bh,cap] at hb;refine ew ?_;refine enter jA cG Tryz.func41 rfl rfl (by kernel_rfl) rfl ?_ ?_
 ·simp only[go_sem,aK]
 ·simp only[go_sem,aK,Int.reduceEq,ao,aq];refine bO (.hoist 2 (.hoist 3 (.hoist 7 (.hoist 8 (.alt 0 [8,7,3,2] (.alt 1 [8,7,3,2] (.alt 4 [8,7] (.alt 5 [8,7] (.alt 6 [8,7] (.alt 9 [] (.alt 10 [] (.alt 11 [] (.alt 12 [] (.hoist 13 .done) .stop) .stop) .stop) .stop) .stop) .stop) .stop) .stop) .stop))))) cG (by kernel_rfl) (by kernel_rfl) ?_;simp only[go_sem,aK];refine ab ((cV _ _ m).mono ?_);rintro r H' m1 aN ⟨rfl,rfl,_⟩;have l1:ae m m1:= .inr aN;have L1:ae m m1:=aa (.inl rfl:ae m m) l1;simp only[go_sem,aK,Int.reduceEq,ao,aq,L1,and_self];refine ab ((hA.lst m1 L1 (by simp only[cap];omega)).mono ?_);rintro r H' m2 aH ⟨l2,rfl,rfl⟩;have L2:ae m m2:=aa L1 l2;simp only[go_sem,aK,Int.reduceEq,ao,aq,L2,and_self];refine⟨by kernel_rfl,fun a3 c3 w3 mL qM r3=>bo ((mP _ a3 c3 w3 r3 (by simp only[cap];omega)).mono ?_)⟩;rintro r H' m3 bI ⟨l3,rfl,rfl⟩;have L3:ae m m3:=aa L2 (aa (.inr mL) l3);simp only[go_sem,aK,Int.reduceEq,ao,aq,L3,and_self];intro p0 q0 v0 dr dF s0;intro p1 q1 v1 aW dz s1;refine⟨by kernel_rfl,fun aj cj wj bc jx rj=>bo ((fW [[kw [115,117,112,101,114],sg [46],aM s],(sg [40]::(bF true ((aS args).map (·.2))++[sg [41]]))] aj 2 cj _ wj rfl rj ⟨⟨p0,q0,rfl,dF,ax (aa (.inr aW) (.inr bc)) s0⟩,⟨⟨p1,q1,rfl,dz,ax (.inr bc) s1⟩,trivial⟩⟩ (by decide) dk).mono ?_)⟩;rintro r H' mj jw ⟨lj,rfl,rfl⟩;simp only[go_sem,aK,Int.reduceEq,ao,aq];exact⟨aa L3 (aa (aa (.inr dr) (aa (.inr aW) (.inr bc))) lj),_,_,rfl,rfl⟩
theorem afL (n:Int) (s c:List UInt8) (ty:Ty) (args:List Ex) (a:Option Addr) (cp:Nat) (m:Mem) (bg:args.length<=cp) (hn:args.length<=av) (bL:ty.dim<=1000) (hA:RArgOk args a cp m)
  (hb:(bW 13 n s c ty (aS args)).length<=cap):bS 41 [.v (.agg ⟨aK 13 n s c ty (.slice a args.length cp)⟩)] m (bW 13 n s c ty (aS args)):=by
 have hT:bW 13 n s c ty (aS args)=List.flatten [[kw [110,101,119],aM c],(sg [40]::(bF true ((aS args).map (·.2))++[sg [41]]))]:=by simp [bW,bj,bF]
 rw[hT] at hb ⊢;clear hT;have dk:=hb;simp only[List.flatten_cons,List.flatten_nil,aI,aL,bh,cap] at hb;refine ew ?_;refine enter jA cG Tryz.func41 rfl rfl (by kernel_rfl) rfl ?_ ?_
 ·simp only[go_sem,aK]
 ·simp only[go_sem,aK,Int.reduceEq,ao,aq];refine bO (.hoist 1 (.hoist 2 (.hoist 6 (.hoist 7 (.alt 0 [7,6,2,1] (.alt 3 [7,6] (.alt 4 [7,6] (.alt 5 [7,6] (.alt 8 [] (.alt 9 [] (.alt 10 [] (.alt 11 [] (.hoist 12 .done) .stop) .stop) .stop) .stop) .stop) .stop) .stop) .stop))))) cG (by kernel_rfl) (by kernel_rfl) ?_;simp only[go_sem,aK];refine ab ((cV _ _ m).mono ?_);rintro r H' m1 aN ⟨rfl,rfl,_⟩;have l1:ae m m1:= .inr aN;have L1:ae m m1:=aa (.inl rfl:ae m m) l1;simp only[go_sem,aK,Int.reduceEq,ao,aq,L1,and_self];refine ab ((hA.lst m1 L1 (by simp only[cap];omega)).mono ?_);rintro r H' m2 aH ⟨l2,rfl,rfl⟩;have L2:ae m m2:=aa L1 l2;simp only[go_sem,aK,Int.reduceEq,ao,aq,L2,and_self];refine⟨by kernel_rfl,fun a3 c3 w3 mL qM r3=>bo ((mP _ a3 c3 w3 r3 (by simp only[cap];omega)).mono ?_)⟩;rintro r H' m3 bI ⟨l3,rfl,rfl⟩;have L3:ae m m3:=aa L2 (aa (.inr mL) l3);simp only[go_sem,aK,Int.reduceEq,ao,aq,L3,and_self];intro p0 q0 v0 dr dF s0;intro p1 q1 v1 aW dz s1;refine⟨by kernel_rfl,fun aj cj wj bc jx rj=>bo ((fW [[kw [110,101,119],aM c],(sg [40]::(bF true ((aS args).map (·.2))++[sg [41]]))] aj 2 cj _ wj rfl rj ⟨⟨p0,q0,rfl,dF,ax (aa (.inr aW) (.inr bc)) s0⟩,⟨⟨p1,q1,rfl,dz,ax (.inr bc) s1⟩,trivial⟩⟩ (by decide) dk).mono ?_)⟩;rintro r H' mj jw ⟨lj,rfl,rfl⟩;simp only[go_sem,aK,Int.reduceEq,ao,aq];exact⟨aa L3 (aa (aa (.inr dr) (aa (.inr aW) (.inr bc))) lj),_,_,rfl,rfl⟩
theorem afK (n:Int) (s c:List UInt8) (ty:Ty) (args:List Ex) (a:Option Addr) (cp:Nat) (m:Mem) (bg:args.length<=cp) (hn:args.length<=av) (bL:ty.dim<=1000) (hA:RArgOk args a cp m) (hl:1<=args.length)
  (hb:(bW 14 n s c ty (aS args)).length<=cap):bS 41 [.v (.agg ⟨aK 14 n s c ty (.slice a args.length cp)⟩)] m (bW 14 n s c ty (aS args)):=by
 have hT:bW 14 n s c ty (aS args)=List.flatten [[kw [110,101,119]],b5 ty.dim ty.base ty.name,[sg [91]],fN (aS args) 0,[sg [93]]]:=by simp [bW,bj,bF]
 rw[hT] at hb ⊢;clear hT;have dk:=hb;simp only[List.flatten_cons,List.flatten_nil,aI,aL,bh,cap] at hb;refine ew ?_;refine enter jA cG Tryz.func41 rfl rfl (by kernel_rfl) rfl ?_ ?_
 ·simp only[go_sem,aK]
 ·simp only[go_sem,aK,Int.reduceEq,ao,aq];refine bO (.hoist 3 (.hoist 4 (.hoist 9 (.hoist 10 (.hoist 11 (.hoist 12 (.alt 0 [12,11,10,9,4,3] (.alt 1 [12,11,10,9,4,3] (.alt 2 [12,11,10,9,4,3] (.alt 5 [12,11,10,9] (.alt 6 [12,11,10,9] (.alt 7 [12,11,10,9] (.alt 8 [12,11,10,9] (.alt 13 [] (.alt 14 [] (.alt 15 [] (.alt 16 [] (.alt 17 [] (.alt 18 [] (.hoist 19 .done) .stop) .stop) .stop) .stop) .stop) .stop) .stop) .stop) .stop) .stop) .stop) .stop) .stop))))))) cG (by kernel_rfl) (by kernel_rfl) ?_;simp only[go_sem,aK];refine Exists.elim (hA.opd 0 0 m (by omega) (.inl rfl) rfl) fun x0 eL=>⟨⟨by omega,by omega,eL.1.2⟩,x0.cs,⟨eL.1.1,rfl⟩,?_⟩
  refine ab ((cV _ _ m).mono ?_);rintro r H' m1 aN ⟨rfl,rfl,_⟩;have l1:ae m m1:= .inr aN;have L1:ae m m1:=aa (.inl rfl:ae m m) l1;simp only[go_sem,aK,Int.reduceEq,ao,aq,L1,and_self];refine ab ((aQ (sK ty.dim ty.base ty.name m1 bL) (fun V=>rfl)).mono ?_);rintro r H' m2 aH ⟨l2,rfl,rfl⟩;have L2:ae m m2:=aa L1 l2;simp only[go_sem,aK,Int.reduceEq,ao,aq,L2,and_self];refine ab ((cV _ _ m2).mono ?_);rintro r H' m3 bI ⟨rfl,rfl,_⟩;have l3:ae m2 m3:= .inr bI;have L3:ae m m3:=aa L2 l3;simp only[go_sem,aK,Int.reduceEq,ao,aq,L3,and_self];refine ab ((aQ (eL.2.2 m3 L3 (by simp only[cap];omega)) (fun V=>rfl)).mono ?_);rintro r H' m4 cT ⟨l4,rfl,rfl⟩;have L4:ae m m4:=aa L3 l4;simp only[go_sem,aK,Int.reduceEq,ao,aq,L4,and_self];refine ab ((cV _ _ m4).mono ?_);rintro r H' m5 cO ⟨rfl,rfl,_⟩;have l5:ae m4 m5:= .inr cO;have L5:ae m m5:=aa L4 l5;simp only[go_sem,aK,Int.reduceEq,ao,aq,L5,and_self];intro p0 q0 v0 dr dF s0;intro p1 q1 v1 aW dz s1;intro p2 q2 v2 aA fQ s2;intro p3 q3 v3 ja mM s3;intro p4 q4 v4 sj sn s4;refine⟨by kernel_rfl,fun aj cj wj bc jx rj=>bo ((fW [[kw [110,101,119]],b5 ty.dim ty.base ty.name,[sg [91]],fN (aS args) 0,[sg [93]]] aj 5 cj _ wj rfl rj ⟨⟨p0,q0,rfl,dF,ax (aa (.inr aW) (aa (.inr aA) (aa (.inr ja) (aa (.inr sj) (.inr bc))))) s0⟩,⟨⟨p1,q1,rfl,dz,ax (aa (.inr aA) (aa (.inr ja) (aa (.inr sj) (.inr bc)))) s1⟩,⟨⟨p2,q2,rfl,fQ,ax (aa (.inr ja) (aa (.inr sj) (.inr bc))) s2⟩,⟨⟨p3,q3,rfl,mM,ax (aa (.inr sj) (.inr bc)) s3⟩,⟨⟨p4,q4,rfl,sn,ax (.inr bc) s4⟩,trivial⟩⟩⟩⟩⟩ (by decide) dk).mono ?_)⟩
  rintro r H' mj jw ⟨lj,rfl,rfl⟩;simp only[go_sem,aK,Int.reduceEq,ao,aq];exact⟨aa L5 (aa (aa (.inr dr) (aa (.inr aW) (aa (.inr aA) (aa (.inr ja) (aa (.inr sj) (.inr bc)))))) lj),_,_,rfl,rfl⟩
theorem afJ (n:Int) (s c:List UInt8) (ty:Ty) (args:List Ex) (a:Option Addr) (cp:Nat) (m:Mem) (bg:args.length<=cp) (hn:args.length<=av) (bL:ty.dim<=1000) (hA:RArgOk args a cp m) (hl:1<=args.length)
  (hb:(bW 15 n s c ty (aS args)).length<=cap):bS 41 [.v (.agg ⟨aK 15 n s c ty (.slice a args.length cp)⟩)] m (bW 15 n s c ty (aS args)):=by
 have hT:bW 15 n s c ty (aS args)=List.flatten [[sg s],dR (aS args) 0]:=by simp [bW,bj,bF]
 rw[hT] at hb ⊢;clear hT;have dk:=hb;simp only[List.flatten_cons,List.flatten_nil,aI,aL,bh,cap] at hb;refine ew ?_;refine enter jA cG Tryz.func41 rfl rfl (by kernel_rfl) rfl ?_ ?_
 ·simp only[go_sem,aK]
 ·simp only[go_sem,aK,Int.reduceEq,ao,aq];refine bO (.hoist 0 (.hoist 1 (.hoist 5 (.hoist 6 (.hoist 7 (.hoist 8 (.alt 2 [8,7,6,5] (.alt 3 [8,7,6,5] (.alt 4 [8,7,6,5] (.alt 9 [] (.alt 10 [] (.alt 11 [] (.hoist 12 .done) .stop) .stop) .stop) .stop) .stop) .stop))))))) cG (by kernel_rfl) (by kernel_rfl) ?_;simp only[go_sem,aK];refine Exists.elim (hA.opd 0 0 m (by omega) (.inl rfl) rfl) fun x0 eL=>⟨⟨by omega,by omega,eL.1.2⟩,x0.cs,⟨eL.1.1,rfl⟩,?_⟩
  refine ab ((cV _ _ m).mono ?_);rintro r H' m1 aN ⟨rfl,rfl,_⟩;have l1:ae m m1:= .inr aN;have L1:ae m m1:=aa (.inl rfl:ae m m) l1;simp only[go_sem,aK,Int.reduceEq,ao,aq,L1,and_self];refine ab ((aQ (eL.2.1 m1 L1 (by simp only[cap];omega)) (fun V=>rfl)).mono ?_);rintro r H' m2 aH ⟨l2,rfl,rfl⟩;have L2:ae m m2:=aa L1 l2;simp only[go_sem,aK,Int.reduceEq,ao,aq,L2,and_self];intro p0 q0 v0 dr dF s0;intro p1 q1 v1 aW dz s1;refine⟨by kernel_rfl,fun aj cj wj bc jx rj=>bo ((fW [[sg s],dR (aS args) 0] aj 2 cj _ wj rfl rj ⟨⟨p0,q0,rfl,dF,ax (aa (.inr aW) (.inr bc)) s0⟩,⟨⟨p1,q1,rfl,dz,ax (.inr bc) s1⟩,trivial⟩⟩ (by decide) dk).mono ?_)⟩;rintro r H' mj jw ⟨lj,rfl,rfl⟩;simp only[go_sem,aK,Int.reduceEq,ao,aq];exact⟨aa L2 (aa (aa (.inr dr) (aa (.inr aW) (.inr bc))) lj),_,_,rfl,rfl⟩
theorem afI (n:Int) (s c:List UInt8) (ty:Ty) (args:List Ex) (a:Option Addr) (cp:Nat) (m:Mem) (bg:args.length<=cp) (hn:args.length<=av) (bL:ty.dim<=1000) (hA:RArgOk args a cp m) (hl:2<=args.length)
  (hb:(bW 16 n s c ty (aS args)).length<=cap):bS 41 [.v (.agg ⟨aK 16 n s c ty (.slice a args.length cp)⟩)] m (bW 16 n s c ty (aS args)):=by
 have hT:bW 16 n s c ty (aS args)=List.flatten [dR (aS args) 0,[sg s],dR (aS args) 1]:=by simp [bW,bj,bF]
 rw[hT] at hb ⊢;clear hT;have dk:=hb;simp only[List.flatten_cons,List.flatten_nil,aI,aL,bh,cap] at hb;refine ew ?_;refine enter jA cG Tryz.func41 rfl rfl (by kernel_rfl) rfl ?_ ?_
 ·simp only[go_sem,aK]
 ·simp only[go_sem,aK,Int.reduceEq,ao,aq];refine bO (.hoist 0 (.hoist 1 (.hoist 2 (.hoist 3 (.hoist 5 (.hoist 6 (.hoist 10 (.hoist 11 (.hoist 12 (.hoist 13 (.alt 4 [13,12,11,10,6,5] (.alt 7 [13,12,11,10] (.alt 8 [13,12,11,10] (.alt 9 [13,12,11,10] (.alt 14 [] (.alt 15 [] (.alt 16 [] (.hoist 17 .done) .stop) .stop) .stop) .stop) .stop) .stop) .stop))))))))))) cG (by kernel_rfl) (by kernel_rfl) ?_;simp only[go_sem,aK];refine Exists.elim (hA.opd 0 0 m (by omega) (.inl rfl) rfl) fun x0 eL=>⟨⟨by omega,by omega,eL.1.2⟩,x0.cs,⟨eL.1.1,rfl⟩,?_⟩
  refine Exists.elim (hA.opd 1 8 m (by omega) (.inl rfl) rfl) fun x1 lT=>⟨⟨by omega,by omega,lT.1.2⟩,x1.cs,⟨lT.1.1,rfl⟩,?_⟩
  refine ab ((aQ (eL.2.1 m (.inl rfl:ae m m) (by simp only[cap];omega)) (fun V=>rfl)).mono ?_);rintro r H' m1 aN ⟨l1,rfl,rfl⟩;have L1:ae m m1:=aa (.inl rfl:ae m m) l1;simp only[go_sem,aK,Int.reduceEq,ao,aq,L1,and_self];refine ab ((cV _ _ m1).mono ?_);rintro r H' m2 aH ⟨rfl,rfl,_⟩;have l2:ae m1 m2:= .inr aH;have L2:ae m m2:=aa L1 l2;simp only[go_sem,aK,Int.reduceEq,ao,aq,L2,and_self];refine ab ((aQ (lT.2.1 m2 L2 (by simp only[cap];omega)) (fun V=>rfl)).mono ?_);rintro r H' m3 bI ⟨l3,rfl,rfl⟩;have L3:ae m m3:=aa L2 l3;simp only[go_sem,aK,Int.reduceEq,ao,aq,L3,and_self];intro p0 q0 v0 dr dF s0;intro p1 q1 v1 aW dz s1;intro p2 q2 v2 aA fQ s2;refine⟨by kernel_rfl,fun aj cj wj bc jx rj=>bo ((fW [dR (aS args) 0,[sg s],dR (aS args) 1] aj 3 cj _ wj rfl rj ⟨⟨p0,q0,rfl,dF,ax (aa (.inr aW) (aa (.inr aA) (.inr bc))) s0⟩,⟨⟨p1,q1,rfl,dz,ax (aa (.inr aA) (.inr bc)) s1⟩,⟨⟨p2,q2,rfl,fQ,ax (.inr bc) s2⟩,trivial⟩⟩⟩ (by decide) dk).mono ?_)⟩;rintro r H' mj jw ⟨lj,rfl,rfl⟩;simp only[go_sem,aK,Int.reduceEq,ao,aq];exact⟨aa L3 (aa (aa (.inr dr) (aa (.inr aW) (aa (.inr aA) (.inr bc)))) lj),_,_,rfl,rfl⟩
theorem afH (n:Int) (s c:List UInt8) (ty:Ty) (args:List Ex) (a:Option Addr) (cp:Nat) (m:Mem) (bg:args.length<=cp) (hn:args.length<=av) (bL:ty.dim<=1000) (hA:RArgOk args a cp m) (hl:1<=args.length)
  (hb:(bW 17 n s c ty (aS args)).length<=cap):bS 41 [.v (.agg ⟨aK 17 n s c ty (.slice a args.length cp)⟩)] m (bW 17 n s c ty (aS args)):=by
 have hT:bW 17 n s c ty (aS args)=List.flatten [dR (aS args) 0,[kw [97,115]],b5 ty.dim ty.base ty.name]:=by simp [bW,bj,bF]
 rw[hT] at hb ⊢;clear hT;have dk:=hb;simp only[List.flatten_cons,List.flatten_nil,aI,aL,bh,cap] at hb;refine ew ?_;refine enter jA cG Tryz.func41 rfl rfl (by kernel_rfl) rfl ?_ ?_
 ·simp only[go_sem,aK]
 ·simp only[go_sem,aK,Int.reduceEq,ao,aq];refine bO (.hoist 0 (.hoist 1 (.hoist 2 (.hoist 3 (.hoist 8 (.hoist 9 (.alt 4 [9,8] (.alt 5 [9,8] (.alt 6 [9,8] (.alt 7 [9,8] (.alt 10 [] (.alt 11 [] (.alt 12 [] (.hoist 13 .done) .stop) .stop) .stop) .stop) .stop) .stop) .stop))))))) cG (by kernel_rfl) (by kernel_rfl) ?_;simp only[go_sem,aK];refine Exists.elim (hA.opd 0 0 m (by omega) (.inl rfl) rfl) fun x0 eL=>⟨⟨by omega,by omega,eL.1.2⟩,x0.cs,⟨eL.1.1,rfl⟩,?_⟩
  refine ab ((aQ (eL.2.1 m (.inl rfl:ae m m) (by simp only[cap];omega)) (fun V=>rfl)).mono ?_);rintro r H' m1 aN ⟨l1,rfl,rfl⟩;have L1:ae m m1:=aa (.inl rfl:ae m m) l1;simp only[go_sem,aK,Int.reduceEq,ao,aq,L1,and_self];refine ab ((cV _ _ m1).mono ?_);rintro r H' m2 aH ⟨rfl,rfl,_⟩;have l2:ae m1 m2:= .inr aH;have L2:ae m m2:=aa L1 l2;simp only[go_sem,aK,Int.reduceEq,ao,aq,L2,and_self];refine ab ((aQ (sK ty.dim ty.base ty.name m2 bL) (fun V=>rfl)).mono ?_);rintro r H' m3 bI ⟨l3,rfl,rfl⟩;have L3:ae m m3:=aa L2 l3;simp only[go_sem,aK,Int.reduceEq,ao,aq,L3,and_self];intro p0 q0 v0 dr dF s0;intro p1 q1 v1 aW dz s1;intro p2 q2 v2 aA fQ s2;refine⟨by kernel_rfl,fun aj cj wj bc jx rj=>bo ((fW [dR (aS args) 0,[kw [97,115]],b5 ty.dim ty.base ty.name] aj 3 cj _ wj rfl rj ⟨⟨p0,q0,rfl,dF,ax (aa (.inr aW) (aa (.inr aA) (.inr bc))) s0⟩,⟨⟨p1,q1,rfl,dz,ax (aa (.inr aA) (.inr bc)) s1⟩,⟨⟨p2,q2,rfl,fQ,ax (.inr bc) s2⟩,trivial⟩⟩⟩ (by decide) dk).mono ?_)⟩;rintro r H' mj jw ⟨lj,rfl,rfl⟩;simp only[go_sem,aK,Int.reduceEq,ao,aq];exact⟨aa L3 (aa (aa (.inr dr) (aa (.inr aW) (aa (.inr aA) (.inr bc)))) lj),_,_,rfl,rfl⟩
theorem afG (n:Int) (s c:List UInt8) (ty:Ty) (args:List Ex) (a:Option Addr) (cp:Nat) (m:Mem) (bg:args.length<=cp) (hn:args.length<=av) (bL:ty.dim<=1000) (hA:RArgOk args a cp m) (hl:1<=args.length)
  (hb:(bW 18 n s c ty (aS args)).length<=cap):bS 41 [.v (.agg ⟨aK 18 n s c ty (.slice a args.length cp)⟩)] m (bW 18 n s c ty (aS args)):=by
 have hT:bW 18 n s c ty (aS args)=List.flatten [dR (aS args) 0,[kw [105,115]],b5 ty.dim ty.base ty.name]:=by simp [bW,bj,bF]
 rw[hT] at hb ⊢;clear hT;have dk:=hb;simp only[List.flatten_cons,List.flatten_nil,aI,aL,bh,cap] at hb;refine ew ?_;refine enter jA cG Tryz.func41 rfl rfl (by kernel_rfl) rfl ?_ ?_
 ·simp only[go_sem,aK]
 ·simp only[go_sem,aK,Int.reduceEq,ao,aq];refine bO (.hoist 0 (.hoist 1 (.hoist 2 (.hoist 3 (.hoist 8 (.hoist 9 (.alt 4 [9,8] (.alt 5 [9,8] (.alt 6 [9,8] (.alt 7 [9,8] (.alt 10 [] (.alt 11 [] (.alt 12 [] (.hoist 13 .done) .stop) .stop) .stop) .stop) .stop) .stop) .stop))))))) cG (by kernel_rfl) (by kernel_rfl) ?_;simp only[go_sem,aK];refine Exists.elim (hA.opd 0 0 m (by omega) (.inl rfl) rfl) fun x0 eL=>⟨⟨by omega,by omega,eL.1.2⟩,x0.cs,⟨eL.1.1,rfl⟩,?_⟩
  refine ab ((aQ (eL.2.1 m (.inl rfl:ae m m) (by simp only[cap];omega)) (fun V=>rfl)).mono ?_);rintro r H' m1 aN ⟨l1,rfl,rfl⟩;have L1:ae m m1:=aa (.inl rfl:ae m m) l1;simp only[go_sem,aK,Int.reduceEq,ao,aq,L1,and_self];refine ab ((cV _ _ m1).mono ?_);rintro r H' m2 aH ⟨rfl,rfl,_⟩;have l2:ae m1 m2:= .inr aH;have L2:ae m m2:=aa L1 l2;simp only[go_sem,aK,Int.reduceEq,ao,aq,L2,and_self];refine ab ((aQ (sK ty.dim ty.base ty.name m2 bL) (fun V=>rfl)).mono ?_);rintro r H' m3 bI ⟨l3,rfl,rfl⟩;have L3:ae m m3:=aa L2 l3;simp only[go_sem,aK,Int.reduceEq,ao,aq,L3,and_self];intro p0 q0 v0 dr dF s0;intro p1 q1 v1 aW dz s1;intro p2 q2 v2 aA fQ s2;refine⟨by kernel_rfl,fun aj cj wj bc jx rj=>bo ((fW [dR (aS args) 0,[kw [105,115]],b5 ty.dim ty.base ty.name] aj 3 cj _ wj rfl rj ⟨⟨p0,q0,rfl,dF,ax (aa (.inr aW) (aa (.inr aA) (.inr bc))) s0⟩,⟨⟨p1,q1,rfl,dz,ax (aa (.inr aA) (.inr bc)) s1⟩,⟨⟨p2,q2,rfl,fQ,ax (.inr bc) s2⟩,trivial⟩⟩⟩ (by decide) dk).mono ?_)⟩;rintro r H' mj jw ⟨lj,rfl,rfl⟩;simp only[go_sem,aK,Int.reduceEq,ao,aq];exact⟨aa L3 (aa (aa (.inr dr) (aa (.inr aW) (aa (.inr aA) (.inr bc)))) lj),_,_,rfl,rfl⟩
theorem afF (n:Int) (s c:List UInt8) (ty:Ty) (args:List Ex) (a:Option Addr) (cp:Nat) (m:Mem) (bg:args.length<=cp) (hn:args.length<=av) (bL:ty.dim<=1000) (hA:RArgOk args a cp m) (hl:1<=args.length)
  (hb:(bW 19 n s c ty (aS args)).length<=cap):bS 41 [.v (.agg ⟨aK 19 n s c ty (.slice a args.length cp)⟩)] m (bW 19 n s c ty (aS args)):=by
 have hT:bW 19 n s c ty (aS args)=List.flatten [[kw [108,101,110]],(sg [40]::(fN (aS args) 0++[sg [41]]))]:=by simp [bW,bj,bF]
 rw[hT] at hb ⊢;clear hT;have dk:=hb;simp only[List.flatten_cons,List.flatten_nil,aI,aL,bh,cap] at hb;refine ew ?_;refine enter jA cG Tryz.func41 rfl rfl (by kernel_rfl) rfl ?_ ?_
 ·simp only[go_sem,aK]
 ·simp only[go_sem,aK,Int.reduceEq,ao,aq];refine bO (.hoist 3 (.hoist 4 (.hoist 5 (.hoist 6 (.alt 0 [6,5,4,3] (.alt 1 [6,5,4,3] (.alt 2 [6,5,4,3] (.alt 7 [] (.alt 8 [] (.alt 9 [] (.alt 10 [] (.hoist 11 .done) .stop) .stop) .stop) .stop) .stop) .stop) .stop))))) cG (by kernel_rfl) (by kernel_rfl) ?_;simp only[go_sem,aK];refine Exists.elim (hA.opd 0 0 m (by omega) (.inl rfl) rfl) fun x0 eL=>⟨⟨by omega,by omega,eL.1.2⟩,x0.cs,⟨eL.1.1,rfl⟩,?_⟩
  refine ab ((cV _ _ m).mono ?_);rintro r H' m1 aN ⟨rfl,rfl,_⟩;have l1:ae m m1:= .inr aN;have L1:ae m m1:=aa (.inl rfl:ae m m) l1;simp only[go_sem,aK,Int.reduceEq,ao,aq,L1,and_self];refine ab ((aQ (eL.2.2 m1 L1 (by simp only[cap];omega)) (fun V=>rfl)).mono ?_);rintro r H' m2 aH ⟨l2,rfl,rfl⟩;have L2:ae m m2:=aa L1 l2;simp only[go_sem,aK,Int.reduceEq,ao,aq,L2,and_self];refine⟨by kernel_rfl,fun a3 c3 w3 mL qM r3=>bo ((mP _ a3 c3 w3 r3 (by simp only[cap];omega)).mono ?_)⟩;rintro r H' m3 bI ⟨l3,rfl,rfl⟩;have L3:ae m m3:=aa L2 (aa (.inr mL) l3);simp only[go_sem,aK,Int.reduceEq,ao,aq,L3,and_self];intro p0 q0 v0 dr dF s0;intro p1 q1 v1 aW dz s1;refine⟨by kernel_rfl,fun aj cj wj bc jx rj=>bo ((fW [[kw [108,101,110]],(sg [40]::(fN (aS args) 0++[sg [41]]))] aj 2 cj _ wj rfl rj ⟨⟨p0,q0,rfl,dF,ax (aa (.inr aW) (.inr bc)) s0⟩,⟨⟨p1,q1,rfl,dz,ax (.inr bc) s1⟩,trivial⟩⟩ (by decide) dk).mono ?_)⟩;rintro r H' mj jw ⟨lj,rfl,rfl⟩;simp only[go_sem,aK,Int.reduceEq,ao,aq];exact⟨aa L3 (aa (aa (.inr dr) (aa (.inr aW) (.inr bc))) lj),_,_,rfl,rfl⟩
theorem afE (n:Int) (s c:List UInt8) (ty:Ty) (args:List Ex) (a:Option Addr) (cp:Nat) (m:Mem) (bg:args.length<=cp) (hn:args.length<=av) (bL:ty.dim<=1000) (hA:RArgOk args a cp m) (hl:1<=args.length)
  (hb:(bW 20 n s c ty (aS args)).length<=cap):bS 41 [.v (.agg ⟨aK 20 n s c ty (.slice a args.length cp)⟩)] m (bW 20 n s c ty (aS args)):=by
 have hT:bW 20 n s c ty (aS args)=List.flatten [[kw iH],(sg [40]::(fN (aS args) 0++[sg [41]]))]:=by simp [bW,bj,bF]
 rw[hT] at hb ⊢;clear hT;have dk:=hb;simp only[List.flatten_cons,List.flatten_nil,aI,aL,bh,cap] at hb;refine ew ?_;refine enter jA cG Tryz.func41 rfl rfl (by kernel_rfl) rfl ?_ ?_
 ·simp only[go_sem,aK]
 ·simp only[go_sem,aK,Int.reduceEq,ao,aq];refine bO (.hoist 3 (.hoist 4 (.hoist 5 (.hoist 6 (.alt 0 [6,5,4,3] (.alt 1 [6,5,4,3] (.alt 2 [6,5,4,3] (.alt 7 [] (.alt 8 [] (.alt 9 [] (.alt 10 [] (.hoist 11 .done) .stop) .stop) .stop) .stop) .stop) .stop) .stop))))) cG (by kernel_rfl) (by kernel_rfl) ?_;simp only[go_sem,aK];refine Exists.elim (hA.opd 0 0 m (by omega) (.inl rfl) rfl) fun x0 eL=>⟨⟨by omega,by omega,eL.1.2⟩,x0.cs,⟨eL.1.1,rfl⟩,?_⟩
  refine ab ((cV _ _ m).mono ?_);rintro r H' m1 aN ⟨rfl,rfl,_⟩;have l1:ae m m1:= .inr aN;have L1:ae m m1:=aa (.inl rfl:ae m m) l1;simp only[go_sem,aK,Int.reduceEq,ao,aq,L1,and_self];refine ab ((aQ (eL.2.2 m1 L1 (by simp only[cap];omega)) (fun V=>rfl)).mono ?_);rintro r H' m2 aH ⟨l2,rfl,rfl⟩;have L2:ae m m2:=aa L1 l2;simp only[go_sem,aK,Int.reduceEq,ao,aq,L2,and_self];refine⟨by kernel_rfl,fun a3 c3 w3 mL qM r3=>bo ((mP _ a3 c3 w3 r3 (by simp only[cap];omega)).mono ?_)⟩;rintro r H' m3 bI ⟨l3,rfl,rfl⟩;have L3:ae m m3:=aa L2 (aa (.inr mL) l3);simp only[go_sem,aK,Int.reduceEq,ao,aq,L3,and_self];intro p0 q0 v0 dr dF s0;intro p1 q1 v1 aW dz s1;refine⟨by kernel_rfl,fun aj cj wj bc jx rj=>bo ((fW [[kw iH],(sg [40]::(fN (aS args) 0++[sg [41]]))] aj 2 cj _ wj rfl rj ⟨⟨p0,q0,rfl,dF,ax (aa (.inr aW) (.inr bc)) s0⟩,⟨⟨p1,q1,rfl,dz,ax (.inr bc) s1⟩,trivial⟩⟩ (by decide) dk).mono ?_)⟩;rintro r H' mj jw ⟨lj,rfl,rfl⟩;simp only[go_sem,aK,Int.reduceEq,ao,aq];exact⟨aa L3 (aa (aa (.inr dr) (aa (.inr aW) (.inr bc))) lj),_,_,rfl,rfl⟩
theorem afD (n:Int) (s c:List UInt8) (ty:Ty) (args:List Ex) (a:Option Addr) (cp:Nat) (m:Mem) (bg:args.length<=cp) (hn:args.length<=av) (bL:ty.dim<=1000) (hA:RArgOk args a cp m) (hl:1<=args.length)
  (hb:(bW 21 n s c ty (aS args)).length<=cap):bS 41 [.v (.agg ⟨aK 21 n s c ty (.slice a args.length cp)⟩)] m (bW 21 n s c ty (aS args)):=by
 have hT:bW 21 n s c ty (aS args)=List.flatten [[kw iE],(sg [40]::(fN (aS args) 0++[sg [41]]))]:=by simp [bW,bj,bF]
 rw[hT] at hb ⊢;clear hT;have dk:=hb;simp only[List.flatten_cons,List.flatten_nil,aI,aL,bh,cap] at hb;refine ew ?_;refine enter jA cG Tryz.func41 rfl rfl (by kernel_rfl) rfl ?_ ?_
 ·simp only[go_sem,aK]
 ·simp only[go_sem,aK,Int.reduceEq,ao,aq];refine bO (.hoist 3 (.hoist 4 (.hoist 5 (.hoist 6 (.alt 0 [6,5,4,3] (.alt 1 [6,5,4,3] (.alt 2 [6,5,4,3] (.alt 7 [] (.alt 8 [] (.alt 9 [] (.alt 10 [] (.hoist 11 .done) .stop) .stop) .stop) .stop) .stop) .stop) .stop))))) cG (by kernel_rfl) (by kernel_rfl) ?_;simp only[go_sem,aK];refine Exists.elim (hA.opd 0 0 m (by omega) (.inl rfl) rfl) fun x0 eL=>⟨⟨by omega,by omega,eL.1.2⟩,x0.cs,⟨eL.1.1,rfl⟩,?_⟩
  refine ab ((cV _ _ m).mono ?_);rintro r H' m1 aN ⟨rfl,rfl,_⟩;have l1:ae m m1:= .inr aN;have L1:ae m m1:=aa (.inl rfl:ae m m) l1;simp only[go_sem,aK,Int.reduceEq,ao,aq,L1,and_self];refine ab ((aQ (eL.2.2 m1 L1 (by simp only[cap];omega)) (fun V=>rfl)).mono ?_);rintro r H' m2 aH ⟨l2,rfl,rfl⟩;have L2:ae m m2:=aa L1 l2;simp only[go_sem,aK,Int.reduceEq,ao,aq,L2,and_self];refine⟨by kernel_rfl,fun a3 c3 w3 mL qM r3=>bo ((mP _ a3 c3 w3 r3 (by simp only[cap];omega)).mono ?_)⟩;rintro r H' m3 bI ⟨l3,rfl,rfl⟩;have L3:ae m m3:=aa L2 (aa (.inr mL) l3);simp only[go_sem,aK,Int.reduceEq,ao,aq,L3,and_self];intro p0 q0 v0 dr dF s0;intro p1 q1 v1 aW dz s1;refine⟨by kernel_rfl,fun aj cj wj bc jx rj=>bo ((fW [[kw iE],(sg [40]::(fN (aS args) 0++[sg [41]]))] aj 2 cj _ wj rfl rj ⟨⟨p0,q0,rfl,dF,ax (aa (.inr aW) (.inr bc)) s0⟩,⟨⟨p1,q1,rfl,dz,ax (.inr bc) s1⟩,trivial⟩⟩ (by decide) dk).mono ?_)⟩;rintro r H' mj jw ⟨lj,rfl,rfl⟩;simp only[go_sem,aK,Int.reduceEq,ao,aq];exact⟨aa L3 (aa (aa (.inr dr) (aa (.inr aW) (.inr bc))) lj),_,_,rfl,rfl⟩
theorem adU {args:List Ex} {a:Option Addr} {cp:Nat} {m:Mem} {xs:List Value} (bg:args.length<=cp) (hn:args.length<=av) (hr:aZ m a args.length 8 xs) (eE:dY m args xs) (hE:∀e∈args,RefE e m/\(aC e).length+2<=cap):RArgOk args a cp m:=by
 refine⟨fun i o m' hi hle ho=> ?_,fun m' hle hb=> ?_,fun hl m' hle hb=> ?_⟩
 ·subst ho;have aT:=bw hle (rv eE hi);obtain⟨x,hx⟩:=o5 aT;have bU:=dA (ax hle hr) hi;rw[hx] at aT bU;have hW:=hE _ (List.getElem_mem hi);rw[rq hi,zM hi];exact⟨x,bU,fun m2 aY _=>VK _ x m2 (bw aY aT) (hW.1.up (aa hle aY)) hW.2,fun m2 aY _=>hW.1 x.cs m2 (aa hle aY) (bw aY aT)⟩
 ·rw[BO] at hb ⊢;exact HI args a args.length cp xs m' rfl hn (ax hle hr) (uh hle eE) (fun e he=>(hE e he).1.up hle) hb
 ·rw[QD] at hb ⊢;exact HI (args.drop 1) _ (args.length - 1) (cp - 1) (xs.drop 8) m' (by simp) (by omega) (abi (ax hle hr) hl bg) (aaE (uh hle eE) hl) (fun e he=>(hE e (List.mem_of_mem_drop he)).1.up hle) hb
theorem HY:∀{l:List Ex} {e:Ex},e∈l->dM e<=fb l
 |[],e,he=>by cases he
 |x::r,e,he=>by
  simp only[fb];rcases List.mem_cons.1 he with rfl |he
  ·omega
  ·have:=HY he;omega
theorem EA:∀(h:Nat) (e:Ex) (m:Mem),b6 e<=h->bG e=true->dM e<=av->RefE e m
 |0,.mk k n s c ty args,m,hd,_,_=>by simp [b6] at hd
 |h+1,.mk k n s c ty args,m,hd,hv,eD=>by
  intro cs m' hle aT;have hb:=zn _ hv;simp only[bJ] at aT;obtain⟨a,cp,xs,rfl,bg,hr,ar,eE⟩:=aT;have hn:=ar.2.2.2.2.2;simp only[b6] at hd;simp only[dM] at eD hb;simp only[bG,aD] at hv;have hA:RArgOk args a cp m' :=adU bg hn hr eE fun e he=>by
   have h1:=HY he;have h2:=xa hv.2 e he;have h3:=zn e h2;exact⟨EA h e m' (by have:=A8 he;omega) h2 (by omega),by simp only[av] at eD;simp only[cap];omega⟩
  obtain⟨hk,har,bL⟩:=zf hv.1;have bL:ty.dim<=1000:=by omega
  simp only[aC] at hb ⊢;have hb:(bW k n s c ty (aS args)).length<=cap:=by simp only[av] at eD;simp only[cap];omega
  rcases kinds hk with h |h |h |h |h |h |h |h |h |h |h |h |h |h |h |h |h |h |h |h |h<;>subst h
  ·exact aiP n s c ty args a cp m' bg hn bL hA hb
  ·exact aiO n s c ty args a cp m' bg hn bL hA hb
  ·exact aiN n s c ty args a cp m' bg hn bL hA hb
  ·exact aiM n s c ty args a cp m' bg hn bL hA hb
  ·exact aiL n s c ty args a cp m' bg hn bL hA hb
  ·exact aiK n s c ty args a cp m' bg hn bL hA hb
  ·exact aiJ n s c ty args a cp m' bg hn bL hA (by simp [eP] at har;omega) hb
  ·exact aiI n s c ty args a cp m' bg hn bL hA hb
  ·exact aiH n s c ty args a cp m' bg hn bL hA (by simp [eP] at har;omega) hb
  ·exact afO n s c ty args a cp m' bg hn bL hA (by simp [eP] at har;omega) hb
  ·exact afN n s c ty args a cp m' bg hn bL hA hb
  ·exact afM n s c ty args a cp m' bg hn bL hA hb
  ·exact afL n s c ty args a cp m' bg hn bL hA hb
  ·exact afK n s c ty args a cp m' bg hn bL hA (by simp [eP] at har;omega) hb
  ·exact afJ n s c ty args a cp m' bg hn bL hA (by simp [eP] at har;omega) hb
  ·exact afI n s c ty args a cp m' bg hn bL hA (by simp [eP] at har;omega) hb
  ·exact afH n s c ty args a cp m' bg hn bL hA (by simp [eP] at har;omega) hb
  ·exact afG n s c ty args a cp m' bg hn bL hA (by simp [eP] at har;omega) hb
  ·exact afF n s c ty args a cp m' bg hn bL hA (by simp [eP] at har;omega) hb
  ·exact afE n s c ty args a cp m' bg hn bL hA (by simp [eP] at har;omega) hb
  ·exact afD n s c ty args a cp m' bg hn bL hA (by simp [eP] at har;omega) hb
abbrev oO:Cfg:=gC (fun f=>f==96) [(100,fr (fun _=>True) fun s=> .agg ⟨ko ⟨6,s,0,0⟩⟩),(97,fr (fun _=>True) fun s=> .agg ⟨ko ⟨2,s,0,0⟩⟩),(98,fr (fun _=>True) fun s=> .agg ⟨ko ⟨1,s,0,0⟩⟩),(215,Ck)]
theorem jG:dt oO Tryz.prog:=pure_cons (by kernel_rfl) (fL (zL Nn)) (pure_cons (by kernel_rfl) (fL (zL Nj)) (pure_cons (by kernel_rfl) (fL (zL Pd)) (pure_cons (by kernel_rfl) Pl pure_nil)))
theorem ai6 (nm:List UInt8) (ty:Ty) (tN eN:Nd) (a:Option Addr) (l cp:Nat) (b:Option Addr) (l2 cp2:Nat) (m:Mem) (bL:ty.dim<=1000) (TX:List Tk) (hX:∀m',ae m m' ->bS 41 [.v (.agg ⟨eN.cs⟩)] m' TX)
  (hb:(List.flatten [b5 ty.dim ty.base ty.name,[aM nm,sg [61]],TX,[sg [59]]]).length<=cap):bS 169 [.v (.agg ⟨Sd.cs ⟨1,nm,ty,tN,eN,a,l,cp,b,l2,cp2⟩⟩)] m (List.flatten [b5 ty.dim ty.base ty.name,[aM nm,sg [61]],TX,[sg [59]]]):=by
 have dk:=hb;simp only[List.flatten_cons,List.flatten_nil,aI,aL,bh,cap] at hb;refine ew ?_;refine enter oO jG Tryz.func169 rfl rfl (by kernel_rfl) rfl ?_ ?_
 ·simp only[go_sem,Sd.cs,Nd.cs]
 ·simp only[go_sem,Sd.cs,Nd.cs,Int.reduceEq,ao,aq];refine ab ((cV _ _ m).mono ?_);rintro r H' m1 aN ⟨rfl,rfl,_⟩;have l1:ae m m1:= .inr aN;have L1:ae m m1:=aa (.inl rfl:ae m m) l1;simp only[go_sem,Sd.cs,Nd.cs,Int.reduceEq,ao,aq,L1,and_self];refine bO (.hoist 0 (.hoist 1 (.hoist 3 (.hoist 4 (.hoist 9 (.hoist 10 (.hoist 12 (.alt 2 [12,10,9,4,3] (.alt 5 [12,10,9] (.alt 6 [12,10,9] (.alt 7 [12,10,9] (.alt 8 [12,10,9] (.alt 11 [12] (.alt 13 [] (.alt 14 [] (.hoist 15 .done) .stop) .stop) .stop) .stop) .stop) .stop) .stop) .stop)))))))) jG (by kernel_rfl) (by kernel_rfl) ?_;simp only[go_sem,Sd.cs,Nd.cs,Int.reduceEq,ao,aq,L1,and_self];refine ab ((aQ (sK ty.dim ty.base ty.name m1 bL) (fun V=>rfl)).mono ?_);rintro r H' m2 aH ⟨l2,rfl,rfl⟩;have L2:ae m m2:=aa L1 l2;have K2:ae m1 m2:=aa (.inl rfl:ae m1 m1) l2;simp only[go_sem,Sd.cs,Nd.cs,Int.reduceEq,ao,aq,K2,and_self];refine ab ((cV _ _ m2).mono ?_);rintro r H' m3 bI ⟨rfl,rfl,_⟩;have l3:ae m2 m3:= .inr bI;have L3:ae m m3:=aa L2 l3;have K3:ae m1 m3:=aa K2 l3;simp only[go_sem,Sd.cs,Nd.cs,Int.reduceEq,ao,aq,K3,and_self];refine ab ((aQ (hX m3 L3) (fun V=>rfl)).mono ?_);rintro r H' m4 cT ⟨l4,rfl,rfl⟩;have L4:ae m m4:=aa L3 l4;have K4:ae m1 m4:=aa K3 l4;simp only[go_sem,Sd.cs,Nd.cs,Int.reduceEq,ao,aq,K4,and_self];intro p0 q0 v0 dr dF s0;intro p1 q1 v1 aW dz s1;intro p2 q2 v2 aA fQ s2;intro p3 q3 v3 ja mM s3;refine⟨by kernel_rfl,fun aj cj wj bc jx rj=>bo ((fW [b5 ty.dim ty.base ty.name,[aM nm,sg [61]],TX,[sg [59]]] aj 4 cj _ wj rfl rj ⟨⟨p0,q0,rfl,dF,ax (aa (.inr aW) (aa (.inr aA) (aa (.inr ja) (.inr bc)))) s0⟩,⟨⟨p1,q1,rfl,dz,ax (aa (.inr aA) (aa (.inr ja) (.inr bc))) s1⟩,⟨⟨p2,q2,rfl,fQ,ax (aa (.inr ja) (.inr bc)) s2⟩,⟨⟨p3,q3,rfl,mM,ax (.inr bc) s3⟩,trivial⟩⟩⟩⟩ (by decide) dk).mono ?_)⟩
  rintro r H' mj jw ⟨lj,rfl,rfl⟩;simp only[go_sem,Sd.cs,Nd.cs,Int.reduceEq,ao,aq];exact⟨aa L4 (aa (aa (.inr dr) (aa (.inr aW) (aa (.inr aA) (aa (.inr ja) (.inr bc))))) lj),_,_,rfl,rfl⟩
theorem ai5 (nm:List UInt8) (ty:Ty) (tN eN:Nd) (a:Option Addr) (l cp:Nat) (b:Option Addr) (l2 cp2:Nat) (m:Mem) (TG:List Tk) (hT:∀m',ae m m' ->bS 41 [.v (.agg ⟨tN.cs⟩)] m' TG) (TX:List Tk) (hX:∀m',ae m m' ->bS 41 [.v (.agg ⟨eN.cs⟩)] m' TX)
  (hb:(List.flatten [TG,[sg [61]],TX,[sg [59]]]).length<=cap):bS 169 [.v (.agg ⟨Sd.cs ⟨2,nm,ty,tN,eN,a,l,cp,b,l2,cp2⟩⟩)] m (List.flatten [TG,[sg [61]],TX,[sg [59]]]):=by
 have dk:=hb;simp only[List.flatten_cons,List.flatten_nil,aI,aL,bh,cap] at hb;refine ew ?_;refine enter oO jG Tryz.func169 rfl rfl (by kernel_rfl) rfl ?_ ?_
 ·simp only[go_sem,Sd.cs,Nd.cs]
 ·simp only[go_sem,Sd.cs,Nd.cs,Int.reduceEq,ao,aq];refine ab ((cV _ _ m).mono ?_);rintro r H' m1 aN ⟨rfl,rfl,_⟩;have l1:ae m m1:= .inr aN;have L1:ae m m1:=aa (.inl rfl:ae m m) l1;simp only[go_sem,Sd.cs,Nd.cs,Int.reduceEq,ao,aq,L1,and_self];refine bO (.hoist 0 (.hoist 1 (.hoist 6 (.hoist 7 (.hoist 9 (.alt 2 [9,7,6] (.alt 3 [9,7,6] (.alt 4 [9,7,6] (.alt 5 [9,7,6] (.alt 8 [9] (.alt 10 [] (.alt 11 [] (.hoist 12 .done) .stop) .stop) .stop) .stop) .stop) .stop) .stop)))))) jG (by kernel_rfl) (by kernel_rfl) ?_;simp only[go_sem,Sd.cs,Nd.cs,Int.reduceEq,ao,aq,L1,and_self];refine ab ((aQ (hT m1 L1) (fun V=>rfl)).mono ?_);rintro r H' m2 aH ⟨l2,rfl,rfl⟩;have L2:ae m m2:=aa L1 l2;have K2:ae m1 m2:=aa (.inl rfl:ae m1 m1) l2;simp only[go_sem,Sd.cs,Nd.cs,Int.reduceEq,ao,aq,K2,and_self];refine ab ((cV _ _ m2).mono ?_);rintro r H' m3 bI ⟨rfl,rfl,_⟩;have l3:ae m2 m3:= .inr bI;have L3:ae m m3:=aa L2 l3;have K3:ae m1 m3:=aa K2 l3;simp only[go_sem,Sd.cs,Nd.cs,Int.reduceEq,ao,aq,K3,and_self];refine ab ((aQ (hX m3 L3) (fun V=>rfl)).mono ?_);rintro r H' m4 cT ⟨l4,rfl,rfl⟩;have L4:ae m m4:=aa L3 l4;have K4:ae m1 m4:=aa K3 l4;simp only[go_sem,Sd.cs,Nd.cs,Int.reduceEq,ao,aq,K4,and_self];intro p0 q0 v0 dr dF s0;intro p1 q1 v1 aW dz s1;intro p2 q2 v2 aA fQ s2;intro p3 q3 v3 ja mM s3;refine⟨by kernel_rfl,fun aj cj wj bc jx rj=>bo ((fW [TG,[sg [61]],TX,[sg [59]]] aj 4 cj _ wj rfl rj ⟨⟨p0,q0,rfl,dF,ax (aa (.inr aW) (aa (.inr aA) (aa (.inr ja) (.inr bc)))) s0⟩,⟨⟨p1,q1,rfl,dz,ax (aa (.inr aA) (aa (.inr ja) (.inr bc))) s1⟩,⟨⟨p2,q2,rfl,fQ,ax (aa (.inr ja) (.inr bc)) s2⟩,⟨⟨p3,q3,rfl,mM,ax (.inr bc) s3⟩,trivial⟩⟩⟩⟩ (by decide) dk).mono ?_)⟩
  rintro r H' mj jw ⟨lj,rfl,rfl⟩;simp only[go_sem,Sd.cs,Nd.cs,Int.reduceEq,ao,aq];exact⟨aa L4 (aa (aa (.inr dr) (aa (.inr aW) (aa (.inr aA) (aa (.inr ja) (.inr bc))))) lj),_,_,rfl,rfl⟩
theorem ai4 (nm:List UInt8) (ty:Ty) (tN eN:Nd) (a:Option Addr) (l cp:Nat) (b:Option Addr) (l2 cp2:Nat) (m:Mem) (TX:List Tk) (hX:∀m',ae m m' ->bS 41 [.v (.agg ⟨eN.cs⟩)] m' TX)
  (hb:(List.flatten [TX,[sg [59]]]).length<=cap):bS 169 [.v (.agg ⟨Sd.cs ⟨3,nm,ty,tN,eN,a,l,cp,b,l2,cp2⟩⟩)] m (List.flatten [TX,[sg [59]]]):=by
 have dk:=hb;simp only[List.flatten_cons,List.flatten_nil,aI,aL,bh,cap] at hb;refine ew ?_;refine enter oO jG Tryz.func169 rfl rfl (by kernel_rfl) rfl ?_ ?_
 ·simp only[go_sem,Sd.cs,Nd.cs]
 ·simp only[go_sem,Sd.cs,Nd.cs,Int.reduceEq,ao,aq];refine ab ((cV _ _ m).mono ?_);rintro r H' m1 aN ⟨rfl,rfl,_⟩;have l1:ae m m1:= .inr aN;have L1:ae m m1:=aa (.inl rfl:ae m m) l1;simp only[go_sem,Sd.cs,Nd.cs,Int.reduceEq,ao,aq,L1,and_self];refine ab ((aQ (hX m1 L1) (fun V=>rfl)).mono ?_);rintro r H' m2 aH ⟨l2,rfl,rfl⟩;have L2:ae m m2:=aa L1 l2;simp only[go_sem,Sd.cs,Nd.cs,Int.reduceEq,ao,aq,L2,and_self];intro p0 q0 v0 dr dF s0;intro p1 q1 v1 aW dz s1;refine⟨by kernel_rfl,fun aj cj wj bc jx rj=>bo ((fW [TX,[sg [59]]] aj 2 cj _ wj rfl rj ⟨⟨p0,q0,rfl,dF,ax (aa (.inr aW) (.inr bc)) s0⟩,⟨⟨p1,q1,rfl,dz,ax (.inr bc) s1⟩,trivial⟩⟩ (by decide) dk).mono ?_)⟩;rintro r H' mj jw ⟨lj,rfl,rfl⟩;simp only[go_sem,Sd.cs,Nd.cs,Int.reduceEq,ao,aq];exact⟨aa L2 (aa (aa (.inr dr) (aa (.inr aW) (.inr bc))) lj),_,_,rfl,rfl⟩
theorem afU (nm:List UInt8) (ty:Ty) (tN eN:Nd) (a:Option Addr) (l cp:Nat) (b:Option Addr) (l2 cp2:Nat) (m:Mem) (hc:((0:Int)<(l2:Int))=True) (TX:List Tk) (hX:∀m',ae m m' ->bS 41 [.v (.agg ⟨eN.cs⟩)] m' TX) (TB:List Tk) (hB:∀m',ae m m' ->bS 102 [.v (.slice a l cp)] m' TB) (TA:List Tk) (hA:∀m',ae m m' ->bS 102 [.v (.slice b l2 cp2)] m' TA)
  (hb:(List.flatten [List.flatten [[kw [105,102]],(sg [40]::(TX++[sg [41]])),TB],[kw [101,108,115,101]],TA]).length<=cap):bS 169 [.v (.agg ⟨Sd.cs ⟨4,nm,ty,tN,eN,a,l,cp,b,l2,cp2⟩⟩)] m (List.flatten [List.flatten [[kw [105,102]],(sg [40]::(TX++[sg [41]])),TB],[kw [101,108,115,101]],TA]):=by
 have dk:=hb;simp only[List.flatten_cons,List.flatten_nil,aI,aL,bh,cap] at hb;refine ew ?_;refine enter oO jG Tryz.func169 rfl rfl (by kernel_rfl) rfl ?_ ?_
 ·simp only[go_sem,Sd.cs,Nd.cs]
 ·simp only[go_sem,Sd.cs,Nd.cs,Int.reduceEq,ao,aq];refine ab ((cV _ _ m).mono ?_);rintro r H' m1 aN ⟨rfl,rfl,_⟩;have l1:ae m m1:= .inr aN;have L1:ae m m1:=aa (.inl rfl:ae m m) l1;simp only[go_sem,Sd.cs,Nd.cs,Int.reduceEq,ao,aq,L1,and_self,hc];refine bO (.hoist 3 (.hoist 4 (.hoist 7 (.hoist 8 (.alt 0 [8,7,4,3] (.alt 1 [8,7,4,3] (.alt 2 [8,7,4,3] (.alt 5 [8,7] (.alt 6 [8,7] (.alt 9 [] (.alt 10 [] (.alt 11 [] (.hoist 12 .done) .stop) .stop) .stop) .stop) .stop) .stop) .stop) .stop))))) jG (by kernel_rfl) (by kernel_rfl) ?_;simp only[go_sem,Sd.cs,Nd.cs,Int.reduceEq,ao,aq,L1,and_self,hc];refine ab ((cV _ _ m1).mono ?_);rintro r H' m2 aH ⟨rfl,rfl,_⟩;have l2:ae m1 m2:= .inr aH;have L2:ae m m2:=aa L1 l2;have K2:ae m1 m2:=aa (.inl rfl:ae m1 m1) l2;simp only[go_sem,Sd.cs,Nd.cs,Int.reduceEq,ao,aq,K2,and_self,hc];refine ab ((aQ (hX m2 L2) (fun V=>rfl)).mono ?_);rintro r H' m3 bI ⟨l3,rfl,rfl⟩;have L3:ae m m3:=aa L2 l3;have K3:ae m1 m3:=aa K2 l3;simp only[go_sem,Sd.cs,Nd.cs,Int.reduceEq,ao,aq,K3,and_self,hc];refine⟨by kernel_rfl,fun a4 c4 w4 kr qL r4=>bo ((mP _ a4 c4 w4 r4 (by simp only[List.flatten_cons,List.flatten_nil,aI,aL,bh,cap];omega)).mono ?_)⟩;rintro r H' m4 cT ⟨l4,rfl,rfl⟩;have L4:ae m m4:=aa L3 (aa (.inr kr) l4);have K4:ae m1 m4:=aa K3 (aa (.inr kr) l4);simp only[go_sem,Sd.cs,Nd.cs,Int.reduceEq,ao,aq,K4,and_self,hc];refine ab ((hB m4 L4).mono ?_);rintro r H' m5 cO ⟨l5,rfl,rfl⟩;have L5:ae m m5:=aa L4 l5;have K5:ae m1 m5:=aa K4 l5;simp only[go_sem,Sd.cs,Nd.cs,Int.reduceEq,ao,aq,K5,and_self,hc]
  intro Lk Li vx0 As KF Ld;intro Lj Lh vx1 wo KE Lc;intro px2 qx2 vx2 F5 ajP sx2;refine⟨by kernel_rfl,fun Mv Mp KZ tA aj3 Lf=>bo ((fW [[kw [105,102]],(sg [40]::(TX++[sg [41]])),TB] Mv 3 Mp _ KZ rfl Lf ⟨⟨Lk,Li,rfl,KF,ax (aa (.inr wo) (aa (.inr F5) (.inr tA))) Ld⟩,⟨⟨Lj,Lh,rfl,KE,ax (aa (.inr F5) (.inr tA)) Lc⟩,⟨⟨px2,qx2,rfl,ajP,ax (.inr tA) sx2⟩,trivial⟩⟩⟩ (by decide) (by simp only[List.flatten_cons,List.flatten_nil,aI,aL,bh,cap];omega)).mono ?_)⟩;rintro r H' m6 eo ⟨l6,rfl,rfl⟩;have L6:ae m m6:=aa L5 (aa (aa (.inr As) (aa (.inr wo) (aa (.inr F5) (.inr tA)))) l6);have K6:ae m1 m6:=aa K5 (aa (aa (.inr As) (aa (.inr wo) (aa (.inr F5) (.inr tA)))) l6);simp only[go_sem,Sd.cs,Nd.cs,Int.reduceEq,ao,aq,K6,and_self,hc];refine bO (.hoist 0 (.hoist 4 (.hoist 5 (.alt 1 [5,4,0] (.alt 2 [5,4,0] (.alt 3 [5,4,0] (.alt 6 [0] (.alt 7 [] (.alt 8 [] (.hoist 9 .done) .stop) .stop) .stop) .stop) .stop) .stop)))) jG (by kernel_rfl) (by kernel_rfl) ?_;simp only[go_sem,Sd.cs,Nd.cs,Int.reduceEq,ao,aq,K6,and_self,hc];refine ab ((cV _ _ m6).mono ?_);rintro r H' m7 ft ⟨rfl,rfl,_⟩;have l7:ae m6 m7:= .inr ft;have L7:ae m m7:=aa L6 l7;have K7:ae m6 m7:=aa (.inl rfl:ae m6 m6) l7;simp only[go_sem,Sd.cs,Nd.cs,Int.reduceEq,ao,aq,K7,and_self,hc];refine ab ((hA m7 L7).mono ?_);rintro r H' m8 ix ⟨l8,rfl,rfl⟩;have L8:ae m m8:=aa L7 l8;have K8:ae m6 m8:=aa K7 l8;simp only[go_sem,Sd.cs,Nd.cs,Int.reduceEq,ao,aq,K8,and_self,hc];intro p0 q0 v0 dr dF s0;intro p1 q1 v1 aW dz s1;intro p2 q2 v2 aA fQ s2;refine⟨by kernel_rfl,fun aj cj wj bc jx rj=>bo ((fW [List.flatten [[kw [105,102]],(sg [40]::(TX++[sg [41]])),TB],[kw [101,108,115,101]],TA] aj 3 cj _ wj rfl rj ⟨⟨p0,q0,rfl,dF,ax (aa (.inr aW) (aa (.inr aA) (.inr bc))) s0⟩,⟨⟨p1,q1,rfl,dz,ax (aa (.inr aA) (.inr bc)) s1⟩,⟨⟨p2,q2,rfl,fQ,ax (.inr bc) s2⟩,trivial⟩⟩⟩ (by decide) dk).mono ?_)⟩
  rintro r H' mj jw ⟨lj,rfl,rfl⟩;simp only[go_sem,Sd.cs,Nd.cs,Int.reduceEq,ao,aq,hc];exact⟨aa L8 (aa (aa (.inr dr) (aa (.inr aW) (aa (.inr aA) (.inr bc)))) lj),_,_,rfl,rfl⟩
theorem afT (nm:List UInt8) (ty:Ty) (tN eN:Nd) (a:Option Addr) (l cp:Nat) (b:Option Addr) (l2 cp2:Nat) (m:Mem) (hc:((0:Int)<(l2:Int))=False) (TX:List Tk) (hX:∀m',ae m m' ->bS 41 [.v (.agg ⟨eN.cs⟩)] m' TX) (TB:List Tk) (hB:∀m',ae m m' ->bS 102 [.v (.slice a l cp)] m' TB)
  (hb:(List.flatten [[kw [105,102]],(sg [40]::(TX++[sg [41]])),TB]).length<=cap):bS 169 [.v (.agg ⟨Sd.cs ⟨4,nm,ty,tN,eN,a,l,cp,b,l2,cp2⟩⟩)] m (List.flatten [[kw [105,102]],(sg [40]::(TX++[sg [41]])),TB]):=by
 have dk:=hb;simp only[List.flatten_cons,List.flatten_nil,aI,aL,bh,cap] at hb;refine ew ?_;refine enter oO jG Tryz.func169 rfl rfl (by kernel_rfl) rfl ?_ ?_
 ·simp only[go_sem,Sd.cs,Nd.cs]
 ·simp only[go_sem,Sd.cs,Nd.cs,Int.reduceEq,ao,aq];refine ab ((cV _ _ m).mono ?_);rintro r H' m1 aN ⟨rfl,rfl,_⟩;have l1:ae m m1:= .inr aN;have L1:ae m m1:=aa (.inl rfl:ae m m) l1;simp only[go_sem,Sd.cs,Nd.cs,Int.reduceEq,ao,aq,L1,and_self,hc];refine bO (.hoist 3 (.hoist 4 (.hoist 7 (.hoist 8 (.alt 0 [8,7,4,3] (.alt 1 [8,7,4,3] (.alt 2 [8,7,4,3] (.alt 5 [8,7] (.alt 6 [8,7] (.alt 9 [] (.alt 10 [] (.alt 11 [] (.hoist 12 .done) .stop) .stop) .stop) .stop) .stop) .stop) .stop) .stop))))) jG (by kernel_rfl) (by kernel_rfl) ?_;simp only[go_sem,Sd.cs,Nd.cs,Int.reduceEq,ao,aq,L1,and_self,hc];refine ab ((cV _ _ m1).mono ?_);rintro r H' m2 aH ⟨rfl,rfl,_⟩;have l2:ae m1 m2:= .inr aH;have L2:ae m m2:=aa L1 l2;have K2:ae m1 m2:=aa (.inl rfl:ae m1 m1) l2;simp only[go_sem,Sd.cs,Nd.cs,Int.reduceEq,ao,aq,K2,and_self,hc];refine ab ((aQ (hX m2 L2) (fun V=>rfl)).mono ?_);rintro r H' m3 bI ⟨l3,rfl,rfl⟩;have L3:ae m m3:=aa L2 l3;have K3:ae m1 m3:=aa K2 l3;simp only[go_sem,Sd.cs,Nd.cs,Int.reduceEq,ao,aq,K3,and_self,hc];refine⟨by kernel_rfl,fun a4 c4 w4 kr qL r4=>bo ((mP _ a4 c4 w4 r4 (by simp only[List.flatten_cons,List.flatten_nil,aI,aL,bh,cap];omega)).mono ?_)⟩;rintro r H' m4 cT ⟨l4,rfl,rfl⟩;have L4:ae m m4:=aa L3 (aa (.inr kr) l4);have K4:ae m1 m4:=aa K3 (aa (.inr kr) l4);simp only[go_sem,Sd.cs,Nd.cs,Int.reduceEq,ao,aq,K4,and_self,hc];refine ab ((hB m4 L4).mono ?_);rintro r H' m5 cO ⟨l5,rfl,rfl⟩;have L5:ae m m5:=aa L4 l5;have K5:ae m1 m5:=aa K4 l5;simp only[go_sem,Sd.cs,Nd.cs,Int.reduceEq,ao,aq,K5,and_self,hc]
  intro p0 q0 v0 dr dF s0;intro p1 q1 v1 aW dz s1;intro p2 q2 v2 aA fQ s2;refine⟨by kernel_rfl,fun aj cj wj bc jx rj=>bo ((fW [[kw [105,102]],(sg [40]::(TX++[sg [41]])),TB] aj 3 cj _ wj rfl rj ⟨⟨p0,q0,rfl,dF,ax (aa (.inr aW) (aa (.inr aA) (.inr bc))) s0⟩,⟨⟨p1,q1,rfl,dz,ax (aa (.inr aA) (.inr bc)) s1⟩,⟨⟨p2,q2,rfl,fQ,ax (.inr bc) s2⟩,trivial⟩⟩⟩ (by decide) dk).mono ?_)⟩;rintro r H' mj jw ⟨lj,rfl,rfl⟩;simp only[go_sem,Sd.cs,Nd.cs,Int.reduceEq,ao,aq,hc];exact⟨aa L5 (aa (aa (.inr dr) (aa (.inr aW) (aa (.inr aA) (.inr bc)))) lj),_,_,rfl,rfl⟩
theorem ai3 (nm:List UInt8) (ty:Ty) (tN eN:Nd) (a:Option Addr) (l cp:Nat) (b:Option Addr) (l2 cp2:Nat) (m:Mem) (TX:List Tk) (hX:∀m',ae m m' ->bS 41 [.v (.agg ⟨eN.cs⟩)] m' TX) (TB:List Tk) (hB:∀m',ae m m' ->bS 102 [.v (.slice a l cp)] m' TB)
  (hb:(List.flatten [[kw [119,104,105,108,101]],(sg [40]::(TX++[sg [41]])),TB]).length<=cap):bS 169 [.v (.agg ⟨Sd.cs ⟨5,nm,ty,tN,eN,a,l,cp,b,l2,cp2⟩⟩)] m (List.flatten [[kw [119,104,105,108,101]],(sg [40]::(TX++[sg [41]])),TB]):=by
 have dk:=hb;simp only[List.flatten_cons,List.flatten_nil,aI,aL,bh,cap] at hb;refine ew ?_;refine enter oO jG Tryz.func169 rfl rfl (by kernel_rfl) rfl ?_ ?_
 ·simp only[go_sem,Sd.cs,Nd.cs]
 ·simp only[go_sem,Sd.cs,Nd.cs,Int.reduceEq,ao,aq];refine ab ((cV _ _ m).mono ?_);rintro r H' m1 aN ⟨rfl,rfl,_⟩;have l1:ae m m1:= .inr aN;have L1:ae m m1:=aa (.inl rfl:ae m m) l1;simp only[go_sem,Sd.cs,Nd.cs,Int.reduceEq,ao,aq,L1,and_self];refine bO (.hoist 3 (.hoist 4 (.hoist 7 (.hoist 8 (.alt 0 [8,7,4,3] (.alt 1 [8,7,4,3] (.alt 2 [8,7,4,3] (.alt 5 [8,7] (.alt 6 [8,7] (.alt 9 [] (.alt 10 [] (.alt 11 [] (.hoist 12 .done) .stop) .stop) .stop) .stop) .stop) .stop) .stop) .stop))))) jG (by kernel_rfl) (by kernel_rfl) ?_;simp only[go_sem,Sd.cs,Nd.cs,Int.reduceEq,ao,aq,L1,and_self];refine ab ((cV _ _ m1).mono ?_);rintro r H' m2 aH ⟨rfl,rfl,_⟩;have l2:ae m1 m2:= .inr aH;have L2:ae m m2:=aa L1 l2;have K2:ae m1 m2:=aa (.inl rfl:ae m1 m1) l2;simp only[go_sem,Sd.cs,Nd.cs,Int.reduceEq,ao,aq,K2,and_self];refine ab ((aQ (hX m2 L2) (fun V=>rfl)).mono ?_);rintro r H' m3 bI ⟨l3,rfl,rfl⟩;have L3:ae m m3:=aa L2 l3;have K3:ae m1 m3:=aa K2 l3;simp only[go_sem,Sd.cs,Nd.cs,Int.reduceEq,ao,aq,K3,and_self];refine⟨by kernel_rfl,fun a4 c4 w4 kr qL r4=>bo ((mP _ a4 c4 w4 r4 (by simp only[List.flatten_cons,List.flatten_nil,aI,aL,bh,cap];omega)).mono ?_)⟩;rintro r H' m4 cT ⟨l4,rfl,rfl⟩;have L4:ae m m4:=aa L3 (aa (.inr kr) l4);have K4:ae m1 m4:=aa K3 (aa (.inr kr) l4);simp only[go_sem,Sd.cs,Nd.cs,Int.reduceEq,ao,aq,K4,and_self];refine ab ((hB m4 L4).mono ?_);rintro r H' m5 cO ⟨l5,rfl,rfl⟩;have L5:ae m m5:=aa L4 l5;have K5:ae m1 m5:=aa K4 l5;simp only[go_sem,Sd.cs,Nd.cs,Int.reduceEq,ao,aq,K5,and_self];intro p0 q0 v0 dr dF s0
  intro p1 q1 v1 aW dz s1;intro p2 q2 v2 aA fQ s2;refine⟨by kernel_rfl,fun aj cj wj bc jx rj=>bo ((fW [[kw [119,104,105,108,101]],(sg [40]::(TX++[sg [41]])),TB] aj 3 cj _ wj rfl rj ⟨⟨p0,q0,rfl,dF,ax (aa (.inr aW) (aa (.inr aA) (.inr bc))) s0⟩,⟨⟨p1,q1,rfl,dz,ax (aa (.inr aA) (.inr bc)) s1⟩,⟨⟨p2,q2,rfl,fQ,ax (.inr bc) s2⟩,trivial⟩⟩⟩ (by decide) dk).mono ?_)⟩;rintro r H' mj jw ⟨lj,rfl,rfl⟩;simp only[go_sem,Sd.cs,Nd.cs,Int.reduceEq,ao,aq];exact⟨aa L5 (aa (aa (.inr dr) (aa (.inr aW) (aa (.inr aA) (.inr bc)))) lj),_,_,rfl,rfl⟩
theorem afS (nm:List UInt8) (ty:Ty) (tN eN:Nd) (a:Option Addr) (l cp:Nat) (b:Option Addr) (l2 cp2:Nat) (m:Mem) (hc:ji eN.k eN.n eN.s eN.c eN.ty eN.l=false) (TX:List Tk) (hX:∀m',ae m m' ->bS 41 [.v (.agg ⟨eN.cs⟩)] m' TX)
  (hb:(List.flatten [[kw [114,101,116,117,114,110]],TX,[sg [59]]]).length<=cap):bS 169 [.v (.agg ⟨Sd.cs ⟨6,nm,ty,tN,eN,a,l,cp,b,l2,cp2⟩⟩)] m (List.flatten [[kw [114,101,116,117,114,110]],TX,[sg [59]]]):=by
 have dk:=hb;simp only[List.flatten_cons,List.flatten_nil,aI,aL,bh,cap] at hb;refine ew ?_;refine enter oO jG Tryz.func169 rfl rfl (by kernel_rfl) rfl ?_ ?_
 ·simp only[go_sem,Sd.cs,Nd.cs]
 ·simp only[go_sem,Sd.cs,Nd.cs,Int.reduceEq,ao,aq];refine ab ((cV _ _ m).mono ?_);rintro r H' m1 aN ⟨rfl,rfl,_⟩;have l1:ae m m1:= .inr aN;have L1:ae m m1:=aa (.inl rfl:ae m m) l1;simp only[go_sem,Sd.cs,Nd.cs,Int.reduceEq,ao,aq,L1,and_self,hc];refine bO (.hoist 3 (.hoist 4 (.hoist 6 (.alt 0 [6,4,3] (.alt 1 [6,4,3] (.alt 2 [6,4,3] (.alt 5 [6] (.alt 7 [] (.alt 8 [] (.hoist 9 .done) .stop) .stop) .stop) .stop) .stop) .stop)))) jG (by kernel_rfl) (by kernel_rfl) ?_;simp only[go_sem,Sd.cs,Nd.cs,Int.reduceEq,ao,aq,L1,and_self,hc];refine ab ((cV _ _ m1).mono ?_);rintro r H' m2 aH ⟨rfl,rfl,_⟩;have l2:ae m1 m2:= .inr aH;have L2:ae m m2:=aa L1 l2;have K2:ae m1 m2:=aa (.inl rfl:ae m1 m1) l2;simp only[go_sem,Sd.cs,Nd.cs,Int.reduceEq,ao,aq,K2,and_self,hc];refine ab ((aQ (hX m2 L2) (fun V=>rfl)).mono ?_);rintro r H' m3 bI ⟨l3,rfl,rfl⟩;have L3:ae m m3:=aa L2 l3;have K3:ae m1 m3:=aa K2 l3;simp only[go_sem,Sd.cs,Nd.cs,Int.reduceEq,ao,aq,K3,and_self,hc];intro p0 q0 v0 dr dF s0;intro p1 q1 v1 aW dz s1;intro p2 q2 v2 aA fQ s2;refine⟨by kernel_rfl,fun aj cj wj bc jx rj=>bo ((fW [[kw [114,101,116,117,114,110]],TX,[sg [59]]] aj 3 cj _ wj rfl rj ⟨⟨p0,q0,rfl,dF,ax (aa (.inr aW) (aa (.inr aA) (.inr bc))) s0⟩,⟨⟨p1,q1,rfl,dz,ax (aa (.inr aA) (.inr bc)) s1⟩,⟨⟨p2,q2,rfl,fQ,ax (.inr bc) s2⟩,trivial⟩⟩⟩ (by decide) dk).mono ?_)⟩;rintro r H' mj jw ⟨lj,rfl,rfl⟩;simp only[go_sem,Sd.cs,Nd.cs,Int.reduceEq,ao,aq,hc];exact⟨aa L3 (aa (aa (.inr dr) (aa (.inr aW) (aa (.inr aA) (.inr bc)))) lj),_,_,rfl,rfl⟩
theorem afR (nm:List UInt8) (ty:Ty) (tN eN:Nd) (a:Option Addr) (l cp:Nat) (b:Option Addr) (l2 cp2:Nat) (m:Mem) (hc:ji eN.k eN.n eN.s eN.c eN.ty eN.l=true) 
  (hb:(List.flatten [[kw [114,101,116,117,114,110]],[sg [59]]]).length<=cap):bS 169 [.v (.agg ⟨Sd.cs ⟨6,nm,ty,tN,eN,a,l,cp,b,l2,cp2⟩⟩)] m (List.flatten [[kw [114,101,116,117,114,110]],[sg [59]]]):=by
 have dk:=hb;simp only[List.flatten_cons,List.flatten_nil,aI,aL,bh,cap] at hb;refine ew ?_;refine enter oO jG Tryz.func169 rfl rfl (by kernel_rfl) rfl ?_ ?_
 ·simp only[go_sem,Sd.cs,Nd.cs]
 ·simp only[go_sem,Sd.cs,Nd.cs,Int.reduceEq,ao,aq];refine ab ((cV _ _ m).mono ?_);rintro r H' m1 aN ⟨rfl,rfl,_⟩;have l1:ae m m1:= .inr aN;have L1:ae m m1:=aa (.inl rfl:ae m m) l1;simp only[go_sem,Sd.cs,Nd.cs,Int.reduceEq,ao,aq,L1,and_self,hc];refine ab ((cV _ _ m1).mono ?_);rintro r H' m2 aH ⟨rfl,rfl,_⟩;have l2:ae m1 m2:= .inr aH;have L2:ae m m2:=aa L1 l2;simp only[go_sem,Sd.cs,Nd.cs,Int.reduceEq,ao,aq,L2,and_self,hc];intro p0 q0 v0 dr dF s0;intro p1 q1 v1 aW dz s1;refine⟨by kernel_rfl,fun aj cj wj bc jx rj=>bo ((fW [[kw [114,101,116,117,114,110]],[sg [59]]] aj 2 cj _ wj rfl rj ⟨⟨p0,q0,rfl,dF,ax (aa (.inr aW) (.inr bc)) s0⟩,⟨⟨p1,q1,rfl,dz,ax (.inr bc) s1⟩,trivial⟩⟩ (by decide) dk).mono ?_)⟩;rintro r H' mj jw ⟨lj,rfl,rfl⟩;simp only[go_sem,Sd.cs,Nd.cs,Int.reduceEq,ao,aq,hc];exact⟨aa L2 (aa (aa (.inr dr) (aa (.inr aW) (.inr bc))) lj),_,_,rfl,rfl⟩
theorem ai2 (nm:List UInt8) (ty:Ty) (tN eN:Nd) (a:Option Addr) (l cp:Nat) (b:Option Addr) (l2 cp2:Nat) (m:Mem) (TX:List Tk) (hX:∀m',ae m m' ->bS 41 [.v (.agg ⟨eN.cs⟩)] m' TX)
  (hb:(List.flatten [[kw [116,104,114,111,119]],TX,[sg [59]]]).length<=cap):bS 169 [.v (.agg ⟨Sd.cs ⟨7,nm,ty,tN,eN,a,l,cp,b,l2,cp2⟩⟩)] m (List.flatten [[kw [116,104,114,111,119]],TX,[sg [59]]]):=by
 have dk:=hb;simp only[List.flatten_cons,List.flatten_nil,aI,aL,bh,cap] at hb;refine ew ?_;refine enter oO jG Tryz.func169 rfl rfl (by kernel_rfl) rfl ?_ ?_
 ·simp only[go_sem,Sd.cs,Nd.cs]
 ·simp only[go_sem,Sd.cs,Nd.cs,Int.reduceEq,ao,aq];refine ab ((cV _ _ m).mono ?_);rintro r H' m1 aN ⟨rfl,rfl,_⟩;have l1:ae m m1:= .inr aN;have L1:ae m m1:=aa (.inl rfl:ae m m) l1;simp only[go_sem,Sd.cs,Nd.cs,Int.reduceEq,ao,aq,L1,and_self];refine bO (.hoist 3 (.hoist 4 (.hoist 6 (.alt 0 [6,4,3] (.alt 1 [6,4,3] (.alt 2 [6,4,3] (.alt 5 [6] (.alt 7 [] (.alt 8 [] (.hoist 9 .done) .stop) .stop) .stop) .stop) .stop) .stop)))) jG (by kernel_rfl) (by kernel_rfl) ?_;simp only[go_sem,Sd.cs,Nd.cs,Int.reduceEq,ao,aq,L1,and_self];refine ab ((cV _ _ m1).mono ?_);rintro r H' m2 aH ⟨rfl,rfl,_⟩;have l2:ae m1 m2:= .inr aH;have L2:ae m m2:=aa L1 l2;have K2:ae m1 m2:=aa (.inl rfl:ae m1 m1) l2;simp only[go_sem,Sd.cs,Nd.cs,Int.reduceEq,ao,aq,K2,and_self];refine ab ((aQ (hX m2 L2) (fun V=>rfl)).mono ?_);rintro r H' m3 bI ⟨l3,rfl,rfl⟩;have L3:ae m m3:=aa L2 l3;have K3:ae m1 m3:=aa K2 l3;simp only[go_sem,Sd.cs,Nd.cs,Int.reduceEq,ao,aq,K3,and_self];intro p0 q0 v0 dr dF s0;intro p1 q1 v1 aW dz s1;intro p2 q2 v2 aA fQ s2;refine⟨by kernel_rfl,fun aj cj wj bc jx rj=>bo ((fW [[kw [116,104,114,111,119]],TX,[sg [59]]] aj 3 cj _ wj rfl rj ⟨⟨p0,q0,rfl,dF,ax (aa (.inr aW) (aa (.inr aA) (.inr bc))) s0⟩,⟨⟨p1,q1,rfl,dz,ax (aa (.inr aA) (.inr bc)) s1⟩,⟨⟨p2,q2,rfl,fQ,ax (.inr bc) s2⟩,trivial⟩⟩⟩ (by decide) dk).mono ?_)⟩;rintro r H' mj jw ⟨lj,rfl,rfl⟩;simp only[go_sem,Sd.cs,Nd.cs,Int.reduceEq,ao,aq];exact⟨aa L3 (aa (aa (.inr dr) (aa (.inr aW) (aa (.inr aA) (.inr bc)))) lj),_,_,rfl,rfl⟩
theorem ai1 (nm:List UInt8) (ty:Ty) (tN eN:Nd) (a:Option Addr) (l cp:Nat) (b:Option Addr) (l2 cp2:Nat) (m:Mem) (TB:List Tk) (hB:∀m',ae m m' ->bS 102 [.v (.slice a l cp)] m' TB) (bL:ty.dim<=1000) (TA:List Tk) (hA:∀m',ae m m' ->bS 102 [.v (.slice b l2 cp2)] m' TA)
  (hb:(List.flatten [[kw [116,114,121]],TB,[kw [99,97,116,99,104]],(sg [40]::(List.flatten [b5 ty.dim ty.base ty.name,[aM nm]]++[sg [41]])),TA]).length<=cap):bS 169 [.v (.agg ⟨Sd.cs ⟨8,nm,ty,tN,eN,a,l,cp,b,l2,cp2⟩⟩)] m (List.flatten [[kw [116,114,121]],TB,[kw [99,97,116,99,104]],(sg [40]::(List.flatten [b5 ty.dim ty.base ty.name,[aM nm]]++[sg [41]])),TA]):=by
 have dk:=hb;simp only[List.flatten_cons,List.flatten_nil,aI,aL,bh,cap] at hb;refine ew ?_;refine enter oO jG Tryz.func169 rfl rfl (by kernel_rfl) rfl ?_ ?_
 ·simp only[go_sem,Sd.cs,Nd.cs]
 ·simp only[go_sem,Sd.cs,Nd.cs,Int.reduceEq,ao,aq];refine ab ((cV _ _ m).mono ?_);rintro r H' m1 aN ⟨rfl,rfl,_⟩;have l1:ae m m1:= .inr aN;have L1:ae m m1:=aa (.inl rfl:ae m m) l1;simp only[go_sem,Sd.cs,Nd.cs,Int.reduceEq,ao,aq,L1,and_self];refine bO (.hoist 3 (.hoist 4 (.hoist 9 (.hoist 10 (.hoist 12 (.hoist 13 (.hoist 20 (.hoist 21 (.alt 0 [21,20,13,12,10,9,4,3] (.alt 1 [21,20,13,12,10,9,4,3] (.alt 2 [21,20,13,12,10,9,4,3] (.alt 5 [21,20,13,12,10,9] (.alt 6 [21,20,13,12,10,9] (.alt 7 [21,20,13,12,10,9] (.alt 8 [21,20,13,12,10,9] (.alt 11 [21,20,13,12] (.alt 14 [21,20] (.alt 15 [21,20] (.alt 16 [21,20] (.alt 17 [21,20] (.alt 18 [21,20] (.alt 19 [21,20] (.alt 22 [] (.alt 23 [] (.alt 24 [] (.hoist 25 .done) .stop) .stop) .stop) .stop) .stop) .stop) .stop) .stop) .stop) .stop) .stop) .stop) .stop) .stop) .stop) .stop) .stop))))))))) jG (by kernel_rfl) (by kernel_rfl) ?_;simp only[go_sem,Sd.cs,Nd.cs,Int.reduceEq,ao,aq,L1,and_self];refine ab ((cV _ _ m1).mono ?_);rintro r H' m2 aH ⟨rfl,rfl,_⟩;have l2:ae m1 m2:= .inr aH;have L2:ae m m2:=aa L1 l2;have K2:ae m1 m2:=aa (.inl rfl:ae m1 m1) l2;simp only[go_sem,Sd.cs,Nd.cs,Int.reduceEq,ao,aq,K2,and_self];refine ab ((hB m2 L2).mono ?_);rintro r H' m3 bI ⟨l3,rfl,rfl⟩;have L3:ae m m3:=aa L2 l3;have K3:ae m1 m3:=aa K2 l3;simp only[go_sem,Sd.cs,Nd.cs,Int.reduceEq,ao,aq,K3,and_self];refine ab ((cV _ _ m3).mono ?_);rintro r H' m4 cT ⟨rfl,rfl,_⟩;have l4:ae m3 m4:= .inr cT;have L4:ae m m4:=aa L3 l4;have K4:ae m1 m4:=aa K3 l4;simp only[go_sem,Sd.cs,Nd.cs,Int.reduceEq,ao,aq,K4,and_self]
  refine ab ((aQ (sK ty.dim ty.base ty.name m4 bL) (fun V=>rfl)).mono ?_);rintro r H' m5 cO ⟨l5,rfl,rfl⟩;have L5:ae m m5:=aa L4 l5;have K5:ae m1 m5:=aa K4 l5;simp only[go_sem,Sd.cs,Nd.cs,Int.reduceEq,ao,aq,K5,and_self];refine ab ((cV _ _ m5).mono ?_);rintro r H' m6 eo ⟨rfl,rfl,_⟩;have l6:ae m5 m6:= .inr eo;have L6:ae m m6:=aa L5 l6;have K6:ae m1 m6:=aa K5 l6;simp only[go_sem,Sd.cs,Nd.cs,Int.reduceEq,ao,aq,K6,and_self];intro Lk Li vx0 As KF Ld;intro Lj Lh vx1 wo KE Lc;refine⟨(aa (aa K6 (.inr As)) (.inr wo)),by kernel_rfl,fun Mv Mp KZ tA aj3 Lf=>bo ((fW [b5 ty.dim ty.base ty.name,[aM nm]] Mv 2 Mp _ KZ rfl Lf ⟨⟨Lk,Li,rfl,KF,ax (aa (.inr wo) (.inr tA)) Ld⟩,⟨⟨Lj,Lh,rfl,KE,ax (.inr tA) Lc⟩,trivial⟩⟩ (by decide) (by simp only[List.flatten_cons,List.flatten_nil,aI,aL,bh,cap];omega)).mono ?_)⟩;rintro r H' m7 ft ⟨l7,rfl,rfl⟩;have L7:ae m m7:=aa L6 (aa (aa (.inr As) (aa (.inr wo) (.inr tA))) l7);have K7:ae m1 m7:=aa K6 (aa (aa (.inr As) (aa (.inr wo) (.inr tA))) l7);simp only[go_sem,Sd.cs,Nd.cs,Int.reduceEq,ao,aq,K7,and_self];refine⟨by kernel_rfl,fun a8 c8 w8 qE GN r8=>bo ((mP _ a8 c8 w8 r8 (by simp only[List.flatten_cons,List.flatten_nil,aI,aL,bh,cap];omega)).mono ?_)⟩;rintro r H' m8 ix ⟨l8,rfl,rfl⟩;have L8:ae m m8:=aa L7 (aa (.inr qE) l8);have K8:ae m1 m8:=aa K7 (aa (.inr qE) l8);simp only[go_sem,Sd.cs,Nd.cs,Int.reduceEq,ao,aq,K8,and_self];refine ab ((hA m8 L8).mono ?_);rintro r H' m9 kJ ⟨l9,rfl,rfl⟩;have L9:ae m m9:=aa L8 l9;have K9:ae m1 m9:=aa K8 l9;simp only[go_sem,Sd.cs,Nd.cs,Int.reduceEq,ao,aq,K9,and_self]
  intro p0 q0 v0 dr dF s0;intro p1 q1 v1 aW dz s1;intro p2 q2 v2 aA fQ s2;intro p3 q3 v3 ja mM s3;intro p4 q4 v4 sj sn s4;refine⟨by kernel_rfl,fun aj cj wj bc jx rj=>bo ((fW [[kw [116,114,121]],TB,[kw [99,97,116,99,104]],(sg [40]::(List.flatten [b5 ty.dim ty.base ty.name,[aM nm]]++[sg [41]])),TA] aj 5 cj _ wj rfl rj ⟨⟨p0,q0,rfl,dF,ax (aa (.inr aW) (aa (.inr aA) (aa (.inr ja) (aa (.inr sj) (.inr bc))))) s0⟩,⟨⟨p1,q1,rfl,dz,ax (aa (.inr aA) (aa (.inr ja) (aa (.inr sj) (.inr bc)))) s1⟩,⟨⟨p2,q2,rfl,fQ,ax (aa (.inr ja) (aa (.inr sj) (.inr bc))) s2⟩,⟨⟨p3,q3,rfl,mM,ax (aa (.inr sj) (.inr bc)) s3⟩,⟨⟨p4,q4,rfl,sn,ax (.inr bc) s4⟩,trivial⟩⟩⟩⟩⟩ (by decide) dk).mono ?_)⟩;rintro r H' mj jw ⟨lj,rfl,rfl⟩;simp only[go_sem,Sd.cs,Nd.cs,Int.reduceEq,ao,aq];exact⟨aa L9 (aa (aa (.inr dr) (aa (.inr aW) (aa (.inr aA) (aa (.inr ja) (aa (.inr sj) (.inr bc)))))) lj),_,_,rfl,rfl⟩
theorem ai0 (nm:List UInt8) (ty:Ty) (tN eN:Nd) (a:Option Addr) (l cp:Nat) (b:Option Addr) (l2 cp2:Nat) (m:Mem) (TX:List Tk) (hX:∀m',ae m m' ->bS 41 [.v (.agg ⟨eN.cs⟩)] m' TX) (TB:List Tk) (hB:∀m',ae m m' ->bS 102 [.v (.slice a l cp)] m' TB)
  (hb:(List.flatten [[kw [115,121,110,99]],(sg [40]::(TX++[sg [41]])),TB]).length<=cap):bS 169 [.v (.agg ⟨Sd.cs ⟨9,nm,ty,tN,eN,a,l,cp,b,l2,cp2⟩⟩)] m (List.flatten [[kw [115,121,110,99]],(sg [40]::(TX++[sg [41]])),TB]):=by
 have dk:=hb;simp only[List.flatten_cons,List.flatten_nil,aI,aL,bh,cap] at hb;refine ew ?_;refine enter oO jG Tryz.func169 rfl rfl (by kernel_rfl) rfl ?_ ?_
 ·simp only[go_sem,Sd.cs,Nd.cs]
 ·simp only[go_sem,Sd.cs,Nd.cs,Int.reduceEq,ao,aq];refine ab ((cV _ _ m).mono ?_);rintro r H' m1 aN ⟨rfl,rfl,_⟩;have l1:ae m m1:= .inr aN;have L1:ae m m1:=aa (.inl rfl:ae m m) l1;simp only[go_sem,Sd.cs,Nd.cs,Int.reduceEq,ao,aq,L1,and_self];refine bO (.hoist 3 (.hoist 4 (.hoist 7 (.hoist 8 (.alt 0 [8,7,4,3] (.alt 1 [8,7,4,3] (.alt 2 [8,7,4,3] (.alt 5 [8,7] (.alt 6 [8,7] (.alt 9 [] (.alt 10 [] (.alt 11 [] (.hoist 12 .done) .stop) .stop) .stop) .stop) .stop) .stop) .stop) .stop))))) jG (by kernel_rfl) (by kernel_rfl) ?_;simp only[go_sem,Sd.cs,Nd.cs,Int.reduceEq,ao,aq,L1,and_self];refine ab ((cV _ _ m1).mono ?_);rintro r H' m2 aH ⟨rfl,rfl,_⟩;have l2:ae m1 m2:= .inr aH;have L2:ae m m2:=aa L1 l2;have K2:ae m1 m2:=aa (.inl rfl:ae m1 m1) l2;simp only[go_sem,Sd.cs,Nd.cs,Int.reduceEq,ao,aq,K2,and_self];refine ab ((aQ (hX m2 L2) (fun V=>rfl)).mono ?_);rintro r H' m3 bI ⟨l3,rfl,rfl⟩;have L3:ae m m3:=aa L2 l3;have K3:ae m1 m3:=aa K2 l3;simp only[go_sem,Sd.cs,Nd.cs,Int.reduceEq,ao,aq,K3,and_self];refine⟨by kernel_rfl,fun a4 c4 w4 kr qL r4=>bo ((mP _ a4 c4 w4 r4 (by simp only[List.flatten_cons,List.flatten_nil,aI,aL,bh,cap];omega)).mono ?_)⟩;rintro r H' m4 cT ⟨l4,rfl,rfl⟩;have L4:ae m m4:=aa L3 (aa (.inr kr) l4);have K4:ae m1 m4:=aa K3 (aa (.inr kr) l4);simp only[go_sem,Sd.cs,Nd.cs,Int.reduceEq,ao,aq,K4,and_self];refine ab ((hB m4 L4).mono ?_);rintro r H' m5 cO ⟨l5,rfl,rfl⟩;have L5:ae m m5:=aa L4 l5;have K5:ae m1 m5:=aa K4 l5;simp only[go_sem,Sd.cs,Nd.cs,Int.reduceEq,ao,aq,K5,and_self];intro p0 q0 v0 dr dF s0
  intro p1 q1 v1 aW dz s1;intro p2 q2 v2 aA fQ s2;refine⟨by kernel_rfl,fun aj cj wj bc jx rj=>bo ((fW [[kw [115,121,110,99]],(sg [40]::(TX++[sg [41]])),TB] aj 3 cj _ wj rfl rj ⟨⟨p0,q0,rfl,dF,ax (aa (.inr aW) (aa (.inr aA) (.inr bc))) s0⟩,⟨⟨p1,q1,rfl,dz,ax (aa (.inr aA) (.inr bc)) s1⟩,⟨⟨p2,q2,rfl,fQ,ax (.inr bc) s2⟩,trivial⟩⟩⟩ (by decide) dk).mono ?_)⟩;rintro r H' mj jw ⟨lj,rfl,rfl⟩;simp only[go_sem,Sd.cs,Nd.cs,Int.reduceEq,ao,aq];exact⟨aa L5 (aa (aa (.inr dr) (aa (.inr aW) (aa (.inr aA) (.inr bc)))) lj),_,_,rfl,rfl⟩
theorem afW (nm:List UInt8) (ty:Ty) (tN eN:Nd) (a:Option Addr) (l cp:Nat) (b:Option Addr) (l2 cp2:Nat) (m:Mem) (TB:List Tk) (hB:∀m',ae m m' ->bS 102 [.v (.slice a l cp)] m' TB)
  (hb:(TB).length<=cap):bS 169 [.v (.agg ⟨Sd.cs ⟨10,nm,ty,tN,eN,a,l,cp,b,l2,cp2⟩⟩)] m (TB):=by
 have dk:=hb;simp only[List.flatten_cons,List.flatten_nil,aI,aL,bh,cap] at hb;refine ew ?_;refine enter oO jG Tryz.func169 rfl rfl (by kernel_rfl) rfl ?_ ?_
 ·simp only[go_sem,Sd.cs,Nd.cs]
 ·simp only[go_sem,Sd.cs,Nd.cs,Int.reduceEq,ao,aq];refine ab ((cV _ _ m).mono ?_);rintro r H' m1 aN ⟨rfl,rfl,_⟩;have l1:ae m m1:= .inr aN;have L1:ae m m1:=aa (.inl rfl:ae m m) l1;simp only[go_sem,Sd.cs,Nd.cs,Int.reduceEq,ao,aq,L1,and_self];refine ab ((hB m1 L1).mono ?_);rintro r H' m2 aH ⟨l2,rfl,rfl⟩;have L2:ae m m2:=aa L1 l2;simp only[go_sem,Sd.cs,Nd.cs,Int.reduceEq,ao,aq,L2,and_self];exact⟨_,_,rfl,rfl⟩
theorem afV (nm:List UInt8) (ty:Ty) (tN eN:Nd) (a:Option Addr) (l cp:Nat) (b:Option Addr) (l2 cp2:Nat) (m:Mem) (TL:List Tk) (hL:∀m',ae m m' ->bS 106 [.v (.slice eN.a eN.l eN.cp)] m' TL)
  (hb:(List.flatten [[kw [115,117,112,101,114]],(sg [40]::(TL++[sg [41]])),[sg [59]]]).length<=cap):bS 169 [.v (.agg ⟨Sd.cs ⟨11,nm,ty,tN,eN,a,l,cp,b,l2,cp2⟩⟩)] m (List.flatten [[kw [115,117,112,101,114]],(sg [40]::(TL++[sg [41]])),[sg [59]]]):=by
 have dk:=hb;simp only[List.flatten_cons,List.flatten_nil,aI,aL,bh,cap] at hb;refine ew ?_;refine enter oO jG Tryz.func169 rfl rfl (by kernel_rfl) rfl ?_ ?_
 ·simp only[go_sem,Sd.cs,Nd.cs]
 ·simp only[go_sem,Sd.cs,Nd.cs,Int.reduceEq,ao,aq];refine ab ((cV _ _ m).mono ?_);rintro r H' m1 aN ⟨rfl,rfl,_⟩;have l1:ae m m1:= .inr aN;have L1:ae m m1:=aa (.inl rfl:ae m m) l1;simp only[go_sem,Sd.cs,Nd.cs,Int.reduceEq,ao,aq,L1,and_self];refine bO (.hoist 3 (.hoist 4 (.hoist 5 (.hoist 8 (.alt 0 [8,5,4,3] (.alt 1 [8,5,4,3] (.alt 2 [8,5,4,3] (.alt 6 [8] (.alt 7 [8] (.alt 9 [] (.alt 10 [] (.hoist 11 .done) .stop) .stop) .stop) .stop) .stop) .stop) .stop))))) jG (by kernel_rfl) (by kernel_rfl) ?_;simp only[go_sem,Sd.cs,Nd.cs,Int.reduceEq,ao,aq,L1,and_self];refine ab ((cV _ _ m1).mono ?_);rintro r H' m2 aH ⟨rfl,rfl,_⟩;have l2:ae m1 m2:= .inr aH;have L2:ae m m2:=aa L1 l2;have K2:ae m1 m2:=aa (.inl rfl:ae m1 m1) l2;simp only[go_sem,Sd.cs,Nd.cs,Int.reduceEq,ao,aq,K2,and_self];refine ab ((hL m2 L2).mono ?_);rintro r H' m3 bI ⟨l3,rfl,rfl⟩;have L3:ae m m3:=aa L2 l3;have K3:ae m1 m3:=aa K2 l3;simp only[go_sem,Sd.cs,Nd.cs,Int.reduceEq,ao,aq,K3,and_self];refine⟨by kernel_rfl,fun a4 c4 w4 kr qL r4=>bo ((mP _ a4 c4 w4 r4 (by simp only[List.flatten_cons,List.flatten_nil,aI,aL,bh,cap];omega)).mono ?_)⟩;rintro r H' m4 cT ⟨l4,rfl,rfl⟩;have L4:ae m m4:=aa L3 (aa (.inr kr) l4);have K4:ae m1 m4:=aa K3 (aa (.inr kr) l4);simp only[go_sem,Sd.cs,Nd.cs,Int.reduceEq,ao,aq,K4,and_self];intro p0 q0 v0 dr dF s0;intro p1 q1 v1 aW dz s1;intro p2 q2 v2 aA fQ s2;refine⟨by kernel_rfl,fun aj cj wj bc jx rj=>bo ((fW [[kw [115,117,112,101,114]],(sg [40]::(TL++[sg [41]])),[sg [59]]] aj 3 cj _ wj rfl rj ⟨⟨p0,q0,rfl,dF,ax (aa (.inr aW) (aa (.inr aA) (.inr bc))) s0⟩,⟨⟨p1,q1,rfl,dz,ax (aa (.inr aA) (.inr bc)) s1⟩,⟨⟨p2,q2,rfl,fQ,ax (.inr bc) s2⟩,trivial⟩⟩⟩ (by decide) dk).mono ?_)⟩
  rintro r H' mj jw ⟨lj,rfl,rfl⟩;simp only[go_sem,Sd.cs,Nd.cs,Int.reduceEq,ao,aq];exact⟨aa L4 (aa (aa (.inr dr) (aa (.inr aW) (aa (.inr aA) (.inr bc)))) lj),_,_,rfl,rfl⟩
def Un (s:St) (m:Mem):Prop:=∀(cs:List Value) (m' :Mem),ae m m' ->fK m' s cs->bS 169 [.v (.agg ⟨cs⟩)] m' (cS s)
theorem DR (l:List St) (a:Option Addr) (n c:Nat) (xs:List Value) (m:Mem) (hl:l.length=n) (hn:n<=av) (hr:aZ m a n 23 xs) (hs:bZ m l xs) (hS:∀e∈l,Un e m) (hb:(bl (be l)).length<=cap):
  bS 102 [.v (.slice a n c)] m (bl (be l)):=by
 rw[Nf] at hb ⊢;have dk:((l.map cS).flatten).length+2<=cap:=by
  simp only[bl,aL,aI,bh] at hb;omega
 clear hb;refine ew ?_;refine aR cG Tryz.func102 ?_
 ·simp only[go_sem];refine ab ((cV _ _ m).mono ?_);rintro r H' m1 aN ⟨rfl,rfl,_⟩;have l1:ae m m1:= .inr aN;simp only[go_sem];refine ei cG (fun x:Nat×Nat×Mem=>⟨[⟨0,[],.v (.slice a n c)⟩,⟨3,[],.vec 0 x.2.1⟩,⟨4,[],.v (.int .i64 x.1)⟩],[],[],[⟨0,x.2.1,50,4,(sg [123]::((l.take x.1).map cS).flatten).length,cv (sg [123]::((l.take x.1).map cS).flatten)⟩],2,x.2.2⟩)
   (fun x=>ae m1 x.2.2/\x.1<=n) (fun x=>n - x.1) (0,0,m1) (by kernel_rfl) (fun _ _=>dv rfl) (fun x hx=> ?_) (fun _=> ?_) ?_ ?_ ?_
  ·exact hx.1
  ·simp only[go_sem]
  ·simp only[go_sem];exact⟨rfl,rfl,rfl⟩
  ·exact⟨.inl rfl,aG _⟩
  ·rintro⟨k,v,mm⟩ ⟨h0,h2⟩;simp only at h0 h2;have h1:=aa l1 h0;have hx:∀(hk:k<l.length),∃x:Sd,(Rd mm (cM a (k * 23)) x.cs/\a≠none)/\bS 169 [.v (.agg ⟨x.cs⟩)] mm (cS l[k]):=fun hk=>by
    have aT:=sL h1 (qc hs hk);obtain⟨x,hx⟩:=Ez aT;have bU:=dA (ax h1 hr) (by omega:k<n);rw[hx] at aT bU;exact⟨x,bU,hS _ (List.getElem_mem hk) x.cs mm h1 aT⟩
   have tU:=fun(hk:k<l.length)=>And.intro (D8 (f:=cS) hk) (zB (f:=cS) l (k+1))
   have cH:=zB (f:=cS) l k;clear hS;simp only[go_sem];refine⟨fun ay=> ?_,fun cg=> ?_⟩
   ·have hk:k<l.length:=by clear hx;omega
    refine Exists.elim (hx hk) fun x bP=>⟨⟨by clear hx bP;omega,ay,bP.1.2⟩,x.cs,⟨bP.1.1,rfl⟩,?_⟩
    clear hx;have ha:=bP.2;clear bP;have hT:=(tU hk).1;have hL:=(tU hk).2;rw[hT,aI] at hL;clear tU;simp only[cap] at dk;simp only[go_sem,Sd.cs];refine ab ((aQ ha (fun V=>rfl)).mono ?_);clear ha;rintro r H' m2 aH ⟨l2,rfl,rfl⟩;simp only[go_sem,Sd.cs];refine⟨⟨by omega,by simp only[maxLen];omega⟩,by unfold aF;simp only[av] at hn;omega,(k+1,v+1,m2),⟨⟨rfl,by simp⟩,⟨rfl,?_,?_⟩,.inl rfl⟩,⟨aa h0 l2,by simp only;omega⟩,by simp only;omega⟩
    ·simp only;rw[hT,aI];omega
    ·simp only;rw[hT,<- dW,mO]
   ·clear hx tU;rw[fi (by omega)];simp only[cap] at dk;refine⟨⟨by omega,by simp only[maxLen];omega⟩,h1,0,v+1,rfl,?_⟩;have e1:(bl (l.map cS).flatten).length=(l.map cS).flatten.length+1+1:=by rw[uE]
    have e2:cv (bl (l.map cS).flatten)=cv (sg [123]::(l.map cS).flatten)++ko (sg [125]):=by rw[bl,<- dW,mO];rfl
    rw[e1,e2];rfl
theorem pg {f:FuncId} {args:List SV} {m:Mem} {T T' :List Tk} (e:T=T') (h:bS f args m T'):bS f args m T:=by rw[e];exact h
theorem Ed:∀(h:Nat) (s:St) (m:Mem),eQ s<=h->fv s=true->iD s<=av->Un s m
 |0,.mk k nm ty tg ex body alt,m,hd,_,_=>by simp [eQ] at hd
 |h+1,.mk k nm ty tg ex body alt,m,hd,hv,eD=>by
  intro cs m' hle aT;have hb:=To _ hv;have hb:(cS (.mk k nm ty tg ex body alt)).length<=cap:=by simp only[av] at eD;simp only[cap];omega
  obtain⟨⟨k',fP,dQ,tN,eN,a,l,cp,b,l2,cp2⟩,rfl,rfl,rfl,rfl,df,hex,hl,bg,ck,ea,ar,xs,ys,r1,r2,s1,s2⟩:=qX aT;simp only at df hex hl bg ck ea r1 r2 hv hb ar;simp only[eQ] at hd;simp only[iD] at eD;simp only[fv,aD] at hv;have aW:=hv.1;clear hv aT;have hB:∀{q:Bool},(decide (body.length<=32)&&b9 false body&&q)=true->∀m2,ae m' m2->bS 102 [.v (.slice a l cp)] m2 (bl (be body)):=fun iJ m2 aY=>by
   simp only[aD] at iJ;have hlen:=uF false body iJ.1.2;exact DR body a l cp xs m2 hl.symm (by rw[hl];exact ar.l) (ax aY r1) (dp aY s1) (fun e he=>Ed h e m2 (by have:=lY he;omega) (qT iJ.1.2 e he) (by have:=ue he;omega)) (by rw[uE];simp only[av] at eD;simp only[cap];omega)
  have hA:∀{q:Bool},(q&&(decide (alt.length<=32)&&b9 false alt))=true->∀m2,ae m' m2->bS 102 [.v (.slice b l2 cp2)] m2 (bl (be alt)):=fun iJ m2 aY=>by
   simp only[aD] at iJ;have hlen:=uF false alt iJ.2.2;exact DR alt b l2 cp2 ys m2 ck.symm (by rw[ck];exact ar.l2) (ax aY r2) (dp aY s2) (fun e he=>Ed h e m2 (by have:=lY he;omega) (qT iJ.2.2 e he) (by have:=ue he;omega)) (by rw[uE];simp only[av] at eD;simp only[cap];omega)
  have hX:bG ex=true->∀m2,ae m' m2->bS 41 [.v (.agg ⟨eN.cs⟩)] m2 (aC ex):=fun hv m2 aY=>EA _ ex m2 (au _) hv (by omega) _ m2 (.inl rfl) (bw aY hex)
  have hG:bG tg=true->∀m2,ae m' m2->bS 41 [.v (.agg ⟨tN.cs⟩)] m2 (aC tg):=fun hv m2 aY=>EA _ tg m2 (au _) hv (by omega) _ m2 (.inl rfl) (bw aY df)
  have ne:=(J1 hex).2;rcases A4 aW with rfl |rfl |rfl |rfl |rfl |rfl |rfl |rfl |rfl |rfl |rfl
  ·have aA:(dn fP&&dw dQ.dim dQ.base dQ.name&&bG ex)=true:=aW;simp only[aD] at aA;have hT:cS (.mk 1 fP dQ tg ex body alt)=List.flatten [b5 dQ.dim dQ.base dQ.name,[aM fP,sg [61]],aC ex,[sg [59]]]:=by simp [cS,oQ]
   rw[hT] at hb;exact pg hT (ai6 fP dQ tN eN a l cp b l2 cp2 m' (by have:=uj aA.1.2;omega) _ (hX aA.2) hb)
  ·have aA:(mR tg&&bG ex)=true:=aW;simp only[aD] at aA;have hT:cS (.mk 2 fP dQ tg ex body alt)=List.flatten [aC tg,[sg [61]],aC ex,[sg [59]]]:=by simp [cS,oQ]
   rw[hT] at hb;exact pg hT (ai5 fP dQ tN eN a l cp b l2 cp2 m' _ (hG (yQ aA.1)) _ (hX aA.2) hb)
  ·have aA:nh ex=true:=aW;have hT:cS (.mk 3 fP dQ tg ex body alt)=List.flatten [aC ex,[sg [59]]]:=by simp [cS,oQ]
   rw[hT] at hb;exact pg hT (ai4 fP dQ tN eN a l cp b l2 cp2 m' _ (hX (za aA)) hb)
  ·have aA:((decide (body.length<=32)&&b9 false body&&(decide (alt.length<=32)&&b9 false alt))&&bG ex)=true:=aW;rw[aD] at aA;by_cases ha:0<alt.length
   ·have hT:cS (.mk 4 fP dQ tg ex body alt)=List.flatten [List.flatten [[kw [105,102]],(sg [40]::(aC ex++[sg [41]])),bl (be body)],[kw [101,108,115,101]],bl (be alt)]:=by simp [cS,oQ,bj,bF,ha]
    rw[hT] at hb;exact pg hT (afU fP dQ tN eN a l cp b l2 cp2 m' (eq_true (by omega)) _ (hX aA.2) _ (hB aA.1) _ (hA aA.1) hb)
   ·have hT:cS (.mk 4 fP dQ tg ex body alt)=List.flatten [[kw [105,102]],(sg [40]::(aC ex++[sg [41]])),bl (be body)]:=by simp [cS,oQ,bj,bF,ha]
    rw[hT] at hb;exact pg hT (afT fP dQ tN eN a l cp b l2 cp2 m' (eq_false (by omega)) _ (hX aA.2) _ (hB aA.1) hb)
  ·have aA:((decide (body.length<=32)&&b9 false body&&(decide (alt.length<=32)&&b9 false alt))&&bG ex)=true:=aW;rw[aD] at aA;have hT:cS (.mk 5 fP dQ tg ex body alt)=List.flatten [[kw [119,104,105,108,101]],(sg [40]::(aC ex++[sg [41]])),bl (be body)]:=by simp [cS,oQ,bj,bF]
   rw[hT] at hb;exact pg hT (ai3 fP dQ tN eN a l cp b l2 cp2 m' _ (hX aA.2) _ (hB aA.1) hb)
  ·have aA:(jj ex||bG ex)=true:=aW;by_cases h0:jj ex=true
   ·have kZ:=Jo h0;have hT:cS (.mk 6 fP dQ tg ex body alt)=List.flatten [[kw [114,101,116,117,114,110]],[sg [59]]]:=by simp [cS,oQ,kZ]
    rw[hT] at hb;exact pg hT (afR fP dQ tN eN a l cp b l2 cp2 m' (by rw[ne];exact h0) hb)
   ·have h0:jj ex=false:=Bool.eq_false_iff.2 h0;rw[h0,Bool.false_or] at aA;have kZ:=QC aA;have hT:cS (.mk 6 fP dQ tg ex body alt)=List.flatten [[kw [114,101,116,117,114,110]],aC ex,[sg [59]]]:=by simp [cS,oQ,kZ]
    rw[hT] at hb;exact pg hT (afS fP dQ tN eN a l cp b l2 cp2 m' (by rw[ne];exact h0) _ (hX aA) hb)
  ·have aA:bG ex=true:=aW;have hT:cS (.mk 7 fP dQ tg ex body alt)=List.flatten [[kw [116,104,114,111,119]],aC ex,[sg [59]]]:=by simp [cS,oQ]
   rw[hT] at hb;exact pg hT (ai2 fP dQ tN eN a l cp b l2 cp2 m' _ (hX aA) hb)
  ·have aA:((decide (body.length<=32)&&b9 false body&&(decide (alt.length<=32)&&b9 false alt))&&dn fP&&dw dQ.dim dQ.base dQ.name)=true:=aW;rw[aD,aD] at aA;have hT:cS (.mk 8 fP dQ tg ex body alt)=List.flatten [[kw [116,114,121]],bl (be body),[kw [99,97,116,99,104]],(sg [40]::(List.flatten [b5 dQ.dim dQ.base dQ.name,[aM fP]]++[sg [41]])),bl (be alt)]:=by simp [cS,oQ]
   rw[hT] at hb;exact pg hT (ai1 fP dQ tN eN a l cp b l2 cp2 m' _ (hB aA.1.1) (by have:=uj aA.2;omega) _ (hA aA.1.1) hb)
  ·have aA:((decide (body.length<=32)&&b9 false body&&(decide (alt.length<=32)&&b9 false alt))&&bG ex)=true:=aW;rw[aD] at aA;have hT:cS (.mk 9 fP dQ tg ex body alt)=List.flatten [[kw [115,121,110,99]],(sg [40]::(aC ex++[sg [41]])),bl (be body)]:=by simp [cS,oQ,bj,bF]
   rw[hT] at hb;exact pg hT (ai0 fP dQ tN eN a l cp b l2 cp2 m' _ (hX aA.2) _ (hB aA.1) hb)
  ·have aA:(decide (body.length<=32)&&b9 false body&&(decide (alt.length<=32)&&b9 false alt))=true:=aW;have hT:cS (.mk 10 fP dQ tg ex body alt)=bl (be body):=by simp [cS,oQ]
   rw[hT] at hb;exact pg hT (afW fP dQ tN eN a l cp b l2 cp2 m' _ (hB aA) hb)
  ·have aA:mW ex=true:=aW;have ja:=DZ aA;obtain⟨_,q1,q2,q3,zs,q4,q5⟩:=XH hex;have hT:cS (.mk 11 fP dQ tg ex body alt)=List.flatten [[kw [115,117,112,101,114]],(sg [40]::(bF true (ex.args.map aC)++[sg [41]])),[sg [59]]]:=by simp [cS,oQ,bj]
   rw[hT] at hb;have fF:=HF ex;exact pg hT (afV fP dQ tN eN a l cp b l2 cp2 m' _ (fun m3 h3=>HI ex.args eN.a eN.l eN.cp zs m3 q1.symm q3 (ax h3 q4) (uh h3 q5) (fun e he=>EA _ e m3 (au _) (xa ja e he) (by have:=HY he;omega)) (by simp only[List.flatten_cons,aI,aL] at hb;omega)) hb)
theorem elI:iP Tryz.prog 155=some 3:=by kernel_rfl
theorem afb:fB Tryz.prog 3=some [.v (.int .i64 0)]:=by kernel_rfl
theorem szI:bX Tryz.prog 3=1:=by kernel_rfl
attribute [go_sem] elI afb szI
def wk (fl:Int) (k:Nat):List Tk:=((bH.take k).filter fun p=>hasB fl p.1).map fun p=>kw p.2
def KW:List Value:=[.int .i64 1,.int .i64 2,.int .i64 4,.int .i64 8,.int .i64 16,.int .i64 32,.int .i64 1024]
def Kr:List Value:=bH.map fun p=> .string (bs p.2)
theorem yV (fl:Int) (m:Mem):bS 95 [.v (.int .i64 fl)] m (cP fl):=by
 refine ew ?_;refine aR cG Tryz.func95 ?_
 ·simp only[go_sem];refine du cG (fun x:Nat×Nat=>⟨[⟨0,[],.v (.int .i64 fl)⟩,⟨3,[],.vec 0 0⟩,⟨4,[],.vec 1 0⟩,⟨5,[],.vec 2 x.2⟩,⟨6,[],.v (.int .i64 x.1)⟩],[],[],[⟨2,x.2,50,4,(wk fl x.1).length,cv (wk fl x.1)⟩,⟨1,0,9,1,7,Kr⟩,⟨0,0,3,1,7,KW⟩],3,m⟩)
   (fun x=>x.1<=7) (fun x=>7 - x.1) (0,0) (fun _ _=>dv rfl) (fun _ _=> .inl rfl) ?_ ?_ ?_
  ·simp only[go_sem];exact⟨rfl,⟨rfl,rfl⟩,rfl,rfl⟩
  ·exact aG _
  ·rintro⟨k,v⟩ h2;simp only at h2;have hc:∀(hk:k<7),KW.getD k undef= .int .i64 (bH[k]'hk).1/\Kr.getD k undef= .string (bs (bH[k]'hk).2):=fun hk=>by
    rcases(by omega:k=0\/k=1\/k=2\/k=3\/k=4\/k=5\/k=6) with rfl |rfl |rfl |rfl |rfl |rfl |rfl<;>exact⟨rfl,rfl⟩
   have hm:=fun(hk:k<7)=>Z7 fl hk
   have hl:=Rj fl k;simp only[go_sem];refine⟨fun ay=>⟨⟨by omega,ay⟩,by have:KW.length=7:=rfl;omega,?_⟩,fun cg=> ?_⟩
   ·have hk:k<7:=by omega
    have GO:=hc hk;have sw:=hm hk;clear hc hm;have Dr:=GO.1;have ku:=GO.2;simp only[go_sem,Dr,ku];have hz:hasB fl (bH[k]'hk).1= !decide (bits .and .i64 fl (bH[k]'hk).1=0):=rfl;refine⟨fun h1=>⟨⟨by omega,ay⟩,by have:Kr.length=7:=rfl;omega,⟨by simp only[wk];omega,by simp only[wk,maxLen];omega⟩,by unfold aF;omega,(k+1,v+1),⟨⟨rfl,by simp⟩,rfl,?_,?_⟩,by simp only;omega,by simp only;omega⟩,fun h1=>⟨by unfold aF;omega,(k+1,v),⟨⟨rfl,by simp⟩,rfl,?_,?_⟩,by simp only;omega,by simp only;omega⟩⟩
    ·rw[di h1,Bool.not_false] at hz;simp only[wk];rw[sw,ah hz,aI];rfl
    ·rw[di h1,Bool.not_false] at hz;simp only[wk];rw[sw,ah hz,mO];rfl
    ·rw[eF h1,Bool.not_true] at hz;simp only[wk];rw[sw,af (Bool.eq_false_iff.1 hz),List.append_nil]
    ·rw[eF h1,Bool.not_true] at hz;simp only[wk];rw[sw,af (Bool.eq_false_iff.1 hz),List.append_nil]
   ·have:k=7:=by omega
    subst this;exact⟨2,v,rfl,rfl⟩
theorem Wj (w:List UInt8) (l:List (List UInt8)) (a:Option Addr) (n c:Nat) (m:Mem) (hl:n=l.length) (hr:aZ m a n 1 (strs l)) (hn:n<=av):bS 99 [.v (.string (bs w)),.v (.slice a n c)] m (gD w l):=by
 refine ew ?_;refine aR cG Tryz.func99 ?_
 ·simp only[go_sem];refine du cG (fun x:Nat×Nat=>⟨[⟨0,[],.v (.string (bs w))⟩,⟨1,[],.v (.slice a n c)⟩,⟨5,[],.vec 0 x.2⟩,⟨6,[],.v (.int .i64 x.1)⟩],[],[],[⟨0,x.2,50,4,(gD w (l.take x.1)).length,cv (gD w (l.take x.1))⟩],1,m⟩)
   (fun x=>x.1<=n) (fun x=>n - x.1) (0,0) (fun _ _=>au _) (fun _ _=> .inl rfl) ?_ ?_ ?_
  ·simp only[go_sem];exact⟨rfl,rfl,rfl⟩
  ·exact aG _
  ·rintro⟨k,v⟩ h2;simp only at h2;have hx:∀(hk:k<l.length),Rd m (cM a k) [.string (bs l[k])]/\a≠none:=fun hk=>zw hr hk
   have tU:=fun(hk:k<l.length)=>aam w hk
   have Dp:=BF w (l.take k);rw[List.length_take] at Dp;simp only[go_sem];refine⟨fun ay=> ?_,fun cg=> ?_⟩
   ·have hk:k<l.length:=by omega
    have hT:=tU hk;have bP:=hx hk;clear tU hx;simp only[av] at hn;refine⟨fun h0=>⟨⟨by omega,by simp only[maxLen];omega⟩,⟨by omega,ay,bP.2⟩,_,bP.1,?_⟩,fun h0=>⟨⟨by omega,by simp only[maxLen];omega⟩,⟨by omega,ay,bP.2⟩,_,bP.1,?_⟩⟩
    ·simp only[go_sem];have kZ:k=0:=by omega
     rw[ah kZ,List.append_assoc] at hT;refine⟨⟨by omega,by simp only[maxLen];omega⟩,by unfold aF;omega,(k+1,v+1+1),⟨⟨rfl,by simp⟩,rfl,?_,?_⟩,by simp only;omega,by simp only;omega⟩
     ·simp only;rw[hT,aI];rfl
     ·simp only;rw[hT,mO,List.append_assoc];rfl
    ·simp only[go_sem];have kZ:¬k=0:=by omega
     rw[af kZ,List.append_assoc] at hT;refine⟨⟨by omega,by simp only[maxLen];omega⟩,by unfold aF;omega,(k+1,v+1+1),⟨⟨rfl,by simp⟩,rfl,?_,?_⟩,by simp only;omega,by simp only;omega⟩
     ·simp only;rw[hT,aI];rfl
     ·simp only;rw[hT,mO,List.append_assoc];rfl
   ·rw[fi (by omega)];exact⟨0,v,rfl,rfl⟩
theorem sI (T:List Tk) (ls:List (List Tk)) (hT:ls.flatten=T) (a:Option Addr) (n c:Nat) (xs:List Value) (m:Mem) (hl:ls.length=n) (hr:aZ m a n 1 xs) (hs:xz m ls xs) (hn:n<=av) (hb:T.length<=cap):bS 94 [.v (.slice a n c)] m T:=by
 subst hT;exact fW ls a n c xs m hl hr hs hn hb
set_option maxHeartbeats 8000000 in
theorem W1 (d:Md) (cs:List Value) (m:Mem) (h:gS m d cs) (CU:d.res.dim<=1000) (UR:∀p∈d.params,p.ty.dim<=1000)
  (hB:d.hb=true->∀a n c xs m',ae m m' ->n=d.body.length->aZ m' a n 23 xs->bZ m' d.body xs->bS 102 [.v (.slice a n c)] m' (bl (be d.body)))
  (hb:(eO d).length<=100000000):bS 103 [.v (.agg ⟨cs⟩)] m (eO d):=by
 obtain⟨fl,res,name,params,sE,body⟩:=d;obtain⟨x,⟨rfl,rfl,rfl,rfl,rfl⟩,⟨j2,wO,hl,bg⟩,ar,r1,xs,r2,s2⟩:=h;simp only at j2 hl CU UR hB r1 s2;have bp:x.pl<=av:=by rw[j2];exact ar.pl
 have jz:=fun(hq:x.hb=true) m' (hle:ae m m')=>hB hq x.a x.l x.cp xs m' hle hl (ax hle r2) (dp hle s2)
 clear hB s2;have hpz:(bF true (params.map cR)).length<=100000000:=by
  simp only[eO,bj,aI,aL] at hb;omega
 have GK:∀(k:Nat),(List.flatten [cP x.fl,b5 x.res.dim x.res.base x.res.name,[aM x.name],sg [40]::(bF true ((params.map cR).take k)++[sg [41]])]).length<=cap:=fun k=>by
  have z1:=xj x.fl;have z2:(b5 x.res.dim x.res.base x.res.name).length<=2001:=by simp only[b5,aL,rf];omega
  have z3:=Bj (params.map cR) true k;simp only[List.flatten_cons,List.flatten_nil,aI,aL,bh,cap];omega
 have GJ:∀(k:Nat),(List.flatten [cP x.fl,[kw [110,101,119]],sg [40]::(bF true ((params.map cR).take k)++[sg [41]])]).length<=cap:=fun k=>by
  have z1:=xj x.fl;have z3:=Bj (params.map cR) true k;simp only[List.flatten_cons,List.flatten_nil,aI,aL,bh,cap];omega
 refine ew ?_;refine enter jA cG Tryz.func103 rfl rfl (by kernel_rfl) rfl ?_ ?_
 ·simp only[go_sem,Mc.cs]
 ·simp only[go_sem,Mc.cs];refine ei cG (fun y:Nat×Nat×Mem=>⟨[⟨1,[],.box 0 0⟩,⟨3,[],.vec 1 y.2.1⟩,⟨4,[],.v (.int .i64 y.1)⟩],[],[⟨0,98,x.cs.map .v⟩],[⟨1,y.2.1,50,4,(bF true ((params.map cR).take y.1)).length,cv (bF true ((params.map cR).take y.1))⟩],2,y.2.2⟩)
   (fun y=>ae m y.2.2/\y.1<=x.pl) (fun y=>x.pl - y.1) (0,0,m) (by kernel_rfl) (fun _ _=>au _) (fun y hy=> ?_) (fun _=> ?_) ?_ ?_ ?_
  ·exact hy.1
  ·simp only[go_sem,Mc.cs]
  ·simp only[go_sem,Mc.cs];exact⟨rfl,rfl,rfl⟩
  ·exact⟨.inl rfl,aG _⟩
  ·rintro⟨k,v,mm⟩ ⟨h1,h2⟩;simp only at h1 h2;have hx:∀(hk:k<params.length),(Rd mm (cM x.pa (k * 4)) (params[k]).cs/\x.pa≠none)/\params[k].ty.dim<=1000:=fun hk=>by
    have q1:=dA (ax h1 r1) (by omega:k<x.pl);rw[pd (f:=Pc.cs) (sz:=4) (fun _=>rfl) hk] at q1;exact⟨q1,UR _ (List.getElem_mem hk)⟩
   have lV:=fun(hk:k<params.length)=>HQ (l:=params.map cR) (f:=true) (k:=k) (by simpa using hk)
   have cH:=Bj (params.map cR) true;simp only[go_sem,Mc.cs];refine⟨fun ay=> ?_,fun cg=> ?_⟩
   ·clear jz;have hk:k<params.length:=by omega
    have bP:=hx hk;have hT:=lV hk;have hL:=cH (k+1);clear hx lV cH;simp only[List.getElem_map] at hT;rw[hT] at hL;simp only[aI] at hL;refine⟨fun h0=>⟨⟨by omega,by simp only[maxLen];omega⟩,?_⟩,fun h0=> ?_⟩
    ·refine bO (.hoist 0 (.hoist 1 (.hoist 2 (.hoist 3 (.hoist 4 (.hoist 5 (.hoist 6 (.hoist 9 (.hoist 10 (.hoist 11 (.hoist 12 (.hoist 13 (.hoist 14 (.alt 7 [14,13,12,11,10,9,0] (.alt 8 [14,13,12,11,10,9] (.alt 15 [] (.alt 16 [] (.alt 17 [] (.hoist 18 .done) .stop) .stop) .stop) .stop) .stop)))))))))))))) cG (by kernel_rfl) (by kernel_rfl) ?_;simp only[go_sem,Mc.cs,Pc.cs];refine⟨⟨by omega,ay,bP.1.2⟩,iT bP.1.1,[.int .i64 params[k].ty.dim,.int .u8 params[k].ty.base,.string (bs params[k].ty.name)],⟨gK bP.1.1 0 3 (dv rfl),rfl⟩,⟨by omega,ay,bP.1.2⟩,iT bP.1.1,.string (bs params[k].name),gK bP.1.1 3 1 (dv rfl),by kernel_rfl,bo ((sK params[k].ty.dim params[k].ty.base params[k].ty.name mm bP.2).mono ?_)⟩;clear bP;rintro r H' m2 aH ⟨l2,rfl,rfl⟩;simp only[go_sem,Mc.cs,Pc.cs,l2,and_self];rw[ah (.inl (by omega):(0<k\/true=false))] at hT hL;simp only[aL,cR,aI,bh] at hL;refine⟨⟨by omega,by simp only[maxLen];omega⟩,⟨by omega,by simp only[maxLen];omega⟩,by unfold aF;simp only[av] at bp;omega,(k+1,v+1+1+1,m2),⟨⟨rfl,by simp⟩,⟨rfl,?_,?_⟩,.inl rfl⟩,⟨aa h1 l2,by simp only;omega⟩,by simp only;omega⟩
     ·simp only;rw[hT];simp only[aI,aL,cR,bh];omega
     ·simp only;rw[hT];simp [cv,cR,sg,aM]
    ·refine bO (.hoist 0 (.hoist 1 (.hoist 2 (.hoist 3 (.hoist 4 (.hoist 5 (.hoist 6 (.hoist 9 (.hoist 10 (.hoist 11 (.hoist 12 (.hoist 13 (.hoist 14 (.alt 7 [14,13,12,11,10,9,0] (.alt 8 [14,13,12,11,10,9] (.alt 15 [] (.alt 16 [] (.alt 17 [] (.hoist 18 .done) .stop) .stop) .stop) .stop) .stop)))))))))))))) cG (by kernel_rfl) (by kernel_rfl) ?_;simp only[go_sem,Mc.cs,Pc.cs];refine⟨⟨by omega,ay,bP.1.2⟩,iT bP.1.1,[.int .i64 params[k].ty.dim,.int .u8 params[k].ty.base,.string (bs params[k].ty.name)],⟨gK bP.1.1 0 3 (dv rfl),rfl⟩,⟨by omega,ay,bP.1.2⟩,iT bP.1.1,.string (bs params[k].name),gK bP.1.1 3 1 (dv rfl),by kernel_rfl,bo ((sK params[k].ty.dim params[k].ty.base params[k].ty.name mm bP.2).mono ?_)⟩;clear bP;rintro r H' m2 aH ⟨l2,rfl,rfl⟩;simp only[go_sem,Mc.cs,Pc.cs,l2,and_self];have e1:¬(0<k\/true=false):=fun h=>by
      rcases h with h |h
      ·omega
      ·cases h
     rw[af e1] at hT hL;simp only[aL,cR,aI,bh] at hL;refine⟨⟨by omega,by simp only[maxLen];omega⟩,⟨by omega,by simp only[maxLen];omega⟩,by unfold aF;simp only[av] at bp;omega,(k+1,v+1+1,m2),⟨⟨rfl,by simp⟩,⟨rfl,?_,?_⟩,.inl rfl⟩,⟨aa h1 l2,by simp only;omega⟩,by simp only;omega⟩
     ·simp only;rw[hT];simp only[aI,aL,cR,bh];omega
     ·simp only;rw[hT];simp [cv,cR,sg,aM]
   ·clear hx lV cH;have e0:(params.map cR).take k=params.map cR:=fi (by simp;clear jz;omega);have ez:(bF true ((params.map cR).take k)).length+2<=cap:=by rw[e0];simp only[cap];omega
    refine bO (.hoist 0 (.hoist 1 (.hoist 3 (.hoist 4 (.hoist 6 (.hoist 7 (.hoist 11 (.alt 2 [11,7,6,4,3] (.alt 5 [11,7,6] (.alt 8 [11] (.alt 9 [11] (.alt 10 [11] (.alt 12 [] (.alt 13 [] (.alt 14 [] (.hoist 15 .done) .stop) .stop) .stop) .stop) .stop) .stop) .stop) .stop)))))))) cG (by kernel_rfl) (by kernel_rfl) ?_;simp only[go_sem,Mc.cs];refine ab ((yV x.fl mm).mono ?_);rintro r H' m2 aH ⟨l2,rfl,rfl⟩;have q2:ae mm m2:=l2;have L2:=aa h1 q2;simp only[go_sem,Mc.cs,q2,and_self];refine ab ((aQ (sK x.res.dim x.res.base x.res.name m2 CU) (fun V=>rfl)).mono ?_);rintro r H' m3 bI ⟨l3,rfl,rfl⟩;have q3:ae m2 m3:=l3;have L3:=aa L2 q3;have K3:=aa q2 q3;simp only[go_sem,Mc.cs,K3,and_self];refine ab ((cV _ _ m3).mono ?_);rintro r H' m4 cT ⟨rfl,rfl,_⟩;have q4:ae m3 m4:= .inr cT;have L4:=aa L3 q4;have K4:=aa K3 q4;simp only[go_sem,Mc.cs,K4,and_self];refine⟨by kernel_rfl,fun a5 c5 w5 se U5 r5=>bo ((mP _ a5 c5 w5 r5 ez).mono ?_)⟩;rintro r H' m5 cO ⟨l5,rfl,rfl⟩;have q5:ae m4 m5:=aa (.inr se) l5;have L5:=aa L4 q5;have K5:=aa K4 q5;simp only[go_sem,Mc.cs,K5,and_self];intro ajq akv aok agp agD aiC;intro ajp aku aoj Tx agC aiB;intro ajo akt aoi J6 agB aiA;intro ajn aks aoh FM agA aiz;refine⟨by kernel_rfl,fun a6 c6 w6 qF U4 r6=>bo ((fW [cP x.fl,b5 x.res.dim x.res.base x.res.name,[aM x.name],(sg [40]::(bF true ((params.map cR).take k)++[sg [41]]))] a6 4 c6 _ w6 rfl r6 ⟨⟨ajq,akv,rfl,agD,ax (aa (.inr Tx) (aa (.inr J6) (aa (.inr FM) (.inr qF)))) aiC⟩,⟨⟨ajp,aku,rfl,agC,ax (aa (.inr J6) (aa (.inr FM) (.inr qF))) aiB⟩,⟨⟨ajo,akt,rfl,agB,ax (aa (.inr FM) (.inr qF)) aiA⟩,⟨⟨ajn,aks,rfl,agA,ax (.inr qF) aiz⟩,trivial⟩⟩⟩⟩ (by decide) (GK k)).mono ?_)⟩
    rintro r H' m6 eo ⟨l6,rfl,rfl⟩;have q6:ae m5 m6:=aa (aa (.inr agp) (aa (.inr Tx) (aa (.inr J6) (aa (.inr FM) (.inr qF))))) l6;have L6:=aa L5 q6;have K6:=aa K5 q6;simp only[go_sem,Mc.cs,K6,and_self];refine⟨fun hn=> ?_,fun hn=> ?_⟩
    ·have tQ:x.name=eI:=hn;refine ab ((yV x.fl m6).mono ?_);rintro r H' m7 ft ⟨l7,rfl,rfl⟩;have q7:ae m6 m7:=l7;have L7:=aa L6 q7;simp only[go_sem,Mc.cs,q7,and_self];refine ab ((cV _ _ m7).mono ?_);rintro r H' m8 ix ⟨rfl,rfl,_⟩;have q8:ae m7 m8:= .inr ix;have L8:=aa L7 q8;have K8:=aa q7 q8;simp only[go_sem,Mc.cs,K8,and_self];refine⟨by kernel_rfl,fun a9 c9 w9 yr hc9 r9=>bo ((mP _ a9 c9 w9 r9 ez).mono ?_)⟩;rintro r H' m9 kJ ⟨l9,rfl,rfl⟩;have q9:ae m8 m9:=aa (.inr yr) l9;have L9:=aa L8 q9;have K9:=aa K8 q9;simp only[go_sem,Mc.cs,K9,and_self];intro Cn CF Tb B5 B7 Ch;intro Cm CE Ta vL B6 Cg;intro JZ Kq afk xF JN JT;refine⟨by kernel_rfl,fun DM vu C0 oL lP C2=>bo ((fW [cP x.fl,[kw [110,101,119]],(sg [40]::(bF true ((params.map cR).take k)++[sg [41]]))] DM 3 vu _ C0 rfl C2 ⟨⟨Cn,CF,rfl,B7,ax (aa (.inr vL) (aa (.inr xF) (.inr oL))) Ch⟩,⟨⟨Cm,CE,rfl,B6,ax (aa (.inr xF) (.inr oL)) Cg⟩,⟨⟨JZ,Kq,rfl,JN,ax (.inr oL) JT⟩,trivial⟩⟩⟩ (by decide) (GJ k)).mono ?_)⟩;rintro r H' m10 rH ⟨l10,rfl,rfl⟩;have fk:ae m9 m10:=aa (aa (.inr B5) (aa (.inr vL) (aa (.inr xF) (.inr oL)))) l10;have AT:=aa L9 fk;have AU:=aa K9 fk;simp only[go_sem,Mc.cs,AU,and_self];refine⟨fun oa=> ?_,fun oa=> ?_⟩
     ·have hE:eO ⟨x.fl,x.res,x.name,params,x.hb,body⟩=List.flatten [List.flatten [cP x.fl,[kw [110,101,119]],(sg [40]::(bF true ((params.map cR).take k)++[sg [41]]))],bl (be body)]:=by
       simp only[eO,bj,ah tQ,oa,if_true,e0];simp
      have hz:(List.flatten [List.flatten [cP x.fl,[kw [110,101,119]],(sg [40]::(bF true ((params.map cR).take k)++[sg [41]]))],bl (be body)]).length<=cap:=by rw[<- hE];simp only[cap];omega
      refine ab ((jz oa m10 AT).mono ?_);rintro r H' m11 Au ⟨vi,rfl,rfl⟩;have kG:ae m10 m11:=vi;have wZ:=aa AT kG;simp only[go_sem,Mc.cs,kG,and_self];clear jz;intro JY Kp afj JK JM JS;intro JX Ko afi B4 JL JR;refine⟨by kernel_rfl,fun a12 c12 AB tC mF Lg=>bo ((fW [List.flatten [cP x.fl,[kw [110,101,119]],(sg [40]::(bF true ((params.map cR).take k)++[sg [41]]))],bl (be body)] a12 2 c12 _ AB rfl Lg ⟨⟨JY,Kp,rfl,JM,ax (aa (.inr B4) (.inr tC)) JS⟩,⟨⟨JX,Ko,rfl,JL,ax (.inr tC) JR⟩,trivial⟩⟩ (by decide) hz).mono ?_)⟩;rintro r H' m12 KH ⟨yo,rfl,rfl⟩;have oR:ae m11 m12:=aa (aa (.inr JK) (aa (.inr B4) (.inr tC))) yo;have AS:=aa wZ oR;have ua:=aa kG oR;simp only[go_sem,Mc.cs,ua,and_self];exact⟨AS,_,_,rfl,by rw[hE]⟩
     ·clear jz;have hE:eO ⟨x.fl,x.res,x.name,params,x.hb,body⟩=List.flatten [cP x.fl,[kw [110,101,119]],(sg [40]::(bF true ((params.map cR).take k)++[sg [41]]))]++[sg [59]]:=by
       simp only[eO,bj,ah tQ,oa,e0];simp
      have hj0:=GJ k;have LH:(List.flatten [cP x.fl,[kw [110,101,119]],(sg [40]::(bF true ((params.map cR).take k)++[sg [41]]))]++[sg [59]]).length<=100000000:=by rw[<- hE];exact hb
      rw[aI] at LH;have hj4:[sg [59]].length=1:=rfl;rw[hE,aI,mO];exact⟨⟨by omega,by simp only[maxLen];omega⟩,AT,_,_,rfl,rfl⟩
    ·have tQ:¬x.name=eI:=hn;refine⟨fun oa=> ?_,fun oa=> ?_⟩
     ·have hE:eO ⟨x.fl,x.res,x.name,params,x.hb,body⟩=List.flatten [List.flatten [cP x.fl,b5 x.res.dim x.res.base x.res.name,[aM x.name],(sg [40]::(bF true ((params.map cR).take k)++[sg [41]]))],bl (be body)]:=by
       simp only[eO,bj,af tQ,oa,if_true,e0];simp
      have hz:(List.flatten [List.flatten [cP x.fl,b5 x.res.dim x.res.base x.res.name,[aM x.name],(sg [40]::(bF true ((params.map cR).take k)++[sg [41]]))],bl (be body)]).length<=cap:=by rw[<- hE];simp only[cap];omega
      refine ab ((jz oa m6 L6).mono ?_);rintro r H' m7 ft ⟨l7,rfl,rfl⟩;have q7:ae m6 m7:=l7;have L7:=aa L6 q7;simp only[go_sem,Mc.cs,q7,and_self];clear jz;intro KA KU ah6 J5 Kb Kw;intro Kz KT ah5 Cu Ka Kv;refine⟨by kernel_rfl,fun a8 c8 w8 qE GN r8=>bo ((fW [List.flatten [cP x.fl,b5 x.res.dim x.res.base x.res.name,[aM x.name],(sg [40]::(bF true ((params.map cR).take k)++[sg [41]]))],bl (be body)] a8 2 c8 _ w8 rfl r8 ⟨⟨KA,KU,rfl,Kb,ax (aa (.inr Cu) (.inr qE)) Kw⟩,⟨⟨Kz,KT,rfl,Ka,ax (.inr qE) Kv⟩,trivial⟩⟩ (by decide) hz).mono ?_)⟩;rintro r H' m8 ix ⟨l8,rfl,rfl⟩;have q8:ae m7 m8:=aa (aa (.inr J5) (aa (.inr Cu) (.inr qE))) l8;have L8:=aa L7 q8;have K8:=aa q7 q8;simp only[go_sem,Mc.cs,K8,and_self];exact⟨L8,_,_,rfl,by rw[hE]⟩
     ·clear jz;have hE:eO ⟨x.fl,x.res,x.name,params,x.hb,body⟩=List.flatten [cP x.fl,b5 x.res.dim x.res.base x.res.name,[aM x.name],(sg [40]::(bF true ((params.map cR).take k)++[sg [41]]))]++[sg [59]]:=by
       simp only[eO,bj,af tQ,oa,e0];simp
      have hj0:=GK k;have LH:(List.flatten [cP x.fl,b5 x.res.dim x.res.base x.res.name,[aM x.name],(sg [40]::(bF true ((params.map cR).take k)++[sg [41]]))]++[sg [59]]).length<=100000000:=by rw[<- hE];exact hb
      rw[aI] at LH;have hj4:[sg [59]].length=1:=rfl;rw[hE,aI,mO];exact⟨⟨by omega,by simp only[maxLen];omega⟩,L6,_,_,rfl,rfl⟩
theorem lt2 (a:Nat):a<a+1+1:=by omega
theorem lt3 (a:Nat):a<a+1+1+1:=by omega
theorem lt4 (a:Nat):a<a+1+1+1+1:=by omega
theorem lt5 (a:Nat):a<a+1+1+1+1+1:=by omega
theorem lt6 (a:Nat):a<a+1+1+1+1+1+1:=by omega
theorem lt7 (a:Nat):a<a+1+1+1+1+1+1+1:=by omega
theorem lt8 (a:Nat):a<a+1+1+1+1+1+1+1+1:=by omega
theorem lt9 (a:Nat):a<a+1+1+1+1+1+1+1+1+1:=by omega
theorem ajH (a:Nat):a<a+1+1+1+1+1+1+1+1+1+1:=by omega
theorem ajG (a:Nat):a<a+1+1+1+1+1+1+1+1+1+1+1:=by omega
theorem be1 (a:Nat):(a+1==a)=false:=beq_eq_false_iff_ne.2 (by omega)
theorem eb1 (a:Nat):(a==a+1)=false:=beq_eq_false_iff_ne.2 (by omega)
theorem ne1 (a:Nat):(a+1=a)=False:=eq_false (by omega)
theorem en1 (a:Nat):(a=a+1)=False:=eq_false (by omega)
theorem be2 (a:Nat):(a+1+1==a)=false:=beq_eq_false_iff_ne.2 (by omega)
theorem eb2 (a:Nat):(a==a+1+1)=false:=beq_eq_false_iff_ne.2 (by omega)
theorem ne2 (a:Nat):(a+1+1=a)=False:=eq_false (by omega)
theorem en2 (a:Nat):(a=a+1+1)=False:=eq_false (by omega)
theorem be3 (a:Nat):(a+1+1+1==a)=false:=beq_eq_false_iff_ne.2 (by omega)
theorem eb3 (a:Nat):(a==a+1+1+1)=false:=beq_eq_false_iff_ne.2 (by omega)
theorem ne3 (a:Nat):(a+1+1+1=a)=False:=eq_false (by omega)
theorem en3 (a:Nat):(a=a+1+1+1)=False:=eq_false (by omega)
theorem be4 (a:Nat):(a+1+1+1+1==a)=false:=beq_eq_false_iff_ne.2 (by omega)
theorem eb4 (a:Nat):(a==a+1+1+1+1)=false:=beq_eq_false_iff_ne.2 (by omega)
theorem ne4 (a:Nat):(a+1+1+1+1=a)=False:=eq_false (by omega)
theorem en4 (a:Nat):(a=a+1+1+1+1)=False:=eq_false (by omega)
theorem be5 (a:Nat):(a+1+1+1+1+1==a)=false:=beq_eq_false_iff_ne.2 (by omega)
theorem eb5 (a:Nat):(a==a+1+1+1+1+1)=false:=beq_eq_false_iff_ne.2 (by omega)
theorem ne5 (a:Nat):(a+1+1+1+1+1=a)=False:=eq_false (by omega)
theorem en5 (a:Nat):(a=a+1+1+1+1+1)=False:=eq_false (by omega)
theorem be6 (a:Nat):(a+1+1+1+1+1+1==a)=false:=beq_eq_false_iff_ne.2 (by omega)
theorem eb6 (a:Nat):(a==a+1+1+1+1+1+1)=false:=beq_eq_false_iff_ne.2 (by omega)
theorem ne6 (a:Nat):(a+1+1+1+1+1+1=a)=False:=eq_false (by omega)
theorem en6 (a:Nat):(a=a+1+1+1+1+1+1)=False:=eq_false (by omega)
theorem be7 (a:Nat):(a+1+1+1+1+1+1+1==a)=false:=beq_eq_false_iff_ne.2 (by omega)
theorem eb7 (a:Nat):(a==a+1+1+1+1+1+1+1)=false:=beq_eq_false_iff_ne.2 (by omega)
theorem ne7 (a:Nat):(a+1+1+1+1+1+1+1=a)=False:=eq_false (by omega)
theorem en7 (a:Nat):(a=a+1+1+1+1+1+1+1)=False:=eq_false (by omega)
theorem be8 (a:Nat):(a+1+1+1+1+1+1+1+1==a)=false:=beq_eq_false_iff_ne.2 (by omega)
theorem eb8 (a:Nat):(a==a+1+1+1+1+1+1+1+1)=false:=beq_eq_false_iff_ne.2 (by omega)
theorem ne8 (a:Nat):(a+1+1+1+1+1+1+1+1=a)=False:=eq_false (by omega)
theorem en8 (a:Nat):(a=a+1+1+1+1+1+1+1+1)=False:=eq_false (by omega)
theorem be9 (a:Nat):(a+1+1+1+1+1+1+1+1+1==a)=false:=beq_eq_false_iff_ne.2 (by omega)
theorem eb9 (a:Nat):(a==a+1+1+1+1+1+1+1+1+1)=false:=beq_eq_false_iff_ne.2 (by omega)
theorem ne9 (a:Nat):(a+1+1+1+1+1+1+1+1+1=a)=False:=eq_false (by omega)
theorem en9 (a:Nat):(a=a+1+1+1+1+1+1+1+1+1)=False:=eq_false (by omega)
theorem akM (a:Nat):(a+1+1+1+1+1+1+1+1+1+1==a)=false:=beq_eq_false_iff_ne.2 (by omega)
theorem akf (a:Nat):(a==a+1+1+1+1+1+1+1+1+1+1)=false:=beq_eq_false_iff_ne.2 (by omega)
theorem ajF (a:Nat):(a+1+1+1+1+1+1+1+1+1+1=a)=False:=eq_false (by omega)
theorem akb (a:Nat):(a=a+1+1+1+1+1+1+1+1+1+1)=False:=eq_false (by omega)
theorem akL (a:Nat):(a+1+1+1+1+1+1+1+1+1+1+1==a)=false:=beq_eq_false_iff_ne.2 (by omega)
theorem ake (a:Nat):(a==a+1+1+1+1+1+1+1+1+1+1+1)=false:=beq_eq_false_iff_ne.2 (by omega)
theorem ajE (a:Nat):(a+1+1+1+1+1+1+1+1+1+1+1=a)=False:=eq_false (by omega)
theorem aka (a:Nat):(a=a+1+1+1+1+1+1+1+1+1+1+1)=False:=eq_false (by omega)
theorem bz (n:Nat):(n+1==0)=false:=beq_eq_false_iff_ne.2 (by omega)
theorem zb (n:Nat):(0==n+1)=false:=beq_eq_false_iff_ne.2 (by omega)
theorem ze8 (e:Nat):(0=8+e)=False:=eq_false (by omega)
theorem ez8 (e:Nat):(8+e=0)=False:=eq_false (by omega)
theorem bz8 (e:Nat):(8+e==0)=false:=beq_eq_false_iff_ne.2 (by omega)
theorem zb8 (e:Nat):(0==8+e)=false:=beq_eq_false_iff_ne.2 (by omega)
theorem ahT (e:Nat):(0=16+e)=False:=eq_false (by omega)
theorem aj9 (e:Nat):(16+e=0)=False:=eq_false (by omega)
theorem akA (e:Nat):(16+e==0)=false:=beq_eq_false_iff_ne.2 (by omega)
theorem ahU (e:Nat):(0==16+e)=false:=beq_eq_false_iff_ne.2 (by omega)
attribute [go_sem] Nat.add_zero Nat.zero_lt_succ Nat.lt_add_one bz zb lt2 lt3 lt4 lt5 lt6 lt7 lt8 lt9 ajH ajG be1 eb1 ne1 en1 be2 eb2 ne2 en2 be3 eb3 ne3 en3 be4 eb4 ne4 en4 be5 eb5 ne5 en5 be6 eb6 ne6 en6 be7 eb7 ne7 en7 be8 eb8 ne8 en8 be9 eb9 ne9 en9 akM akf ajF akb akL ake ajE aka bz8 zb8 ze8 ez8 akA ahU ahT aj9
def ru (f:Fc):List Tk:=List.flatten [cP f.fl,b5 f.ty.dim f.ty.base f.ty.name,[aM f.name,sg [59]]]
def tb (d:Cd):List Tk:=
 if hasB d.fl 512=true then List.flatten [cP (bits .and .i64 d.fl 1),[kw [105,110,116,101,114,102,97,99,101],aM d.name],gD [101,120,116,101,110,100,115] d.ifs,[sg [123]]]
 else List.flatten [cP (bits .and .i64 d.fl 1041),[kw [99,108,97,115,115],aM d.name,kw [101,120,116,101,110,100,115],aM d.super],gD [105,109,112,108,101,109,101,110,116,115] d.ifs,[sg [123]]]
set_option maxHeartbeats 8000000 in
theorem W3 (d:Cd) (cs:List Value) (m:Mem) (h:ki m d cs) (CU:∀f∈d.fields,f.ty.dim<=1000)
  (hB:0<d.init.length->∀a n c xs m',ae m m' ->n=d.init.length->aZ m' a n 23 xs->bZ m' d.init xs->bS 102 [.v (.slice a n c)] m' (bl (be d.init)))
  (hM:∀e∈d.methods,∀cs m',ae m m' ->gS m' e cs->bS 103 [.v (.agg ⟨cs⟩)] m' (eO e))
  (LI:tb d=pA d++[sg [123]]) (hb:(jt d).length<=100000000):bS 40 [.v (.agg ⟨cs⟩)] m (jt d):=by
 obtain⟨fl,name,super,ifs,fields,methods,init⟩:=d;obtain⟨x,⟨rfl,rfl,rfl,rfl⟩,⟨dG,hic,fU,hfc,hml,hmc,fF,hsc⟩,ar,r1,r2,xs,ys,r3,s3,r4,s4⟩:=h;simp only at dG fU hml fF r1 r2 r3 s3 r4 s4 CU hB hM;have bi:x.il<=av:=by rw[dG];exact ar.il
 have bf:x.fn<=av:=by rw[fU];exact ar.fn
 have bm:x.ml<=av:=by rw[hml];exact ar.ml
 have jz:=fun(hq:0<init.length) m' (hle:ae m m')=>hB hq x.sa x.sl x.sc ys m' hle fF (ax hle r4) (dp hle s4)
 have y1:∀m',ae m m' ->∀i (hk:i<fields.length),(Rd m' (cM x.fa (i * 5)) (fields[i]).cs/\x.fa≠none)/\(fields[i]).ty.dim<=1000:=fun m' hle i hk=>by
  have:=dA (ax hle r2) (by omega:i<x.fn);rw[pd (f:=Fc.cs) (sz:=5) (fun _=>rfl) hk] at this;exact⟨this,CU _ (List.getElem_mem hk)⟩
 have y2:∀m',ae m m' ->∀i (hk:i<methods.length),∃X:Mc,(Rd m' (cM x.ma (i * 8)) X.cs/\x.ma≠none)/\bS 103 [.v (.agg ⟨X.cs⟩)] m' (eO methods[i]):=fun m' hle i hk=>by
  have aT:=p8 hle (nI s3 hk);have bU:=dA (ax hle r3) (by omega:i<x.ml);obtain⟨X,e1⟩:=Bt aT;rw[e1] at bU aT;exact⟨X,bU,hM _ (List.getElem_mem hk) _ m' hle aT⟩
 have hN:=fun(w:List UInt8) m' (hle:ae m m')=>Wj w ifs x.ia x.il x.ic m' dG (ax hle r1) bi
 clear hB hM s3 s4;have hfe:∀f:Fc,ru f=pr f:=fun f=>by simp [ru,pr]
 have nr:jt ⟨x.fl,x.name,x.super,ifs,fields,methods,init⟩=tb ⟨x.fl,x.name,x.super,ifs,fields,methods,init⟩++(fields.map ru).flatten++(if 0<init.length then[kw [115,116,97,116,105,99]]++bl (be init) else[])++(methods.map eO).flatten++[sg [125]]:=by
  rw[LI,funext hfe];rfl
 have eD:(tb ⟨x.fl,x.name,x.super,ifs,fields,methods,init⟩).length+((fields.map ru).flatten).length+(if 0<init.length then[kw [115,116,97,116,105,99]]++bl (be init) else[]).length+((methods.map eO).flatten).length+1<=100000000:=by
  have h9:=hb;rw[nr,aI,aI,aI,aI] at h9;exact h9
 have hD:¬bits .and .i64 x.fl 512=0->List.flatten [cP (bits .and .i64 x.fl 1),[kw [105,110,116,101,114,102,97,99,101],aM x.name],gD [101,120,116,101,110,100,115] ifs,[sg [123]]]=tb ⟨x.fl,x.name,x.super,ifs,fields,methods,init⟩:=fun h5=>by
  have:hasB x.fl 512=true:=by rw[hasB,di h5];rfl
  rw[tb,ah this]
 refine Exists.elim (⟨_,rfl⟩:∃HC,List.flatten [cP (bits .and .i64 x.fl 1041),[kw [99,108,97,115,115],aM x.name,kw [101,120,116,101,110,100,115],aM x.super],gD [105,109,112,108,101,109,101,110,116,115] ifs,[sg [123]]]=HC) fun HC Dw=> ?_
 have hC:bits .and .i64 x.fl 512=0->HC=tb ⟨x.fl,x.name,x.super,ifs,fields,methods,init⟩:=fun h5=>by
  have:¬hasB x.fl 512=true:=by rw[hasB,eF h5];decide
  rw[tb,af this,<- Dw]
 have tW:=BF [105,109,112,108,101,109,101,110,116,115] ifs;have wX:=BF [101,120,116,101,110,100,115] ifs;have GK:HC.length<=cap:=by
  have z1:=xj (bits .and .i64 x.fl 1041);rw[<- Dw];simp only[List.flatten_cons,List.flatten_nil,aI,aL,bh,cap];simp only[av] at bi;omega
 refine Exists.elim (⟨_,rfl⟩:∃T,T=tb ⟨x.fl,x.name,x.super,ifs,fields,methods,init⟩) fun T hT=>Exists.elim (⟨_,rfl⟩:∃FT:Nat->List Tk,FT=fun k=>((fields.take k).map ru).flatten) fun FT GY=>Exists.elim (⟨_,rfl⟩:∃MT:Nat->List Tk,MT=fun k=>((methods.take k).map eO).flatten) fun MT GS=> ?_
 rw[<- hT] at hC hD eD nr;clear hT;have GJ:T.length<=cap:=by simp only[cap];omega
 have GZ:FT 0=[]:=by rw[GY];rfl
 have wW:MT 0=[]:=by rw[GS];rfl
 have Ve:∀k (hk:k<fields.length),FT (k+1)=FT k++ru fields[k]/\(FT (k+1)).length<=((fields.map ru).flatten).length:=fun k hk=>by
  rw[GY];exact⟨D8 hk,zB (f:=ru) fields (k+1)⟩
 have GV:∀k (hk:k<methods.length),MT (k+1)=MT k++eO methods[k]/\(MT (k+1)).length<=((methods.map eO).flatten).length:=fun k hk=>by
  rw[GS];exact⟨D8 hk,zB (f:=eO) methods (k+1)⟩
 have Vd:∀k,fields.length<=k->FT k=(fields.map ru).flatten:=fun k hk=>by rw[GY];simp only;rw[fi hk]
 have GU:∀k,methods.length<=k->MT k=(methods.map eO).flatten:=fun k hk=>by rw[GS];simp only;rw[fi hk]
 clear GY GS;refine ew ?_;refine enter jA cG Tryz.func40 rfl rfl (by kernel_rfl) rfl ?_ ?_
 ·simp only[go_sem,Cc.cs]
 ·simp only[go_sem,Cc.cs];refine bO (.hoist 0 (.hoist 1 (.hoist 2 (.hoist 5 (.hoist 6 (.hoist 9 (.hoist 10 (.hoist 14 (.hoist 15 (.alt 3 [15,14,10,9,6,5] (.alt 4 [15,14,10,9,6,5] (.alt 7 [15,14,10,9] (.alt 8 [15,14,10,9] (.alt 11 [15,14] (.alt 12 [15,14] (.alt 13 [15,14] (.alt 16 [] (.alt 17 [] (.alt 18 [] (.alt 19 [] (.alt 20 [] (.alt 21 [] (.hoist 22 .done) .stop) .stop) .stop) .stop) .stop) .stop) .stop) .stop) .stop) .stop) .stop) .stop) .stop)))))))))) cG (by kernel_rfl) (by kernel_rfl) ?_;simp only[go_sem,Cc.cs];refine ab ((yV (bits .and .i64 x.fl 1041) m).mono ?_);rintro r H' m1 aN ⟨l1,rfl,rfl⟩;have q1:ae m m1:=l1;have L1:=aa (.inl rfl:ae m m) q1;simp only[go_sem,Cc.cs,q1,and_self];refine ab ((cV _ _ m1).mono ?_);rintro r H' m2 aH ⟨rfl,rfl,_⟩;have q2:ae m1 m2:= .inr aH;have L2:=aa L1 q2;have K2:=aa q1 q2;simp only[go_sem,Cc.cs,K2,and_self];refine ab ((hN _ m2 L2).mono ?_);rintro r H' m3 bI ⟨l3,rfl,rfl⟩;have q3:ae m2 m3:=l3;have L3:=aa L2 q3;have K3:=aa K2 q3;simp only[go_sem,Cc.cs,K3,and_self];refine ab ((cV _ _ m3).mono ?_);rintro r H' m4 cT ⟨rfl,rfl,_⟩;have q4:ae m3 m4:= .inr cT;have L4:=aa L3 q4;have K4:=aa K3 q4;simp only[go_sem,Cc.cs,K4,and_self];intro aju akz aoo agq agH aiG;intro ajt aky aon Tz agG aiF;intro ajs akx aom J7 agF aiE;intro ajr akw aol FN agE aiD;refine⟨by kernel_rfl,fun a5 c5 w5 se U5 r5=>bo ((sI HC [cP (bits .and .i64 x.fl 1041),[kw [99,108,97,115,115],aM x.name,kw [101,120,116,101,110,100,115],aM x.super],gD [105,109,112,108,101,109,101,110,116,115] ifs,[sg [123]]] Dw a5 4 c5 _ w5 rfl r5 ⟨⟨aju,akz,rfl,agH,ax (aa (.inr Tz) (aa (.inr J7) (aa (.inr FN) (.inr se)))) aiG⟩,⟨⟨ajt,aky,rfl,agG,ax (aa (.inr J7) (aa (.inr FN) (.inr se))) aiF⟩,⟨⟨ajs,akx,rfl,agF,ax (aa (.inr FN) (.inr se)) aiE⟩,⟨⟨ajr,akw,rfl,agE,ax (.inr se) aiD⟩,trivial⟩⟩⟩⟩ (by decide) GK).mono ?_)⟩
  rintro r H' m5 cO ⟨l5,rfl,rfl⟩;have q5:ae m4 m5:=aa (aa (.inr agq) (aa (.inr Tz) (aa (.inr J7) (aa (.inr FN) (.inr se))))) l5;have L5:=aa L4 q5;have K5:=aa K4 q5;simp only[go_sem,Cc.cs,K5,and_self];refine⟨fun h5=> ?_,fun h5=> ?_⟩
  ·clear hC Dw;refine bO (.hoist 0 (.hoist 1 (.hoist 2 (.hoist 5 (.hoist 6 (.hoist 10 (.hoist 11 (.alt 3 [11,10,6,5] (.alt 4 [11,10,6,5] (.alt 7 [11,10] (.alt 8 [11,10] (.alt 9 [11,10] (.alt 12 [] (.alt 13 [] (.alt 14 [] (.alt 15 [] (.alt 16 [] (.alt 17 [] (.hoist 18 .done) .stop) .stop) .stop) .stop) .stop) .stop) .stop) .stop) .stop) .stop) .stop)))))))) cG (by kernel_rfl) (by kernel_rfl) ?_;simp only[go_sem,Cc.cs];refine ab ((yV (bits .and .i64 x.fl 1) m5).mono ?_);rintro r H' m6 eo ⟨l6,rfl,rfl⟩;have q6:ae m5 m6:=l6;have L6:=aa L5 q6;simp only[go_sem,Cc.cs,q6,and_self];refine ab ((cV _ _ m6).mono ?_);rintro r H' m7 ft ⟨rfl,rfl,_⟩;have q7:ae m6 m7:= .inr ft;have L7:=aa L6 q7;have K7:=aa q6 q7;simp only[go_sem,Cc.cs,K7,and_self];refine ab ((hN _ m7 L7).mono ?_);rintro r H' m8 ix ⟨l8,rfl,rfl⟩;have q8:ae m7 m8:=l8;have L8:=aa L7 q8;have K8:=aa K7 q8;simp only[go_sem,Cc.cs,K8,and_self];refine ab ((cV _ _ m8).mono ?_);rintro r H' m9 kJ ⟨rfl,rfl,_⟩;have q9:ae m8 m9:= .inr kJ;have L9:=aa L8 q9;have K9:=aa K8 q9;simp only[go_sem,Cc.cs,K9,and_self];intro Cn CF Tb B5 B7 Ch;intro Cm CE Ta vL B6 Cg;intro JZ Kq afk xF JN JT;intro af7 ahs an4 Fp aey afC;refine⟨by kernel_rfl,fun DM vu C0 oL lP C2=>bo ((sI T [cP (bits .and .i64 x.fl 1),[kw [105,110,116,101,114,102,97,99,101],aM x.name],gD [101,120,116,101,110,100,115] ifs,[sg [123]]] (hD h5) DM 4 vu _ C0 rfl C2 ⟨⟨Cn,CF,rfl,B7,ax (aa (.inr vL) (aa (.inr xF) (aa (.inr Fp) (.inr oL)))) Ch⟩,⟨⟨Cm,CE,rfl,B6,ax (aa (.inr xF) (aa (.inr Fp) (.inr oL))) Cg⟩,⟨⟨JZ,Kq,rfl,JN,ax (aa (.inr Fp) (.inr oL)) JT⟩,⟨⟨af7,ahs,rfl,aey,ax (.inr oL) afC⟩,trivial⟩⟩⟩⟩ (by decide) GJ).mono ?_)⟩
   rintro r H' m10 rH ⟨l10,rfl,rfl⟩;have fk:ae m9 m10:=aa (aa (.inr B5) (aa (.inr vL) (aa (.inr xF) (aa (.inr Fp) (.inr oL))))) l10;have AT:=aa L9 fk;have AU:=aa K9 fk;simp only[go_sem,Cc.cs,AU,and_self];refine ei cG (fun y:Nat×Nat×Mem=>⟨[⟨1,[],.box 0 0⟩,⟨3,[],.vec (16+y.2.1) 0⟩,⟨4,[],.v (.int .i64 y.1)⟩],[],[⟨0,59,x.cs.map .v⟩],[⟨16+y.2.1,0,50,4,(T++FT y.1).length,cv (T++FT y.1)⟩],16+y.2.1+1,y.2.2⟩)
    (fun y=>ae m10 y.2.2/\y.1<=x.fn) (fun y=>x.fn - y.1) (0,0,m10) (by kernel_rfl) (fun _ _=> ?_) (fun y hy=> ?_) (fun _=> ?_) ?_ ?_ ?_
   ·show(17:Nat)<=16+_+1;omega
   ·exact hy.1
   ·simp only[go_sem,Cc.cs,and_self,true_and]
   ·simp only[go_sem,Cc.cs,and_self,true_and];exact⟨rfl,by rw[GZ,List.append_nil],by rw[GZ,List.append_nil]⟩
   ·exact⟨.inl rfl,aG _⟩
   ·rintro⟨k,e,mm⟩ ⟨h1,h2⟩;simp only at h1 h2;have L0:=aa AT h1;simp only[go_sem,Cc.cs,and_self,true_and];refine⟨fun ay=> ?_,fun cg=> ?_⟩
    ·have hk:k<fields.length:=by clear y1 y2 jz hN;omega
     have hy:=y1 mm L0 k hk;have hF:=Ve k hk;clear y1 y2 jz hN;refine bO (.hoist 0 (.hoist 1 (.hoist 2 (.hoist 3 (.hoist 4 (.hoist 5 (.hoist 6 (.hoist 8 (.hoist 9 (.hoist 10 (.hoist 11 (.hoist 12 (.hoist 13 (.hoist 15 (.hoist 16 (.hoist 17 (.hoist 18 (.hoist 19 (.hoist 20 (.alt 7 [20,19,18,17,16,15,13,12,11,10,9,8,0] (.alt 14 [20,19,18,17,16,15,0] (.alt 21 [0] (.alt 22 [0] (.alt 23 [0] (.alt 24 [0] (.alt 25 [] (.alt 26 [] (.hoist 27 .done) .stop) .stop) .stop) .stop) .stop) .stop) .stop) .stop)))))))))))))))))))) cG (by kernel_rfl) (by kernel_rfl) ?_;simp only[go_sem,Cc.cs,true_and];refine⟨⟨by omega,ay,hy.1.2⟩,iT hy.1.1,.int .i64 fields[k].fl,gK hy.1.1 0 1 (dv rfl),⟨by omega,ay,hy.1.2⟩,iT hy.1.1,[.int .i64 fields[k].ty.dim,.int .u8 fields[k].ty.base,.string (bs fields[k].ty.name)],⟨gK hy.1.1 1 3 (dv rfl),rfl⟩,⟨by omega,ay,hy.1.2⟩,iT hy.1.1,.string (bs fields[k].name),gK hy.1.1 4 1 (dv rfl),?_⟩;refine ab ((yV fields[k].fl mm).mono ?_);rintro r H' m11 Au ⟨vi,rfl,rfl⟩;have kG:ae mm m11:=vi;have wZ:=aa L0 kG;simp only[go_sem,Cc.cs,true_and,kG,and_self];refine ab ((sK fields[k].ty.dim fields[k].ty.base fields[k].ty.name m11 hy.2).mono ?_);rintro r H' m12 KH ⟨yo,rfl,rfl⟩;have oR:ae m11 m12:=yo;have AS:=aa wZ oR;have ua:=aa kG oR;simp only[go_sem,Cc.cs,true_and,ua,and_self];refine ab ((cV _ _ m12).mono ?_);rintro r H' m13 T3 ⟨rfl,rfl,_⟩;have rV:ae m12 m13:= .inr T3;have Mx:=aa AS rV;have G7:=aa ua rV;simp only[go_sem,Cc.cs,true_and,G7,and_self];have LR:List.flatten [T++FT k,cP fields[k].fl,b5 fields[k].ty.dim fields[k].ty.base fields[k].ty.name,[aM fields[k].name,sg [59]]]=T++FT (k+1):=by rw[hF.1];simp [ru]
     intro af3 aho an0 aem aeu afy;intro af2 ahn anZ SP aet afx;intro af1 ahm anY JI aes afw;intro af0 ahl anX Fo aer afv;refine⟨by kernel_rfl,fun a14 DI w14 CO kW r14=>bo ((sI (T++FT (k+1)) [T++FT k,cP fields[k].fl,b5 fields[k].ty.dim fields[k].ty.base fields[k].ty.name,[aM fields[k].name,sg [59]]] LR a14 4 DI _ w14 rfl r14 ⟨⟨af3,aho,rfl,aeu,ax (aa (.inr SP) (aa (.inr JI) (aa (.inr Fo) (.inr CO)))) afy⟩,⟨⟨af2,ahn,rfl,aet,ax (aa (.inr JI) (aa (.inr Fo) (.inr CO))) afx⟩,⟨⟨af1,ahm,rfl,aes,ax (aa (.inr Fo) (.inr CO)) afw⟩,⟨⟨af0,ahl,rfl,aer,ax (.inr CO) afv⟩,trivial⟩⟩⟩⟩ (by decide) (by rw[aI];simp only[cap];omega)).mono ?_)⟩;rintro r H' m14 ajY ⟨Lo,rfl,rfl⟩;have qC:ae m13 m14:=aa (aa (.inr aem) (aa (.inr SP) (aa (.inr JI) (aa (.inr Fo) (.inr CO))))) Lo;have Vw:=aa Mx qC;have Vy:=aa G7 qC;simp only[go_sem,Cc.cs,true_and,Vy,and_self];exact⟨by unfold aF;simp only[av] at bf;omega,(k+1,e+6,m14),⟨⟨by simp only[Nat.add_assoc],by simp⟩,by simp only;rw[ah (by omega),Nat.add_assoc],.inl rfl⟩,⟨aa h1 Vy,by simp only;omega⟩,by simp only;omega⟩
    ·have Dx:=Vd k (by clear y1 y2 jz hN;omega);clear y1 hN;refine⟨fun lB=> ?_,fun lB=> ?_⟩
     ·have hs:0<init.length:=by clear y2 jz;omega
      refine bO (.hoist 0 (.hoist 4 (.hoist 5 (.alt 1 [5,4,0] (.alt 2 [5,4,0] (.alt 3 [5,4,0] (.alt 6 [0] (.alt 7 [] (.alt 8 [] (.hoist 9 .done) .stop) .stop) .stop) .stop) .stop) .stop)))) cG (by kernel_rfl) (by kernel_rfl) ?_;simp only[go_sem,Cc.cs,true_and];refine ab ((cV _ _ mm).mono ?_);rintro r H' m11 Au ⟨rfl,rfl,_⟩;have kG:ae mm m11:= .inr Au;have wZ:=aa L0 kG;simp only[go_sem,Cc.cs,true_and,kG,and_self];refine ab ((jz hs m11 wZ).mono ?_);rintro r H' m12 KH ⟨yo,rfl,rfl⟩;have oR:ae m11 m12:=yo;have AS:=aa wZ oR;have ua:=aa kG oR;simp only[go_sem,Cc.cs,true_and,ua,and_self];clear jz;rw[<- Dx,ah hs] at eD nr;simp only[aI,aL,bh] at eD;intro af6 ahr an3 aen aex afB;intro af5 ahq an2 SQ aew afA;intro af4 ahp an1 JJ aev afz;refine⟨by kernel_rfl,fun a13 DJ w13 F4 xZ r13=>bo ((sI (T++FT k++([kw [115,116,97,116,105,99]]++bl (be init))) [T++FT k,[kw [115,116,97,116,105,99]],bl (be init)] (by simp) a13 3 DJ _ w13 rfl r13 ⟨⟨af6,ahr,rfl,aex,ax (aa (.inr SQ) (aa (.inr JJ) (.inr F4))) afB⟩,⟨⟨af5,ahq,rfl,aew,ax (aa (.inr JJ) (.inr F4)) afA⟩,⟨⟨af4,ahp,rfl,aev,ax (.inr F4) afz⟩,trivial⟩⟩⟩ (by decide) (by simp only[aI,aL,bh,cap];omega)).mono ?_)⟩;rintro r H' m13 T3 ⟨l13,rfl,rfl⟩;have rV:ae m12 m13:=aa (aa (.inr aen) (aa (.inr SQ) (aa (.inr JJ) (.inr F4)))) l13;have Mx:=aa AS rV;have G7:=aa ua rV;simp only[go_sem,Cc.cs,true_and,G7,and_self];refine ei cG (fun y:Nat×Nat×Mem=>⟨[⟨1,[],.box 0 0⟩,⟨3,[],.vec (16+y.2.1) 0⟩,⟨5,[],.v (.int .i64 y.1)⟩],[],[⟨0,59,x.cs.map .v⟩],[⟨16+y.2.1,0,50,4,((T++FT k++([kw [115,116,97,116,105,99]]++bl (be init)))++MT y.1).length,cv ((T++FT k++([kw [115,116,97,116,105,99]]++bl (be init)))++MT y.1)⟩],16+y.2.1+1,y.2.2⟩)
       (fun y=>ae m13 y.2.2/\y.1<=x.ml/\e+5<=y.2.1) (fun y=>x.ml - y.1) (0,e+5,m13) (by kernel_rfl) (fun y hy=> ?_) (fun y hy=> ?_) (fun _=> ?_) ?_ ?_ ?_
      ·have:=hy.2.2;show 16+(e+5)+1<=16+y.2.1+1;omega
      ·exact hy.1
      ·simp only[go_sem,Cc.cs,and_self,true_and]
      ·simp only[go_sem,Cc.cs,and_self,true_and];exact⟨⟨by simp only[Nat.add_assoc],rfl⟩,by rw[ah (by omega),wW,List.append_nil,Nat.add_assoc]⟩
      ·exact⟨.inl rfl,aG _,au _⟩
      ·rintro⟨i,e2,mi⟩ ⟨g1,g2,g3⟩;simp only at g1 g2 g3;have LM:=aa Mx g1;simp only[go_sem,Cc.cs,and_self,true_and];refine⟨fun uY=> ?_,fun Gc=> ?_⟩
       ·have hi:i<methods.length:=by clear y2;omega
        have yC:=GV i hi;refine Exists.elim (y2 mi LM i hi) fun X hX=>⟨⟨by clear y2 hX;omega,uY,hX.1.2⟩,X.cs,⟨hX.1.1,rfl⟩,?_⟩
        have ha:=hX.2;clear y2 hX;simp only[go_sem,Mc.cs,Cc.cs,true_and];refine ab ((aQ (ha) (fun V=>rfl)).mono ?_);rintro r H' m14 ajY ⟨Lo,rfl,rfl⟩;have qC:ae mi m14:=Lo;have Vw:=aa LM qC;simp only[go_sem,Cc.cs,true_and,qC,and_self];clear ha;have yB:List.flatten [(T++FT k++([kw [115,116,97,116,105,99]]++bl (be init)))++MT i,eO methods[i]]=(T++FT k++([kw [115,116,97,116,105,99]]++bl (be init)))++MT (i+1):=by rw[yC.1];simp
        intro afZ ahk anW ael aeq afu;intro afY ahj anV SO aep aft;refine⟨by kernel_rfl,fun Mw yI w15 KD Uc r15=>bo ((sI ((T++FT k++([kw [115,116,97,116,105,99]]++bl (be init)))++MT (i+1)) [(T++FT k++([kw [115,116,97,116,105,99]]++bl (be init)))++MT i,eO methods[i]] yB Mw 2 yI _ w15 rfl r15 ⟨⟨afZ,ahk,rfl,aeq,ax (aa (.inr SO) (.inr KD)) afu⟩,⟨⟨afY,ahj,rfl,aep,ax (.inr KD) aft⟩,trivial⟩⟩ (by decide) (by simp only[aI,aL,bh,cap];omega)).mono ?_)⟩;rintro r H' m15 aoq ⟨l15,rfl,rfl⟩;have mJ:ae m14 m15:=aa (aa (.inr ael) (aa (.inr SO) (.inr KD))) l15;have L15:=aa Vw mJ;have Vx:=aa qC mJ;simp only[go_sem,Cc.cs,true_and,Vx,and_self];exact⟨by unfold aF;simp only[av] at bm;omega,(i+1,e2+3,m15),⟨⟨by simp only[Nat.add_assoc],by simp⟩,by simp only;rw[ah (by omega),Nat.add_assoc],.inl rfl⟩,⟨aa g1 Vx,by simp only;omega,by simp only;omega⟩,by simp only;omega⟩
       ·rw[<- GU i (by clear y2;omega)] at eD nr;clear y2;have cH:jt ⟨x.fl,x.name,x.super,ifs,fields,methods,init⟩=((T++FT k++([kw [115,116,97,116,105,99]]++bl (be init)))++MT i)++[sg [125]]:=by rw[nr]
        rw[cH,aI (bs:=[sg [125]]),mO _ [sg [125]]];exact⟨⟨by simp only[aI,aL,bh];omega,by simp only[aI,aL,bh,maxLen];omega⟩,LM,_,_,rfl,rfl⟩
     ·have hs:¬0<init.length:=by clear y2 jz;omega
      clear jz;rw[<- Dx,af hs] at eD nr;simp only[aI,bh,List.append_nil] at eD nr;refine ei cG (fun y:Nat×Nat×Mem=>⟨[⟨1,[],.box 0 0⟩,⟨3,[],.vec (16+y.2.1) 0⟩,⟨5,[],.v (.int .i64 y.1)⟩],[],[⟨0,59,x.cs.map .v⟩],[⟨16+y.2.1,0,50,4,((T++FT k)++MT y.1).length,cv ((T++FT k)++MT y.1)⟩],16+y.2.1+1,y.2.2⟩)
       (fun y=>ae mm y.2.2/\y.1<=x.ml/\e<=y.2.1) (fun y=>x.ml - y.1) (0,e,mm) (by kernel_rfl) (fun y hy=> ?_) (fun y hy=> ?_) (fun _=> ?_) ?_ ?_ ?_
      ·have:=hy.2.2;show 16+(e)+1<=16+y.2.1+1;omega
      ·exact hy.1
      ·simp only[go_sem,Cc.cs,and_self,true_and]
      ·simp only[go_sem,Cc.cs,and_self,true_and];exact⟨rfl,by rw[wW,List.append_nil],by rw[wW,List.append_nil]⟩
      ·exact⟨.inl rfl,aG _,au _⟩
      ·rintro⟨i,e2,mi⟩ ⟨g1,g2,g3⟩;simp only at g1 g2 g3;have LM:=aa L0 g1;simp only[go_sem,Cc.cs,and_self,true_and];refine⟨fun uY=> ?_,fun Gc=> ?_⟩
       ·have hi:i<methods.length:=by clear y2;omega
        have yC:=GV i hi;refine Exists.elim (y2 mi LM i hi) fun X hX=>⟨⟨by clear y2 hX;omega,uY,hX.1.2⟩,X.cs,⟨hX.1.1,rfl⟩,?_⟩
        have ha:=hX.2;clear y2 hX;simp only[go_sem,Mc.cs,Cc.cs,true_and];refine ab ((aQ (ha) (fun V=>rfl)).mono ?_);rintro r H' m11 Au ⟨vi,rfl,rfl⟩;have kG:ae mi m11:=vi;have wZ:=aa LM kG;simp only[go_sem,Cc.cs,true_and,kG,and_self];clear ha;have yB:List.flatten [(T++FT k)++MT i,eO methods[i]]=(T++FT k)++MT (i+1):=by rw[yC.1];simp
        intro JY Kp afj JK JM JS;intro JX Ko afi B4 JL JR;refine⟨by kernel_rfl,fun a12 c12 AB tC mF Lg=>bo ((sI ((T++FT k)++MT (i+1)) [(T++FT k)++MT i,eO methods[i]] yB a12 2 c12 _ AB rfl Lg ⟨⟨JY,Kp,rfl,JM,ax (aa (.inr B4) (.inr tC)) JS⟩,⟨⟨JX,Ko,rfl,JL,ax (.inr tC) JR⟩,trivial⟩⟩ (by decide) (by simp only[aI,aL,bh,cap];omega)).mono ?_)⟩;rintro r H' m12 KH ⟨yo,rfl,rfl⟩;have oR:ae m11 m12:=aa (aa (.inr JK) (aa (.inr B4) (.inr tC))) yo;have AS:=aa wZ oR;have ua:=aa kG oR;simp only[go_sem,Cc.cs,true_and,ua,and_self];exact⟨by unfold aF;simp only[av] at bm;omega,(i+1,e2+3,m12),⟨⟨by simp only[Nat.add_assoc],by simp⟩,by simp only;rw[ah (by omega),Nat.add_assoc],.inl rfl⟩,⟨aa g1 ua,by simp only;omega,by simp only;omega⟩,by simp only;omega⟩
       ·rw[<- GU i (by clear y2;omega)] at eD nr;clear y2;have cH:jt ⟨x.fl,x.name,x.super,ifs,fields,methods,init⟩=((T++FT k)++MT i)++[sg [125]]:=by rw[nr]
        rw[cH,aI (bs:=[sg [125]]),mO _ [sg [125]]];exact⟨⟨by simp only[aI,aL,bh];omega,by simp only[aI,aL,bh,maxLen];omega⟩,LM,_,_,rfl,rfl⟩
  ·have hT0:=(hC h5).symm;subst hT0;clear hC Dw hD;refine ei cG (fun y:Nat×Nat×Mem=>⟨[⟨1,[],.box 0 0⟩,⟨3,[],.vec (8+y.2.1) 0⟩,⟨4,[],.v (.int .i64 y.1)⟩],[],[⟨0,59,x.cs.map .v⟩],[⟨8+y.2.1,0,50,4,(T++FT y.1).length,cv (T++FT y.1)⟩],8+y.2.1+1,y.2.2⟩)
    (fun y=>ae m5 y.2.2/\y.1<=x.fn) (fun y=>x.fn - y.1) (0,0,m5) (by kernel_rfl) (fun _ _=> ?_) (fun y hy=> ?_) (fun _=> ?_) ?_ ?_ ?_
   ·show(9:Nat)<=8+_+1;omega
   ·exact hy.1
   ·simp only[go_sem,Cc.cs,and_self,true_and]
   ·simp only[go_sem,Cc.cs,and_self,true_and];exact⟨rfl,by rw[GZ,List.append_nil],by rw[GZ,List.append_nil]⟩
   ·exact⟨.inl rfl,aG _⟩
   ·rintro⟨k,e,mm⟩ ⟨h1,h2⟩;simp only at h1 h2;have L0:=aa L5 h1;simp only[go_sem,Cc.cs,and_self,true_and];refine⟨fun ay=> ?_,fun cg=> ?_⟩
    ·have hk:k<fields.length:=by clear y1 y2 jz hN;omega
     have hy:=y1 mm L0 k hk;have hF:=Ve k hk;clear y1 y2 jz hN;refine bO (.hoist 0 (.hoist 1 (.hoist 2 (.hoist 3 (.hoist 4 (.hoist 5 (.hoist 6 (.hoist 8 (.hoist 9 (.hoist 10 (.hoist 11 (.hoist 12 (.hoist 13 (.hoist 15 (.hoist 16 (.hoist 17 (.hoist 18 (.hoist 19 (.hoist 20 (.alt 7 [20,19,18,17,16,15,13,12,11,10,9,8,0] (.alt 14 [20,19,18,17,16,15,0] (.alt 21 [0] (.alt 22 [0] (.alt 23 [0] (.alt 24 [0] (.alt 25 [] (.alt 26 [] (.hoist 27 .done) .stop) .stop) .stop) .stop) .stop) .stop) .stop) .stop)))))))))))))))))))) cG (by kernel_rfl) (by kernel_rfl) ?_;simp only[go_sem,Cc.cs,true_and];refine⟨⟨by omega,ay,hy.1.2⟩,iT hy.1.1,.int .i64 fields[k].fl,gK hy.1.1 0 1 (dv rfl),⟨by omega,ay,hy.1.2⟩,iT hy.1.1,[.int .i64 fields[k].ty.dim,.int .u8 fields[k].ty.base,.string (bs fields[k].ty.name)],⟨gK hy.1.1 1 3 (dv rfl),rfl⟩,⟨by omega,ay,hy.1.2⟩,iT hy.1.1,.string (bs fields[k].name),gK hy.1.1 4 1 (dv rfl),?_⟩;refine ab ((yV fields[k].fl mm).mono ?_);rintro r H' m6 eo ⟨l6,rfl,rfl⟩;have q6:ae mm m6:=l6;have L6:=aa L0 q6;simp only[go_sem,Cc.cs,true_and,q6,and_self];refine ab ((sK fields[k].ty.dim fields[k].ty.base fields[k].ty.name m6 hy.2).mono ?_);rintro r H' m7 ft ⟨l7,rfl,rfl⟩;have q7:ae m6 m7:=l7;have L7:=aa L6 q7;have K7:=aa q6 q7;simp only[go_sem,Cc.cs,true_and,K7,and_self];refine ab ((cV _ _ m7).mono ?_);rintro r H' m8 ix ⟨rfl,rfl,_⟩;have q8:ae m7 m8:= .inr ix;have L8:=aa L7 q8;have K8:=aa K7 q8;simp only[go_sem,Cc.cs,true_and,K8,and_self];have LR:List.flatten [T++FT k,cP fields[k].fl,b5 fields[k].ty.dim fields[k].ty.base fields[k].ty.name,[aM fields[k].name,sg [59]]]=T++FT (k+1):=by rw[hF.1];simp [ru]
     intro ajj ako aod agn agw aiv;intro aji akn aoc Tv agv aiu;intro ajh akm aob J3 agu ait;intro ajg akl aoa FL agt ais;refine⟨by kernel_rfl,fun a9 c9 w9 yr hc9 r9=>bo ((sI (T++FT (k+1)) [T++FT k,cP fields[k].fl,b5 fields[k].ty.dim fields[k].ty.base fields[k].ty.name,[aM fields[k].name,sg [59]]] LR a9 4 c9 _ w9 rfl r9 ⟨⟨ajj,ako,rfl,agw,ax (aa (.inr Tv) (aa (.inr J3) (aa (.inr FL) (.inr yr)))) aiv⟩,⟨⟨aji,akn,rfl,agv,ax (aa (.inr J3) (aa (.inr FL) (.inr yr))) aiu⟩,⟨⟨ajh,akm,rfl,agu,ax (aa (.inr FL) (.inr yr)) ait⟩,⟨⟨ajg,akl,rfl,agt,ax (.inr yr) ais⟩,trivial⟩⟩⟩⟩ (by decide) (by rw[aI];simp only[cap];omega)).mono ?_)⟩;rintro r H' m9 kJ ⟨l9,rfl,rfl⟩;have q9:ae m8 m9:=aa (aa (.inr agn) (aa (.inr Tv) (aa (.inr J3) (aa (.inr FL) (.inr yr))))) l9;have L9:=aa L8 q9;have K9:=aa K8 q9;simp only[go_sem,Cc.cs,true_and,K9,and_self];exact⟨by unfold aF;simp only[av] at bf;omega,(k+1,e+6,m9),⟨⟨by simp only[Nat.add_assoc],by simp⟩,by simp only;rw[ah (by omega),Nat.add_assoc],.inl rfl⟩,⟨aa h1 K9,by simp only;omega⟩,by simp only;omega⟩
    ·have Dx:=Vd k (by clear y1 y2 jz hN;omega);clear y1 hN;refine⟨fun lB=> ?_,fun lB=> ?_⟩
     ·have hs:0<init.length:=by clear y2 jz;omega
      refine bO (.hoist 0 (.hoist 4 (.hoist 5 (.alt 1 [5,4,0] (.alt 2 [5,4,0] (.alt 3 [5,4,0] (.alt 6 [0] (.alt 7 [] (.alt 8 [] (.hoist 9 .done) .stop) .stop) .stop) .stop) .stop) .stop)))) cG (by kernel_rfl) (by kernel_rfl) ?_;simp only[go_sem,Cc.cs,true_and];refine ab ((cV _ _ mm).mono ?_);rintro r H' m6 eo ⟨rfl,rfl,_⟩;have q6:ae mm m6:= .inr eo;have L6:=aa L0 q6;simp only[go_sem,Cc.cs,true_and,q6,and_self];refine ab ((jz hs m6 L6).mono ?_);rintro r H' m7 ft ⟨l7,rfl,rfl⟩;have q7:ae m6 m7:=l7;have L7:=aa L6 q7;have K7:=aa q6 q7;simp only[go_sem,Cc.cs,true_and,K7,and_self];clear jz;rw[<- Dx,ah hs] at eD nr;simp only[aI,aL,bh] at eD;intro KA KU ah6 J5 Kb Kw;intro Kz KT ah5 Cu Ka Kv;intro ajk akp aoe J4 agx aiw;refine⟨by kernel_rfl,fun a8 c8 w8 qE GN r8=>bo ((sI (T++FT k++([kw [115,116,97,116,105,99]]++bl (be init))) [T++FT k,[kw [115,116,97,116,105,99]],bl (be init)] (by simp) a8 3 c8 _ w8 rfl r8 ⟨⟨KA,KU,rfl,Kb,ax (aa (.inr Cu) (aa (.inr J4) (.inr qE))) Kw⟩,⟨⟨Kz,KT,rfl,Ka,ax (aa (.inr J4) (.inr qE)) Kv⟩,⟨⟨ajk,akp,rfl,agx,ax (.inr qE) aiw⟩,trivial⟩⟩⟩ (by decide) (by simp only[aI,aL,bh,cap];omega)).mono ?_)⟩;rintro r H' m8 ix ⟨l8,rfl,rfl⟩;have q8:ae m7 m8:=aa (aa (.inr J5) (aa (.inr Cu) (aa (.inr J4) (.inr qE)))) l8;have L8:=aa L7 q8;have K8:=aa K7 q8;simp only[go_sem,Cc.cs,true_and,K8,and_self];refine ei cG (fun y:Nat×Nat×Mem=>⟨[⟨1,[],.box 0 0⟩,⟨3,[],.vec (8+y.2.1) 0⟩,⟨5,[],.v (.int .i64 y.1)⟩],[],[⟨0,59,x.cs.map .v⟩],[⟨8+y.2.1,0,50,4,((T++FT k++([kw [115,116,97,116,105,99]]++bl (be init)))++MT y.1).length,cv ((T++FT k++([kw [115,116,97,116,105,99]]++bl (be init)))++MT y.1)⟩],8+y.2.1+1,y.2.2⟩)
       (fun y=>ae m8 y.2.2/\y.1<=x.ml/\e+5<=y.2.1) (fun y=>x.ml - y.1) (0,e+5,m8) (by kernel_rfl) (fun y hy=> ?_) (fun y hy=> ?_) (fun _=> ?_) ?_ ?_ ?_
      ·have:=hy.2.2;show 8+(e+5)+1<=8+y.2.1+1;omega
      ·exact hy.1
      ·simp only[go_sem,Cc.cs,and_self,true_and]
      ·simp only[go_sem,Cc.cs,and_self,true_and];exact⟨⟨by simp only[Nat.add_assoc],rfl⟩,by rw[ah (by omega),wW,List.append_nil,Nat.add_assoc]⟩
      ·exact⟨.inl rfl,aG _,au _⟩
      ·rintro⟨i,e2,mi⟩ ⟨g1,g2,g3⟩;simp only at g1 g2 g3;have LM:=aa L8 g1;simp only[go_sem,Cc.cs,and_self,true_and];refine⟨fun uY=> ?_,fun Gc=> ?_⟩
       ·have hi:i<methods.length:=by clear y2;omega
        have yC:=GV i hi;refine Exists.elim (y2 mi LM i hi) fun X hX=>⟨⟨by clear y2 hX;omega,uY,hX.1.2⟩,X.cs,⟨hX.1.1,rfl⟩,?_⟩
        have ha:=hX.2;clear y2 hX;simp only[go_sem,Mc.cs,Cc.cs,true_and];refine ab ((aQ (ha) (fun V=>rfl)).mono ?_);rintro r H' m9 kJ ⟨l9,rfl,rfl⟩;have q9:ae mi m9:=l9;have L9:=aa LM q9;simp only[go_sem,Cc.cs,true_and,q9,and_self];clear ha;have yB:List.flatten [(T++FT k++([kw [115,116,97,116,105,99]]++bl (be init)))++MT i,eO methods[i]]=(T++FT k++([kw [115,116,97,116,105,99]]++bl (be init)))++MT (i+1):=by rw[yC.1];simp
        intro Cn CF Tb B5 B7 Ch;intro Cm CE Ta vL B6 Cg;refine⟨by kernel_rfl,fun DM vu C0 oL lP C2=>bo ((sI ((T++FT k++([kw [115,116,97,116,105,99]]++bl (be init)))++MT (i+1)) [(T++FT k++([kw [115,116,97,116,105,99]]++bl (be init)))++MT i,eO methods[i]] yB DM 2 vu _ C0 rfl C2 ⟨⟨Cn,CF,rfl,B7,ax (aa (.inr vL) (.inr oL)) Ch⟩,⟨⟨Cm,CE,rfl,B6,ax (.inr oL) Cg⟩,trivial⟩⟩ (by decide) (by simp only[aI,aL,bh,cap];omega)).mono ?_)⟩;rintro r H' m10 rH ⟨l10,rfl,rfl⟩;have fk:ae m9 m10:=aa (aa (.inr B5) (aa (.inr vL) (.inr oL))) l10;have AT:=aa L9 fk;have AU:=aa q9 fk;simp only[go_sem,Cc.cs,true_and,AU,and_self];exact⟨by unfold aF;simp only[av] at bm;omega,(i+1,e2+3,m10),⟨⟨by simp only[Nat.add_assoc],by simp⟩,by simp only;rw[ah (by omega),Nat.add_assoc],.inl rfl⟩,⟨aa g1 AU,by simp only;omega,by simp only;omega⟩,by simp only;omega⟩
       ·rw[<- GU i (by clear y2;omega)] at eD nr;clear y2;have cH:jt ⟨x.fl,x.name,x.super,ifs,fields,methods,init⟩=((T++FT k++([kw [115,116,97,116,105,99]]++bl (be init)))++MT i)++[sg [125]]:=by rw[nr]
        rw[cH,aI (bs:=[sg [125]]),mO _ [sg [125]]];exact⟨⟨by simp only[aI,aL,bh];omega,by simp only[aI,aL,bh,maxLen];omega⟩,LM,_,_,rfl,rfl⟩
     ·have hs:¬0<init.length:=by clear y2 jz;omega
      clear jz;rw[<- Dx,af hs] at eD nr;simp only[aI,bh,List.append_nil] at eD nr;refine ei cG (fun y:Nat×Nat×Mem=>⟨[⟨1,[],.box 0 0⟩,⟨3,[],.vec (8+y.2.1) 0⟩,⟨5,[],.v (.int .i64 y.1)⟩],[],[⟨0,59,x.cs.map .v⟩],[⟨8+y.2.1,0,50,4,((T++FT k)++MT y.1).length,cv ((T++FT k)++MT y.1)⟩],8+y.2.1+1,y.2.2⟩)
       (fun y=>ae mm y.2.2/\y.1<=x.ml/\e<=y.2.1) (fun y=>x.ml - y.1) (0,e,mm) (by kernel_rfl) (fun y hy=> ?_) (fun y hy=> ?_) (fun _=> ?_) ?_ ?_ ?_
      ·have:=hy.2.2;show 8+(e)+1<=8+y.2.1+1;omega
      ·exact hy.1
      ·simp only[go_sem,Cc.cs,and_self,true_and]
      ·simp only[go_sem,Cc.cs,and_self,true_and];exact⟨rfl,by rw[wW,List.append_nil],by rw[wW,List.append_nil]⟩
      ·exact⟨.inl rfl,aG _,au _⟩
      ·rintro⟨i,e2,mi⟩ ⟨g1,g2,g3⟩;simp only at g1 g2 g3;have LM:=aa L0 g1;simp only[go_sem,Cc.cs,and_self,true_and];refine⟨fun uY=> ?_,fun Gc=> ?_⟩
       ·have hi:i<methods.length:=by clear y2;omega
        have yC:=GV i hi;refine Exists.elim (y2 mi LM i hi) fun X hX=>⟨⟨by clear y2 hX;omega,uY,hX.1.2⟩,X.cs,⟨hX.1.1,rfl⟩,?_⟩
        have ha:=hX.2;clear y2 hX;simp only[go_sem,Mc.cs,Cc.cs,true_and];refine ab ((aQ (ha) (fun V=>rfl)).mono ?_);rintro r H' m6 eo ⟨l6,rfl,rfl⟩;have q6:ae mi m6:=l6;have L6:=aa LM q6;simp only[go_sem,Cc.cs,true_and,q6,and_self];clear ha;have yB:List.flatten [(T++FT k)++MT i,eO methods[i]]=(T++FT k)++MT (i+1):=by rw[yC.1];simp
        intro ajm akr aog ago agz aiy;intro ajl akq aof Tw agy aix;refine⟨by kernel_rfl,fun a7 c7 w7 GD hc7 r7=>bo ((sI ((T++FT k)++MT (i+1)) [(T++FT k)++MT i,eO methods[i]] yB a7 2 c7 _ w7 rfl r7 ⟨⟨ajm,akr,rfl,agz,ax (aa (.inr Tw) (.inr GD)) aiy⟩,⟨⟨ajl,akq,rfl,agy,ax (.inr GD) aix⟩,trivial⟩⟩ (by decide) (by simp only[aI,aL,bh,cap];omega)).mono ?_)⟩;rintro r H' m7 ft ⟨l7,rfl,rfl⟩;have q7:ae m6 m7:=aa (aa (.inr ago) (aa (.inr Tw) (.inr GD))) l7;have L7:=aa L6 q7;have K7:=aa q6 q7;simp only[go_sem,Cc.cs,true_and,K7,and_self];exact⟨by unfold aF;simp only[av] at bm;omega,(i+1,e2+3,m7),⟨⟨by simp only[Nat.add_assoc],by simp⟩,by simp only;rw[ah (by omega),Nat.add_assoc],.inl rfl⟩,⟨aa g1 K7,by simp only;omega,by simp only;omega⟩,by simp only;omega⟩
       ·rw[<- GU i (by clear y2;omega)] at eD nr;clear y2;have cH:jt ⟨x.fl,x.name,x.super,ifs,fields,methods,init⟩=((T++FT k)++MT i)++[sg [125]]:=by rw[nr]
        rw[cH,aI (bs:=[sg [125]]),mO _ [sg [125]]];exact⟨⟨by simp only[aI,aL,bh];omega,by simp only[aI,aL,bh,maxLen];omega⟩,LM,_,_,rfl,rfl⟩
theorem agT {fl:Int} (hI:aF fl) (h1:fx fl 1537=true) (h2:hasB fl 512=true) (h3:hasB fl 1024=true):cP (bits .and .i64 fl 1)=cP (bits .andNot .i64 fl 1024):=by
 have m0:cP (bits .and .i64 1536 1)=[]:=by kernel_rfl
 have m1:cP (bits .andNot .i64 1536 1024)=[]:=by kernel_rfl
 have m2:cP (bits .and .i64 1537 1)=[kw [112,117,98,108,105,99]]:=by kernel_rfl
 have m3:cP (bits .andNot .i64 1537 1024)=[kw [112,117,98,108,105,99]]:=by kernel_rfl
 have hr:=vy (al:=1537) hI (by decide) h1;have gm:∀n:Fin 1538,hasB (n.val:Int) 512=true->hasB (n.val:Int) 1024=true->n.val=1536\/n.val=1537:=by decide+kernel
 have e:fl=(fl.toNat:Int):=by omega
 have:=gm ⟨fl.toNat,by omega⟩;simp only at this;rw[<- e] at this;rcases(by have:=this h2 h3;omega:fl=1536\/fl=1537) with rfl |rfl
 ·exact m0.trans m1.symm
 ·exact m2.trans m3.symm
theorem agU {fl:Int} (hI:aF fl) (h1:fx fl 1041=true):bits .and .i64 fl 1041=fl:=by
 have hr:=vy (al:=1041) hI (by decide) h1;have gm:∀n:Fin 1042,fx (n.val:Int) 1041=true->bits .and .i64 (n.val:Int) 1041=(n.val:Int):=by decide+kernel
 have e:fl=(fl.toNat:Int):=by omega
 have:=gm ⟨fl.toNat,by omega⟩;simp only at this;rw[<- e] at this;exact this h1
theorem aar {d:Cd} (hI:aF d.fl) (hv:oF d=true):tb d=pA d++[sg [123]]:=by
 rw[oF] at hv;rw[tb,pA];by_cases h5:hasB d.fl 512=true
 ·rw[ah h5] at hv;rw[ah h5,ah h5];simp only[zO,aD] at hv;rw[agT hI hv.1.1.1.1 h5 hv.1.1.1.2];simp
 ·rw[af h5] at hv;rw[af h5,af h5];simp only[aD] at hv;rw[agU hI hv.1];simp
theorem ZH {d:Cd} {m:Mem} (hv:im d=true) (ar:CdOk d) (hz:eH d<=1048576) {cs:List Value} (h:ki m d cs):bS 40 [.v (.agg ⟨cs⟩)] m (jt d):=by
 have hlen:=Tq hv;have dr:=hv;simp only[im,aD] at hv;obtain⟨hH,⟨⟨⟨_,hF⟩,hM⟩,hI⟩⟩:=hv;have vo:∀f∈d.fields,jQ f=true:=fun f hf=>by
  rw[Bool.not_eq_true',List.any_eq_false] at hF;simpa using hF f hf
 have GW:∀f∈d.methods,gh f=true:=fun f hf=>by
  rw[Bool.not_eq_true',List.any_eq_false] at hM;simpa using hM f hf
 simp only[eH] at hz hlen;refine W3 d cs m h (fun f hf=> ?_) (fun _ a n c xs m' hle hn hr hs=> ?_) (fun e he cs m' hle aT=> ?_) (aar ar.fl hH) (by omega)
 ·have:=vo f hf;simp only[jQ,aD] at this;have:=uj this.1.1.1;omega
 ·simp only[eB,aD] at hI;have hl:=uF false d.init hI.2;exact DR d.init a n c xs m' hn.symm (by rw[hn];exact ar.l) hr hs (fun e he=>Ed _ e m' (au _) (qT hI.2 e he) (by have:=ue he;simp only[av];omega)) (by rw[uE];simp only[cap];omega)
 ·have hv:=GW e he;have AL:=Tp hv;have n8:=zu (f:=nb) e he;simp only[gh,aD] at hv;obtain⟨⟨⟨h1,h2⟩,h3⟩,h4⟩:=hv;have hP:∀p∈e.params,gR p=true:=fun p hp=>by
   rw[Bool.not_eq_true',List.any_eq_false] at h3;simpa using h3 p hp
  simp only[eB,aD] at h4;have hl:=aT;obtain⟨X,_,⟨_,_,_,_⟩,tR,_⟩:=hl;have hlb:=uF _ e.body h4.2;have hse:dD e.body<=nb e:=by simp only[nb];omega
  refine W1 e cs m' aT (by have:=QR h1;omega) (fun p hp=> ?_) (fun _ a n c xs m2 aY hn hr hs=>DR e.body a n c xs m2 hn.symm (by rw[hn];exact tR.l) hr hs (fun s hs=>Ed _ s m2 (au _) (qT h4.2 s hs) (by have:=ue hs;simp only[av];omega)) (by rw[uE];simp only[cap];omega)) (by omega);have:=hP p hp;simp only[gR,aD] at this;have:=uj this.1;omega
theorem VL (l:List Cd) (p:Option Addr) (n c:Nat) (m:Mem) (hz:(l.map eH).sum<=1048576) (h:qk m l p n c):
  FnH Tryz.prog 19 [.v (.slice p n c)] ⟨[],[]⟩ m fun r H' m' =>ae m m' /\H' =⟨[],[]⟩/\r= .tup [.v (.string (bs (oN l).1)),.v (.int .i64 (oN l).2)]:=by
 have DA:=MV l p n c m hz h;have hW:=QA h;have hT:=fun(h0:(eZ [] l).2=0)=>QZ hW hz h0
 obtain⟨hl,bg,hn,xs,r1,s1⟩:=h;have hJ:(eZ [] l).2=0->∀(T:List Tk) (m' :Mem) (a:Option Addr) (c:Nat),T=mh l->aZ m' a T.length 4 (cv T)->FnH Tryz.prog 23 [.v (.slice a T.length c)] ⟨[],[]⟩ m' fun r H' kq=>ae m' kq/\H' =⟨[],[]⟩/\r= .tup [.v (.string (bs (oN l).1)),.v (.int .i64 (oN l).2)]:=fun h0 T m' a c he hr=>by
  have hf:oN l=lM T:=by rw[oN,ah h0,he]
  rw[hf];exact W0 T a _ c m' hr (he▸(hT h0).2) (by have:=(hT h0).1;rw[he];simp only[cap] at this;omega)
 have hX:∀(h0:(eZ [] l).2=0) (mm:Mem) (hle:ae m mm) (k:Nat) (hk:k<l.length),∃X:Cc,(Rd mm (cM p (k * 7)) X.cs/\p≠none)/\bS 40 [.v (.agg ⟨X.cs⟩)] mm (jt l[k]):=fun h0 mm hle k hk=>by
  have aT:=qa hle (nI s1 hk);have bU:=dA (ax hle r1) (by omega:k<n);obtain⟨X,hX⟩:=Qs aT;rw[hX] at aT bU;have eD:=zu (f:=eH) l[k] (List.getElem_mem hk);exact⟨X,bU,ZH (EM h0 _ (List.getElem_mem hk)).1 (hW _ (List.getElem_mem hk)).1 (by omega) aT⟩
 clear s1 hW;refine aR cG Tryz.func19 ?_
 ·simp only[go_sem];refine ab (DA.mono ?_);clear DA;rintro r H' m1 aN ⟨l1,rfl,rfl⟩;simp only[go_sem];refine⟨fun cQ=>⟨l1,?_⟩,fun h0=> ?_⟩
  ·clear hJ hX;rw[oN,af cQ]
  ·have hTl:=(hT h0).1;have Du:=hJ h0;have AM:=hX h0;clear hJ hX hT;refine du cG (fun x:Nat×Nat×Mem=>⟨[⟨0,[],.v (.slice p n c)⟩,⟨6,[],.vec 0 x.2.1⟩,⟨7,[],.v (.int .i64 x.1)⟩],[],[],[⟨0,x.2.1,50,4,(((l.take x.1).map jt).flatten).length,cv (((l.take x.1).map jt).flatten)⟩],1,x.2.2⟩)
    (fun x=>ae m1 x.2.2/\x.1<=n) (fun x=>n - x.1) (0,0,m1) (fun _ _=>au _) (fun x hx=>hx.1) ?_ ?_ ?_
   ·simp only[go_sem];exact⟨rfl,rfl,rfl⟩
   ·exact⟨.inl rfl,aG _⟩
   ·rintro⟨k,v,mm⟩ ⟨g1,g2⟩;simp only at g1 g2;have L0:=aa l1 g1;have tU:=fun(hk:k<l.length)=>And.intro (D8 (f:=jt) hk) (zB (f:=jt) l (k+1))
    simp only[go_sem];refine⟨fun ay=> ?_,fun cg=> ?_⟩
    ·have hk:k<l.length:=by clear AM Du;omega
     clear Du;refine Exists.elim (AM mm L0 k hk) fun X hX=>⟨⟨by clear AM hX;omega,ay,hX.1.2⟩,X.cs,⟨hX.1.1,rfl⟩,?_⟩
     have ha:=hX.2;clear AM hX;have hT:=(tU hk).1;have hL:=(tU hk).2;rw[hT,aI] at hL;simp only[cap,mh] at hTl;simp only[go_sem,Cc.cs];refine ab ((aQ ha (fun V=>rfl)).mono ?_);clear ha;rintro r H' m2 aH ⟨l2,rfl,rfl⟩;simp only[go_sem,Cc.cs];refine⟨⟨by omega,by simp only[maxLen];omega⟩,by unfold aF;simp only[av] at hn;omega,(k+1,v+1,m2),⟨⟨rfl,by simp⟩,⟨rfl,?_,?_⟩,.inl rfl⟩,⟨aa g1 l2,by simp only;omega⟩,by simp only;omega⟩
     ·simp only;rw[hT,aI]
     ·simp only;rw[hT,mO]
    ·have e0:l.take k=l:=fi (by clear AM Du;omega);have U9:=fun m' a c=>Du _ m' a c (show((l.take k).map jt).flatten=mh l by rw[e0];rfl)
     clear AM Du;refine⟨by kernel_rfl,fun a5 c5 w5 se U5 r5=>bo ((U9 w5 a5 c5 r5).mono ?_)⟩;clear U9;rintro r H' m5 cO ⟨l5,rfl,rfl⟩;simp only[go_sem];exact aa L0 (aa (.inr se) l5)
theorem X5 (a b:Md) (ca cb:List Value) (m:Mem) (ha:gS m a ca) (hb:gS m b cb):aJ 60 [.v (.agg ⟨ca⟩),.v (.agg ⟨cb⟩)] m (.bool (qP a b)):=by
 obtain⟨fl,res,name,params,dk,body⟩:=a;obtain⟨fl',res',name',oh,hb0',pF⟩:=b;obtain⟨x,⟨rfl,rfl,rfl,rfl,rfl⟩,⟨j2,wO,hl,bg⟩,ar,r1,xs,r2,s2⟩:=ha;obtain⟨x',⟨rfl,rfl,rfl,rfl,rfl⟩,⟨hpl',hpc',kY,hcp'⟩,hok',r1',xs',r2',s2'⟩:=hb;simp only at j2 hl hpl' kY r1 r1' s2 s2';have bp:x.pl<=av:=by rw[j2];exact ar.pl
 have hB:=N0 _ body pF x.a x.l x.cp x'.a x'.l x'.cp xs xs' m (au _) hl kY (by rw[hl];exact ar.l) (by rw[kY];exact hok'.l) r2 r2' s2 s2';clear s2 s2';have hX:qP ⟨x.fl,x.res,x.name,params,x.hb,body⟩ ⟨x'.fl,x'.res,x'.name,oh,x'.hb,pF⟩=(decide (x.fl=x'.fl)&&Ty.eq x.res x'.res&&decide (x.name=x'.name)&&(x.hb==x'.hb)&&(decide (params.length=oh.length)&&gp params.length (fz Pc.eq params oh))&&gn body pF):=by rw[qP,qW]
 refine enter gP aB Tryz.func60 rfl rfl (by kernel_rfl) rfl ?_ ?_
 ·simp only[go_sem,Mc.cs]
 ·simp only[go_sem,Mc.cs,qn];refine⟨by kernel_rfl,fun h=> ?_,fun h=> ?_⟩
  ·clear hB;rw[hX];simp only[Ty.eq];rcases h with (((h |h |h |h) |h) |h) |h
   ·simp [h]
   ·simp [h]
   ·simp [h]
   ·simp [h]
   ·simp [h]
   ·simp [h]
   ·rw[di (by omega:¬params.length=oh.length)];simp
  ·have pT:params.length=oh.length:=by clear hB;omega
   have qO:qP ⟨x.fl,x.res,x.name,params,x.hb,body⟩ ⟨x'.fl,x'.res,x'.name,oh,x'.hb,pF⟩=(gp params.length (fz Pc.eq params oh)&&gn body pF):=by
    rw[hX];simp only[Ty.eq,h,pT,ao,Bool.true_and]
   clear hX;refine ei aB (fun y:Nat=>⟨[⟨2,[],.box 0 0⟩,⟨3,[],.box 1 0⟩,⟨5,[],.v (.int .i64 y)⟩],[],[⟨0,98,x.cs.map .v⟩,⟨1,98,x'.cs.map .v⟩],[],2,m⟩)
    (fun y=>y<=x.pl/\gp y (fz Pc.eq params oh)=true) (fun y=>x.pl - y) 0 (by kernel_rfl) (fun _ _=>au _) (fun y hy=> .inl rfl) (fun _=> ?_) ?_ ?_ ?_
   ·simp only[go_sem,Mc.cs]
   ·simp only[go_sem,Mc.cs];rfl
   ·exact⟨aG _,rfl⟩
   ·rintro k ⟨h2,h3⟩;have hy:∀(hk:k<params.length) (fm:k<oh.length),(Rd m (cM x.pa (k * 4)) (params[k]).cs/\x.pa≠none)/\(Rd m (cM x'.pa (k * 4)) (oh[k]).cs/\x'.pa≠none)/\fz Pc.eq params oh k=Pc.eq params[k] oh[k]:=fun hk fm=>by
     have q1:=dA r1 (by omega:k<x.pl);have q2:=dA r1' (by omega:k<x'.pl);rw[pd (f:=Pc.cs) (sz:=4) (fun _=>rfl) hk] at q1;rw[pd (f:=Pc.cs) (sz:=4) (fun _=>rfl) fm] at q2;exact⟨q1,q2,zR hk fm⟩
    simp only[go_sem,Mc.cs];refine⟨fun ay=> ?_,fun cg=> ?_⟩
    ·have hk:k<params.length:=by clear hB;omega
     have fm:k<oh.length:=by clear hB;omega
     have br:=hy hk fm;clear hy hB;refine lH aB (by kernel_rfl) (by kernel_rfl) (by kernel_rfl) ?_;simp only[go_sem,Mc.cs];refine⟨⟨by omega,ay,br.1.2⟩,(params[k]).cs,⟨br.1.1,rfl⟩,⟨by omega,by omega,br.2.1.2⟩,(oh[k]).cs,⟨br.2.1.1,rfl⟩,?_⟩;have iy:=br.2.2;clear br;simp only[go_sem,Mc.cs,Pc.cs,ag0];refine⟨fun cQ=> ?_,fun he=>⟨by unfold aF;simp only[av] at bp;omega,k+1,by simp,⟨by omega,?_⟩,by omega⟩⟩
     ·rw[qO,lK hk]
      ·rfl
      ·rw[iy,Pc.eq];rcases cQ with h |h |h |h<;>simp [h]
     ·rw[sM,h3,iy,Pc.eq];simp [he]
    ·clear hy;have iM:k=params.length:=by clear hB;omega
     have yA:=qO;rw[<- iM,h3,Bool.true_and] at yA;refine ab (hB.mono ?_);clear hB;rintro r H' m2 aH ⟨l2,rfl,rfl⟩;simp only[go_sem,Mc.cs];exact⟨l2,yA.symm⟩
theorem PY {α:Type} [DecidableEq α]:∀(l l2:List α),decide (l=l2)=jK (fun a b=>decide (a=b)) l l2
 |[],[]=>rfl
 |[],_::_=>rfl
 |_::_,[]=>rfl
 |a::r,b::t=>by
  rw[jK,<- PY r t];by_cases h:a=b
  ·subst h;by_cases h2:r=t
   ·subst h2;simp
   ·simp [h2]
  ·simp [h]
set_option maxHeartbeats 8000000 in
theorem X6 (a b:Cd) (ca cb:List Value) (m:Mem) (ha:ki m a ca) (hb:ki m b cb):aJ 30 [.v (.agg ⟨ca⟩),.v (.agg ⟨cb⟩)] m (.bool (qQ a b)):=by
 obtain⟨fl,name,super,ifs,fields,methods,init⟩:=a;obtain⟨fl',name',super',nS,oq,uo,init'⟩:=b;obtain⟨x,⟨rfl,rfl,rfl,rfl⟩,⟨dG,hic,fU,hfc,hml,hmc,fF,hsc⟩,ar,r1,r2,xs,ys,r3,s3,r4,s4⟩:=ha;obtain⟨x',⟨rfl,rfl,rfl,rfl⟩,⟨hil',hic',hfn',hfc',hml',hmc',hsl',hsc'⟩,hok',r1',r2',xs',ys',r3',s3',r4',s4'⟩:=hb;simp only at dG fU hml fF r1 r2 s3 s4 hil' hfn' hml' hsl' r1' r2' s3' s4';have bi:x.il<=av:=by rw[dG];exact ar.il
 have bf:x.fn<=av:=by rw[fU];exact ar.fn
 have bm:x.ml<=av:=by rw[hml];exact ar.ml
 have hB:=fun m' (hle:ae m m')=>N0 _ init init' x.sa x.sl x.sc x'.sa x'.sl x'.sc ys ys' m' (au _) fF hsl' (by rw[fF];exact ar.l) (by rw[hsl'];exact hok'.l) (ax hle r4) (ax hle r4') (dp hle s4) (dp hle s4')
 have hM:=fun m' (hle:ae m m')=>E9 (R:=gS) (vr:=Mc.cs) (e:=qP) (f:=60) (fun _ _ _ _ h=>p8 h) (fun _ _ _=>Bt) (fun i hi=>p8 hle (nI s3 hi)) (fun i hi=>p8 hle (nI s3' hi)) (fun a ha b hb ca cb m2 aY=>X5 a b ca cb m2)
 clear s3 s3' s4 s4';have hX:qQ ⟨x.fl,x.name,x.super,ifs,fields,methods,init⟩ ⟨x'.fl,x'.name,x'.super,nS,oq,uo,init'⟩=(decide (x.fl=x'.fl)&&decide (x.name=x'.name)&&decide (x.super=x'.super)&&(decide (ifs.length=nS.length)&&gp ifs.length (fz (fun a b=>decide (a=b)) ifs nS))&&(decide (fields.length=oq.length)&&gp fields.length (fz Fc.eq fields oq))&&(decide (methods.length=uo.length)&&gp methods.length (fz qP methods uo))&&gn init init'):=by
  simp only[qQ];rw[PY ifs nS,qW,qW,qW]
 refine enter gP aB Tryz.func30 rfl rfl (by kernel_rfl) rfl ?_ ?_
 ·simp only[go_sem,Cc.cs]
 ·simp only[go_sem,Cc.cs];refine⟨fun h=> ?_,fun h=> ?_⟩
  ·clear hB hM;rw[hX];rcases h with ((((h |h) |h) |h) |h) |h
   ·simp [h]
   ·simp [h]
   ·simp [h]
   ·rw[di (by omega:¬ifs.length=nS.length)];simp
   ·rw[di (by omega:¬fields.length=oq.length)];simp
   ·rw[di (by omega:¬methods.length=uo.length)];simp
  ·have e1:ifs.length=nS.length:=by clear hB hM;omega
   have e2:fields.length=oq.length:=by clear hB hM;omega
   have e3:methods.length=uo.length:=by clear hB hM;omega
   have qO:qQ ⟨x.fl,x.name,x.super,ifs,fields,methods,init⟩ ⟨x'.fl,x'.name,x'.super,nS,oq,uo,init'⟩=(gp ifs.length (fz (fun a b=>decide (a=b)) ifs nS)&&gp fields.length (fz Fc.eq fields oq)&&gp methods.length (fz qP methods uo)&&gn init init'):=by
    rw[hX];simp only[h,e1,e2,e3,ao,Bool.true_and]
   clear hX;refine ei aB (fun y:Nat=>⟨[⟨2,[],.box 0 0⟩,⟨3,[],.box 1 0⟩,⟨5,[],.v (.int .i64 y)⟩],[],[⟨0,59,x.cs.map .v⟩,⟨1,59,x'.cs.map .v⟩],[],2,m⟩)
    (fun y=>y<=x.il/\gp y (fz (fun a b=>decide (a=b)) ifs nS)=true) (fun y=>x.il - y) 0 (by kernel_rfl) (fun _ _=>au _) (fun y hy=> .inl rfl) (fun _=> ?_) ?_ ?_ ?_
   ·simp only[go_sem,Cc.cs]
   ·simp only[go_sem,Cc.cs];rfl
   ·exact⟨aG _,rfl⟩
   ·rintro k ⟨h2,h3⟩;have hy:∀(hk:k<ifs.length) (fm:k<nS.length),(Rd m (cM x.ia k) [.string (bs ifs[k])]/\x.ia≠none)/\(Rd m (cM x'.ia k) [.string (bs nS[k])]/\x'.ia≠none)/\fz (fun a b=>decide (a=b)) ifs nS k=decide (ifs[k]=nS[k]):=fun hk fm=>⟨zw r1 hk,zw r1' fm,zR hk fm⟩
    simp only[go_sem,Cc.cs];refine⟨fun ay=> ?_,fun cg=> ?_⟩
    ·have hk:k<ifs.length:=by clear hB hM;omega
     have fm:k<nS.length:=by clear hB hM;omega
     have br:=hy hk fm;clear hy hB hM;refine lH aB (by kernel_rfl) (by kernel_rfl) (by kernel_rfl) ?_;simp only[go_sem,Cc.cs];refine⟨⟨by omega,ay,br.1.2⟩,.string (bs ifs[k]),br.1.1,⟨by omega,by omega,br.2.1.2⟩,.string (bs nS[k]),br.2.1.1,?_⟩;have iy:=br.2.2;clear br;simp only[go_sem,Cc.cs];refine⟨fun cQ=> ?_,fun he=>⟨by unfold aF;simp only[av] at bi;omega,k+1,by simp,⟨by omega,?_⟩,by omega⟩⟩
     ·rw[qO,lK hk]
      ·rfl
      ·rw[iy,di cQ]
     ·rw[sM,h3,iy,eF he];rfl
    ·clear hy;have tS:k=ifs.length:=by clear hB hM;omega
     have yA:=qO;rw[<- tS,h3,Bool.true_and] at yA;clear qO;refine ei aB (fun y:Nat=>⟨[⟨2,[],.box 0 0⟩,⟨3,[],.box 1 0⟩,⟨6,[],.v (.int .i64 y)⟩],[],[⟨0,59,x.cs.map .v⟩,⟨1,59,x'.cs.map .v⟩],[],2,m⟩)
      (fun y=>y<=x.fn/\gp y (fz Fc.eq fields oq)=true) (fun y=>x.fn - y) 0 (by kernel_rfl) (fun _ _=>au _) (fun y hy=> .inl rfl) (fun _=> ?_) ?_ ?_ ?_
     ·simp only[go_sem,Cc.cs]
     ·simp only[go_sem,Cc.cs];rfl
     ·exact⟨aG _,rfl⟩
     ·rintro j ⟨q2,q3⟩;have hy:∀(hk:j<fields.length) (fm:j<oq.length),(Rd m (cM x.fa (j * 5)) (fields[j]).cs/\x.fa≠none)/\(Rd m (cM x'.fa (j * 5)) (oq[j]).cs/\x'.fa≠none)/\fz Fc.eq fields oq j=Fc.eq fields[j] oq[j]:=fun hk fm=>by
       have q1:=dA r2 (by omega:j<x.fn);have q2:=dA r2' (by omega:j<x'.fn);rw[pd (f:=Fc.cs) (sz:=5) (fun _=>rfl) hk] at q1;rw[pd (f:=Fc.cs) (sz:=5) (fun _=>rfl) fm] at q2;exact⟨q1,q2,zR hk fm⟩
      simp only[go_sem,Cc.cs];refine⟨fun ay=> ?_,fun Gc=> ?_⟩
      ·have hk:j<fields.length:=by clear hB hM;omega
       have fm:j<oq.length:=by clear hB hM;omega
       have br:=hy hk fm;clear hy hB hM;refine lH aB (by kernel_rfl) (by kernel_rfl) (by kernel_rfl) ?_;simp only[go_sem,Cc.cs];refine⟨⟨by omega,ay,br.1.2⟩,(fields[j]).cs,⟨br.1.1,rfl⟩,⟨by omega,by omega,br.2.1.2⟩,(oq[j]).cs,⟨br.2.1.1,rfl⟩,?_⟩;have iy:=br.2.2;clear br;simp only[go_sem,Cc.cs,Fc.cs,ag1];refine⟨fun cQ=> ?_,fun he=>⟨by unfold aF;simp only[av] at bf;omega,j+1,by simp,⟨by omega,?_⟩,by omega⟩⟩
       ·rw[yA,lK hk]
        ·rfl
        ·rw[iy,Fc.eq];rcases cQ with h |h |h |h |h<;>simp [h]
       ·rw[sM,q3,iy,Fc.eq];simp [he]
      ·clear hy;have vl:j=fields.length:=by clear hB hM;omega
       have GP:=yA;rw[<- vl,q3,Bool.true_and] at GP;clear yA;refine ei aB (fun y:Nat×Mem=>⟨[⟨2,[],.box 0 0⟩,⟨3,[],.box 1 0⟩,⟨7,[],.v (.int .i64 y.1)⟩],[],[⟨0,59,x.cs.map .v⟩,⟨1,59,x'.cs.map .v⟩],[],2,y.2⟩)
        (fun y=>ae m y.2/\y.1<=x.ml/\gp y.1 (fz qP methods uo)=true) (fun y=>x.ml - y.1) (0,m) (by kernel_rfl) (fun _ _=>au _) (fun y hy=>hy.1) (fun _=> ?_) ?_ ?_ ?_
       ·simp only[go_sem,Cc.cs]
       ·simp only[go_sem,Cc.cs];rfl
       ·exact⟨.inl rfl,aG _,rfl⟩
       ·rintro⟨i,mm⟩ ⟨g1,g2,g3⟩;simp only at g1 g2 g3;have hy:∀(hk:i<methods.length),∃X Y:Mc,(Rd mm (cM x.ma (i * 8)) X.cs/\x.ma≠none)/\(Rd mm (cM x'.ma (i * 8)) Y.cs/\x'.ma≠none)/\aJ 60 [.v (.agg ⟨X.cs⟩),.v (.agg ⟨Y.cs⟩)] mm (.bool (fz qP methods uo i)):=fun hk=>by
         obtain⟨X,Y,e1,e2,e3⟩:=hM mm g1 i hk e3;have q1:=dA (ax g1 r3) (by omega:i<x.ml);have q2:=dA (ax g1 r3') (by omega:i<x'.ml);rw[e1] at q1;rw[e2] at q2;exact⟨X,Y,q1,q2,e3 mm (.inl rfl)⟩
        clear hM;have LW:=hB mm g1;clear hB;simp only[go_sem,Cc.cs];refine⟨fun ay=> ?_,fun aos=>ab (LW.mono ?_)⟩
        ·clear LW;have hk:i<methods.length:=by clear hy;omega
         refine bO (.hoist 0 (.hoist 1 (.hoist 2 (.hoist 3 (.hoist 4 (.hoist 5 (.hoist 6 (.hoist 7 (.hoist 8 (.hoist 9 (.alt 10 [] (.hoist 11 .done) .stop))))))))))) aB (by kernel_rfl) (by kernel_rfl) ?_;simp only[go_sem,Cc.cs];refine Exists.elim (hy hk) fun X fT=>Exists.elim fT fun Y fE=>⟨⟨by clear hy fT fE;omega,ay,fE.1.2⟩,X.cs,⟨fE.1.1,rfl⟩,⟨by clear hy fT fE;omega,by clear hy fT fE;omega,fE.2.1.2⟩,Y.cs,⟨fE.2.1.1,rfl⟩,?_⟩
         clear hy fT;have ha:=fE.2.2;clear fE;simp only[go_sem,Cc.cs,Mc.cs];refine ab ((aQ ha (fun V=>rfl)).mono ?_);clear ha;rintro r H' m2 aH ⟨aY,rfl,rfl⟩;simp only[go_sem,Cc.cs];refine⟨fun hb=>⟨aa g1 aY,?_⟩,fun hb=>⟨by unfold aF;simp only[av] at bm;omega,(i+1,m2),⟨by simp,.inl rfl⟩,⟨aa g1 aY,by simp only;omega,?_⟩,by simp only;omega⟩⟩
         ·rw[GP,lK hk hb];rfl
         ·simp only;rw[sM,g3,hb];rfl
        ·clear hy LW;have hk3:i=methods.length:=by omega
         rw[<- hk3,g3,Bool.true_and] at GP;rintro r H' m2 aH ⟨l2,rfl,rfl⟩;simp only[go_sem,Cc.cs];exact⟨aa g1 l2,GP.symm⟩
theorem Wo (a b:List Cd) (p:Option Addr) (n c:Nat) (p' :Option Addr) (n' c' :Nat) (m:Mem) (ha:qk m a p n c) (hb:qk m b p' n' c'):aJ 12 [.v (.slice p n c),.v (.slice p' n' c')] m (.bool (jK qQ a b)):=by
 obtain⟨hl,bg,hn,xs,r1,s1⟩:=ha;obtain⟨kY,hcp',yy,xs',r1',s1'⟩:=hb;have hX:jK qQ a b=(decide (a.length=b.length)&&gp a.length (fz qQ a b)):=qW _ _ _;have hM:=fun m' (hle:ae m m')=>E9 (R:=ki) (vr:=Cc.cs) (e:=qQ) (f:=30) (fun _ _ _ _ h=>qa h) (fun _ _ _=>Qs) (fun i hi=>qa hle (nI s1 hi)) (fun i hi=>qa hle (nI s1' hi)) (fun a ha b hb ca cb m2 aY=>X6 a b ca cb m2)
 clear s1 s1';refine aR aB Tryz.func12 ?_
 ·simp only[go_sem];refine⟨fun cQ=> ?_,fun heq=> ?_⟩
  ·rw[hX,di (by clear hM;omega:¬a.length=b.length)];rfl
  ·have pT:a.length=b.length:=by clear hM;omega
   rw[eF pT,Bool.true_and] at hX;refine du aB (fun y:Nat×Mem=>⟨[⟨0,[],.v (.slice p n c)⟩,⟨1,[],.v (.slice p' n' c')⟩,⟨5,[],.v (.int .i64 y.1)⟩],[],[],[],0,y.2⟩)
    (fun y=>ae m y.2/\y.1<=n/\gp y.1 (fz qQ a b)=true) (fun y=>n - y.1) (0,m) (fun _ _=>au _) (fun y hy=>hy.1) ?_ ?_ ?_
   ·simp only[go_sem];rfl
   ·exact⟨.inl rfl,aG _,rfl⟩
   ·rintro⟨k,mm⟩ ⟨h1,h2,h3⟩;simp only at h1 h2 h3;have hy:∀(hk:k<a.length),∃X Y:Cc,(Rd mm (cM p (k * 7)) X.cs/\p≠none)/\(Rd mm (cM p' (k * 7)) Y.cs/\p' ≠none)/\aJ 30 [.v (.agg ⟨X.cs⟩),.v (.agg ⟨Y.cs⟩)] mm (.bool (fz qQ a b k)):=fun hk=>by
     obtain⟨X,Y,e1,e2,e3⟩:=hM mm h1 k hk pT;have q1:=dA (ax h1 r1) (by omega:k<n);have q2:=dA (ax h1 r1') (by omega:k<n');rw[e1] at q1;rw[e2] at q2;exact⟨X,Y,q1,q2,e3 mm (.inl rfl)⟩
    clear hM;simp only[go_sem];refine⟨fun ay=> ?_,fun cg=> ?_⟩
    ·have hk:k<a.length:=by clear hy;omega
     refine bO (.hoist 0 (.hoist 1 (.hoist 2 (.hoist 3 (.hoist 4 (.hoist 5 (.hoist 6 (.hoist 7 (.alt 8 [] (.hoist 9 .done) .stop))))))))) aB (by kernel_rfl) (by kernel_rfl) ?_;simp only[go_sem];refine Exists.elim (hy hk) fun X fT=>Exists.elim fT fun Y fE=>⟨⟨by clear hy fT fE;omega,ay,fE.1.2⟩,X.cs,⟨fE.1.1,rfl⟩,⟨by clear hy fT fE;omega,by clear hy fT fE;omega,fE.2.1.2⟩,Y.cs,⟨fE.2.1.1,rfl⟩,?_⟩
     clear hy fT;have ha:=fE.2.2;clear fE;simp only[go_sem,Cc.cs];refine ab ((aQ ha (fun V=>rfl)).mono ?_);clear ha;rintro r H' m2 aH ⟨aY,rfl,rfl⟩;simp only[go_sem,Cc.cs];refine⟨fun hb=>⟨aa h1 aY,?_⟩,fun hb=>⟨by unfold aF;simp only[av] at hn;omega,(k+1,m2),⟨by simp,.inl rfl⟩,⟨aa h1 aY,by simp only;omega,?_⟩,by simp only;omega⟩⟩
     ·rw[hX,lK hk hb]
     ·simp only;rw[sM,h3,hb];rfl
    ·have:k=a.length:=by clear hy;omega
     refine⟨h1,?_⟩;rw[hX,<- this,h3]
theorem Ty.eq_self (x:Ty):Ty.eq x x=true:=by simp [Ty.eq]
theorem p9 {α:Type} [DecidableEq α] (a b:α):decide (a=b)=decide (b=a):=by rw[decide_eq_decide];exact eq_comm
theorem Ty.eq_comm (x y:Ty):Ty.eq x y=Ty.eq y x:=by rw[Ty.eq,Ty.eq,p9 x.dim,p9 x.base,p9 x.name]
mutual
theorem IX:∀(e:Ex),iA e e=true
 | .mk k n s c ty args=>by rw[iA,Ty.eq_self,OE args];simp
theorem OE:∀(l:List Ex),ly l l=true
 |[]=>by simp only[ly]
 |e::r=>by rw[ly,IX e,OE r];rfl
end
mutual
theorem aaM:∀(e:St),dh e e=true
 | .mk k nm ty tg ex body alt=>by rw[dh,Ty.eq_self,IX,IX,Bg body,Bg alt];simp
theorem Bg:∀(l:List St),gn l l=true
 |[]=>by simp only[gn]
 |e::r=>by rw[gn,aaM e,Bg r];rfl
end
theorem Bn {α:Type} {e:α->α->Bool} (h:∀a,e a a=true):∀(l:List α),jK e l l=true
 |[]=>rfl
 |a::r=>by rw[jK,h,Bn h r];rfl
theorem Pc.eq_self (p:Pc):Pc.eq p p=true:=by simp [Pc.eq]
theorem Fc.eq_self (p:Fc):Fc.eq p p=true:=by simp [Fc.eq]
theorem Pc.eq_comm (p q:Pc):Pc.eq p q=Pc.eq q p:=by rw[Pc.eq,Pc.eq,p9 p.ty.dim,p9 p.ty.base,p9 p.ty.name,p9 p.name]
theorem Fc.eq_comm (p q:Fc):Fc.eq p q=Fc.eq q p:=by rw[Fc.eq,Fc.eq,p9 p.fl,p9 p.ty.dim,p9 p.ty.base,p9 p.ty.name,p9 p.name]
theorem aaN (x:Md):qP x x=true:=by rw[qP,Ty.eq_self,Bn Pc.eq_self,Bg];simp
theorem aaO (x:Cd):qQ x x=true:=by rw[qQ,Bn Fc.eq_self,Bn aaN,Bg];simp
theorem XD (l:List Cd):(oN l).1.length<=4611686018427387904:=by
 unfold oN;split
 ·exact cZ Xw (by decide)
 ·exact aG _
theorem Xt (s:List UInt8) (m:Mem) (hg:GlobX m) (hs:s.length<=4611686018427387904):FnH Tryz.prog 6 [.v (.string (bs s))] ⟨[],[]⟩ m fun r H' m' =>ae m m' /\r= .v (.bool true)/\H' =⟨[],[]⟩:=by
 have hw:=fun m' (h:ae m m')=>WK m' (hg.upM h)
 have hp:=H5 s m hg hs;refine aR aB Tryz.func6 ?_
 ·simp only[go_sem];refine⟨fun h4=>ab ((hw m (.inl rfl)).mono ?_),fun h4=> ?_⟩
  ·clear hw hp;rintro r H' m1 aN ⟨l1,rfl,rfl⟩;simp only[go_sem];exact l1
  ·refine ab (hp.mono ?_);clear hp;rintro r H' m1 aN ⟨l1,a1,n1,c1,rfl,r1,rfl⟩;simp only[go_sem];refine⟨fun cQ=> ?_,fun h0=> ?_⟩
   ·have hb:=Wv cQ;have tQ:n1=0:=by have:=r1.1;rw[hb.1,bh] at this;omega
    subst tQ;refine⟨fun _=>ab ((hw m1 l1).mono ?_),fun h=> ?_⟩
    ·clear hw;rintro r H' m2 aH ⟨l2,rfl,rfl⟩;simp only[go_sem];exact aa l1 l2
    ·exact absurd h (by have:=hb.2;simp;omega)
   ·have hk:=Xg h0;have DA:=MV (jd s).1 a1 n1 c1 m1 hk.2.2 r1;have hW:=QA r1;have hF:=fun m' (h:ae m1 m')=>VL (jd s).1 a1 n1 c1 m' hk.2.2 (Pr h r1)
    have hP:=fun m' (h:ae m m')=>H5 (oN (jd s).1).1 m' (hg.upM h) (XD _)
    have hcn:=canon hW hk.2.2;refine ab (DA.mono ?_);clear DA;rintro r H' m2 aH ⟨l2,rfl,rfl⟩;have u2:=aa l1 l2;simp only[go_sem];refine⟨fun h=>absurd h (by simp [hk.1,hk.2.1]),fun _=>ab ((hF m2 l2).mono ?_)⟩;clear hF;rintro r H' m3 bI ⟨l3,rfl,rfl⟩;have u3:=aa u2 l3;simp only[go_sem];refine⟨fun _=>ab ((hw m3 u3).mono ?_),fun hf=> ?_⟩
    ·clear hw hP;rintro r H' m4 cT ⟨l4,rfl,rfl⟩;simp only[go_sem];exact aa u3 l4
    ·have LU:=hP m3 u3;rw[hcn hf] at LU;clear hP;refine ab (LU.mono ?_);clear LU;rintro r H' m4 cT ⟨l4,a4,n4,c4,rfl,r4,rfl⟩;have u4:=aa u3 l4;have kE:=Wo (jd s).1 (jd s).1 a1 n1 c1 a4 n4 c4 m4 (Pr (aa l2 (aa l3 l4)) r1) r4;rw[Bn aaO] at kE;simp only[go_sem,not_true_eq_false];refine ab (kE.mono ?_);clear kE;rintro r H' m5 cO ⟨l5,rfl,rfl⟩;have u5:=aa u4 l5;simp only[go_sem];refine ab ((hw m5 u5).mono ?_);clear hw;rintro r H' m6 eo ⟨l6,rfl,rfl⟩;simp only[go_sem];exact aa u5 l6
end Go.Proofs.YtimddhkipjedcaaGreatDoor.E

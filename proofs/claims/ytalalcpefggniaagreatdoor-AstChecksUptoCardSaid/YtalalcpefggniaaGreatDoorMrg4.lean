/- Several texts in one: AstT, AstU, AstPf, AstRa, AstRb, AstRp, AstUa, AstW, AstWa, AstWb, AstWc, AstX, AstXa, AstXb. -/
import Derived.WideKeyRuns
import Derived.Test.YtalalcpefggniaaGreatDoorMrg3
set_option linter.unusedSimpArgs false
set_option linter.unusedVariables false
set_option maxHeartbeats 4000000
set_option maxRecDepth 20000
namespace Go.Proofs.YtalalcpefggniaaGreatDoor.E
open Go
def zNd : Nd := ⟨0, 0, [], [], zTy, none, 0, 0⟩
theorem Rds_nil {m : Mem} {sz : Nat} : Rds m none 0 sz [] := ⟨by simp, fun h => absurd h (Nat.lt_irrefl _)⟩
theorem z_ok : TyOk zTy := ⟨by unfold I64; decide, by decide, by decide⟩
theorem z_rep {m : Mem} : exRep m zE zNd.cs := by
 simp only [zE, exRep]
 exact ⟨none, 0, [], rfl, Nnr _, Rds_nil, ⟨by unfold I64; decide, by unfold I64; decide, by decide, by decide, z_ok, by decide⟩, by simp only [exsRep]⟩
theorem st_mk {m : Mem} (U : Sd) {tg ex : Ex} {body alt : List St} {xs ys : List Value} (htg : exRep m tg U.tg.cs) (hex : exRep m ex U.ex.cs) (hl : U.l = body.length) (hcp : U.l ≤ U.cp) (hl2 : U.l2 = alt.length) (hcp2 : U.l2 ≤ U.cp2) (hok : StOk U.k U.name U.ty body.length alt.length)
  (r1 : Rds m U.a U.l 23 xs) (r2 : Rds m U.b U.l2 23 ys) (s1 : stsRep m body xs) (s2 : stsRep m alt ys) : stRep m (.mk U.k U.name U.ty tg ex body alt) U.cs := by
 simp only [stRep]
 exact ⟨U, ⟨rfl, rfl, rfl, rfl⟩, htg, hex, ⟨hl, hcp, hl2, hcp2⟩, hok, xs, ys, r1, r2, s1, s2⟩
theorem nd_inj {x y : Nd} (h : x.cs = y.cs) : x = y := by
 obtain ⟨k, n, s, c, ⟨d, b, nm⟩, a, l, cp⟩ := x
 obtain ⟨k', n', s', c', ⟨d', b', nm'⟩, a', l', cp'⟩ := y
 simp only [Nd.cs, List.cons.injEq, Value.int.injEq, Value.string.injEq, Value.slice.injEq, and_true, true_and] at h
 obtain ⟨h1, h2, h3, h4, h5, h6, h7, h8, h9, h10⟩ := h
 rw [h1, h2, bs_inj h3, bs_inj h4, h5, h6, bs_inj h7, h8, h9, h10]
theorem empty_of {m : Mem} {e : Ex} {x : Nd} (h : exRep m e x.cs) (m' : Mem) : Ans 52 [.v (.agg ⟨x.cs⟩)] m' (.bool (emptyE e)) := by
 cases e with
 | mk k n s c ty args =>
  obtain ⟨y, hy, h1, h2, h3, h4, h5, h6, _⟩ := ex_parts h
  have := empty_spec x m'
  rw [nd_inj hy] at this ⊢
  rw [h1, h2, h3, h4, h5, h6] at this
  exact this
theorem sts_nil {m : Mem} : stsRep m [] [] := by simp only [stsRep]
theorem vst1 (nm : List UInt8) (ty : Ty) (tN eN : Nd) (a : Option Addr) (l cp : Nat) (b : Option Addr) (l2 cp2 : Nat) (tg ex : Ex) (body alt : List St) (xs ys : List Value) (m : Mem) (hg : Glob m)
  (htg : exRep m tg tN.cs) (hex : exRep m ex eN.cs) (hl : l = body.length) (hcp : l ≤ cp) (hl2 : l2 = alt.length) (hcp2 : l2 ≤ cp2) (hok : StOk 1 nm ty body.length alt.length) (r1 : Rds m a l 23 xs) (r2 : Rds m b l2 23 ys) (s1 : stsRep m body xs) (s2 : stsRep m alt ys) (B1 B2 B V : Bool)
  (hB : ∀ m', leM m m' → Ans 47 [.v (.slice a l cp), .v (.bool false)] m' (.bool B1)) (hA : ∀ m', leM m m' → Ans 47 [.v (.slice b l2 cp2), .v (.bool false)] m' (.bool B2)) (hBB : B = (B1 && B2))
  (e0 : V = ((identL nm && valueTy ty.dim ty.base ty.name && validE ex) && eqS (St.mk 1 nm ty tg ex body alt) (St.mk 1 nm ty zE ex [] []))) : Ans 21 [.v (.agg ⟨Sd.cs ⟨1, nm, ty, tN, eN, a, l, cp, b, l2, cp2⟩⟩)] m (.bool V) := by
 have hQ : ∀ m', leM m m' → Ans 54 [.v (.agg ⟨Sd.cs ⟨1, nm, ty, tN, eN, a, l, cp, b, l2, cp2⟩⟩), .v (.agg ⟨Sd.cs ⟨1, nm, ty, zNd, eN, none, 0, 0, none, 0, 0⟩⟩)] m' (.bool (eqS (St.mk 1 nm ty tg ex body alt) (St.mk 1 nm ty zE ex [] []))) := fun m' hle =>
  eqS_all _ _ _ _ _ m' (Nnr _) (st_mk (m := m') (⟨1, nm, ty, tN, eN, a, l, cp, b, l2, cp2⟩ : Sd) (exRep_upM hle htg) (exRep_upM hle hex) hl hcp hl2 hcp2 hok (Rds_upM hle r1) (Rds_upM hle r2) (stsRep_upM hle s1) (stsRep_upM hle s2))
   (st_mk (m := m') (⟨1, nm, ty, zNd, eN, none, 0, 0, none, 0, 0⟩ : Sd) z_rep (exRep_upM hle hex) rfl (Nnr _) rfl (Nnr _) ⟨hok.k, hok.nm, hok.ty, Nat.zero_le _, Nat.zero_le _⟩ Rds_nil Rds_nil sts_nil sts_nil )
 have hBL1 : BL nm := Nat.le_trans hok.nm (by decide)
 have hBL2 : BL ty.name := Nat.le_trans hok.ty.2.2 (by decide)
 have hX := fun m' (hle : leM m m') => valid_all _ ex eN.cs m' (Nnr _) (hg.upM hle) (exRep_upM hle hex)
 clear s1 s2 r1 r2
 refine enter cfV puV Tryz.func21 rfl rfl (by kernel_rfl) rfl ?_ ?_
 ·simp only [go_sem, ↓tfi, ↓fti, ↓reduceIte, Sd.cs, Nd.cs, zNd, zTy, Int.reduceEq, decide_true, decide_false]
 ·simp only [go_sem, ↓tfi, ↓fti, ↓reduceIte, Sd.cs, Nd.cs, zNd, zTy, Int.reduceEq, decide_true, decide_false]
  refine cvl ((hB m (.inl rfl)).mono ?_)
  clear hB
  rintro r H' m1 hm1 ⟨l1, rfl, rfl⟩
  simp only [go_sem, ↓tfi, ↓fti, ↓reduceIte, Sd.cs, Nd.cs, zNd, zTy, Int.reduceEq, decide_true, decide_false]
  refine ⟨fun b1 => cvl ((hA m1 l1).mono ?_), fun b1 => ?_⟩
  ·clear hA
   rintro r H' m2 hm2 ⟨l2', rfl, rfl⟩
   have lm2 := leM_tr l1 l2'
   simp only [go_sem, ↓tfi, ↓fti, ↓reduceIte, Sd.cs, Nd.cs, zNd, zTy, Int.reduceEq, decide_true, decide_false]
   refine ⟨hBL1, fun _ => hBL2, fun c => ?_, fun c => ?_⟩
   ·refine cvl ((FnH_den (hX m2 lm2) (fun V => rfl)).mono ?_)
    clear hX
    rintro r H' w1 hw1 ⟨lw1, rfl, rfl⟩
    simp only [go_sem, ↓tfi, ↓fti, ↓reduceIte, Sd.cs, Nd.cs, zNd, zTy, Int.reduceEq, decide_true, decide_false]
    refine ⟨fun c1 => ?_, fun c1 => ?_⟩
    ·refine cvl ((FnH_den (hQ w1 (leM_tr lm2 lw1)) (fun V => rfl)).mono ?_)
     clear hQ
     rintro r H' w2 hw2 ⟨lw2, rfl, rfl⟩
     simp only [go_sem, ↓tfi, ↓fti, ↓reduceIte, Sd.cs, Nd.cs, zNd, zTy, Int.reduceEq, decide_true, decide_false]
     refine ⟨leM_tr (leM_tr lm2 lw1) lw2, ?_⟩
     rw [e0, c.1, c.2, c1]
     rfl
    ·refine ⟨(leM_tr lm2 lw1), ?_⟩
     rw [e0, c.1, c.2, c1]
     rfl
   ·refine ⟨lm2, ?_⟩
    rw [e0]
    rcases c with c | c <;> simp [c]
  ·clear hA
   refine ⟨hBL1, fun _ => hBL2, fun c => ?_, fun c => ?_⟩
   ·refine cvl ((FnH_den (hX m1 l1) (fun V => rfl)).mono ?_)
    clear hX
    rintro r H' w3 hw3 ⟨lw3, rfl, rfl⟩
    simp only [go_sem, ↓tfi, ↓fti, ↓reduceIte, Sd.cs, Nd.cs, zNd, zTy, Int.reduceEq, decide_true, decide_false]
    refine ⟨fun c3 => ?_, fun c3 => ?_⟩
    ·refine cvl ((FnH_den (hQ w3 (leM_tr l1 lw3)) (fun V => rfl)).mono ?_)
     clear hQ
     rintro r H' w4 hw4 ⟨lw4, rfl, rfl⟩
     simp only [go_sem, ↓tfi, ↓fti, ↓reduceIte, Sd.cs, Nd.cs, zNd, zTy, Int.reduceEq, decide_true, decide_false]
     refine ⟨leM_tr (leM_tr l1 lw3) lw4, ?_⟩
     rw [e0, c.1, c.2, c3]
     rfl
    ·refine ⟨(leM_tr l1 lw3), ?_⟩
     rw [e0, c.1, c.2, c3]
     rfl
   ·refine ⟨l1, ?_⟩
    rw [e0]
    rcases c with c | c <;> simp [c]
theorem vst2 (nm : List UInt8) (ty : Ty) (tN eN : Nd) (a : Option Addr) (l cp : Nat) (b : Option Addr) (l2 cp2 : Nat) (tg ex : Ex) (body alt : List St) (xs ys : List Value) (m : Mem) (hg : Glob m)
  (htg : exRep m tg tN.cs) (hex : exRep m ex eN.cs) (hl : l = body.length) (hcp : l ≤ cp) (hl2 : l2 = alt.length) (hcp2 : l2 ≤ cp2) (hok : StOk 2 nm ty body.length alt.length) (r1 : Rds m a l 23 xs) (r2 : Rds m b l2 23 ys) (s1 : stsRep m body xs) (s2 : stsRep m alt ys) (B1 B2 B V : Bool)
  (hB : ∀ m', leM m m' → Ans 47 [.v (.slice a l cp), .v (.bool false)] m' (.bool B1)) (hA : ∀ m', leM m m' → Ans 47 [.v (.slice b l2 cp2), .v (.bool false)] m' (.bool B2)) (hBB : B = (B1 && B2))
  (e0 : V = ((targetE tg && validE ex) && eqS (St.mk 2 nm ty tg ex body alt) (St.mk 2 [] zTy tg ex [] []))) : Ans 21 [.v (.agg ⟨Sd.cs ⟨2, nm, ty, tN, eN, a, l, cp, b, l2, cp2⟩⟩)] m (.bool V) := by
 have hQ : ∀ m', leM m m' → Ans 54 [.v (.agg ⟨Sd.cs ⟨2, nm, ty, tN, eN, a, l, cp, b, l2, cp2⟩⟩), .v (.agg ⟨Sd.cs ⟨2, [], zTy, tN, eN, none, 0, 0, none, 0, 0⟩⟩)] m' (.bool (eqS (St.mk 2 nm ty tg ex body alt) (St.mk 2 [] zTy tg ex [] []))) := fun m' hle =>
  eqS_all _ _ _ _ _ m' (Nnr _) (st_mk (m := m') (⟨2, nm, ty, tN, eN, a, l, cp, b, l2, cp2⟩ : Sd) (exRep_upM hle htg) (exRep_upM hle hex) hl hcp hl2 hcp2 hok (Rds_upM hle r1) (Rds_upM hle r2) (stsRep_upM hle s1) (stsRep_upM hle s2))
   (st_mk (m := m') (⟨2, [], zTy, tN, eN, none, 0, 0, none, 0, 0⟩ : Sd) (exRep_upM hle htg) (exRep_upM hle hex) rfl (Nnr _) rfl (Nnr _) ⟨hok.k, Nat.zero_le _, z_ok, Nat.zero_le _, Nat.zero_le _⟩ Rds_nil Rds_nil sts_nil sts_nil )
 have hX := fun m' (hle : leM m m') => valid_all _ ex eN.cs m' (Nnr _) (hg.upM hle) (exRep_upM hle hex)
 have hT := fun m' (hle : leM m m') => target_spec tg tN.cs m' (hg.upM hle) (exRep_upM hle htg)
 clear s1 s2 r1 r2
 refine enter cfV puV Tryz.func21 rfl rfl (by kernel_rfl) rfl ?_ ?_
 ·simp only [go_sem, ↓tfi, ↓fti, ↓reduceIte, Sd.cs, Nd.cs, zNd, zTy, Int.reduceEq, decide_true, decide_false]
 ·simp only [go_sem, ↓tfi, ↓fti, ↓reduceIte, Sd.cs, Nd.cs, zNd, zTy, Int.reduceEq, decide_true, decide_false]
  refine cvl ((hB m (.inl rfl)).mono ?_)
  clear hB
  rintro r H' m1 hm1 ⟨l1, rfl, rfl⟩
  simp only [go_sem, ↓tfi, ↓fti, ↓reduceIte, Sd.cs, Nd.cs, zNd, zTy, Int.reduceEq, decide_true, decide_false]
  refine ⟨fun b1 => cvl ((hA m1 l1).mono ?_), fun b1 => ?_⟩
  ·clear hA
   rintro r H' m2 hm2 ⟨l2', rfl, rfl⟩
   have lm2 := leM_tr l1 l2'
   simp only [go_sem, ↓tfi, ↓fti, ↓reduceIte, Sd.cs, Nd.cs, zNd, zTy, Int.reduceEq, decide_true, decide_false]
   refine cvl ((FnH_den (hT m2 lm2) (fun V => rfl)).mono ?_)
   clear hT
   rintro r H' w1 hw1 ⟨lw1, rfl, rfl⟩
   simp only [go_sem, ↓tfi, ↓fti, ↓reduceIte, Sd.cs, Nd.cs, zNd, zTy, Int.reduceEq, decide_true, decide_false]
   refine ⟨fun c => ?_, fun c => ?_⟩
   ·refine cvl ((FnH_den (hX w1 (leM_tr lm2 lw1)) (fun V => rfl)).mono ?_)
    clear hX
    rintro r H' w2 hw2 ⟨lw2, rfl, rfl⟩
    simp only [go_sem, ↓tfi, ↓fti, ↓reduceIte, Sd.cs, Nd.cs, zNd, zTy, Int.reduceEq, decide_true, decide_false]
    refine ⟨fun c2 => ?_, fun c2 => ?_⟩
    ·refine cvl ((FnH_den (hQ w2 (leM_tr (leM_tr lm2 lw1) lw2)) (fun V => rfl)).mono ?_)
     clear hQ
     rintro r H' w3 hw3 ⟨lw3, rfl, rfl⟩
     simp only [go_sem, ↓tfi, ↓fti, ↓reduceIte, Sd.cs, Nd.cs, zNd, zTy, Int.reduceEq, decide_true, decide_false]
     refine ⟨leM_tr (leM_tr (leM_tr lm2 lw1) lw2) lw3, ?_⟩
     rw [e0, c, c2]
     rfl
    ·refine ⟨(leM_tr (leM_tr lm2 lw1) lw2), ?_⟩
     rw [e0, c, c2]
     rfl
   ·refine ⟨(leM_tr lm2 lw1), ?_⟩
    rw [e0, c]
    rfl
  ·clear hA
   refine cvl ((FnH_den (hT m1 l1) (fun V => rfl)).mono ?_)
   clear hT
   rintro r H' w4 hw4 ⟨lw4, rfl, rfl⟩
   simp only [go_sem, ↓tfi, ↓fti, ↓reduceIte, Sd.cs, Nd.cs, zNd, zTy, Int.reduceEq, decide_true, decide_false]
   refine ⟨fun c => ?_, fun c => ?_⟩
   ·refine cvl ((FnH_den (hX w4 (leM_tr l1 lw4)) (fun V => rfl)).mono ?_)
    clear hX
    rintro r H' w5 hw5 ⟨lw5, rfl, rfl⟩
    simp only [go_sem, ↓tfi, ↓fti, ↓reduceIte, Sd.cs, Nd.cs, zNd, zTy, Int.reduceEq, decide_true, decide_false]
    refine ⟨fun c5 => ?_, fun c5 => ?_⟩
    ·refine cvl ((FnH_den (hQ w5 (leM_tr (leM_tr l1 lw4) lw5)) (fun V => rfl)).mono ?_)
     clear hQ
     rintro r H' w6 hw6 ⟨lw6, rfl, rfl⟩
     simp only [go_sem, ↓tfi, ↓fti, ↓reduceIte, Sd.cs, Nd.cs, zNd, zTy, Int.reduceEq, decide_true, decide_false]
     refine ⟨leM_tr (leM_tr (leM_tr l1 lw4) lw5) lw6, ?_⟩
     rw [e0, c, c5]
     rfl
    ·refine ⟨(leM_tr (leM_tr l1 lw4) lw5), ?_⟩
     rw [e0, c, c5]
     rfl
   ·refine ⟨(leM_tr l1 lw4), ?_⟩
    rw [e0, c]
    rfl
theorem vst3 (nm : List UInt8) (ty : Ty) (tN eN : Nd) (a : Option Addr) (l cp : Nat) (b : Option Addr) (l2 cp2 : Nat) (tg ex : Ex) (body alt : List St) (xs ys : List Value) (m : Mem) (hg : Glob m)
  (htg : exRep m tg tN.cs) (hex : exRep m ex eN.cs) (hl : l = body.length) (hcp : l ≤ cp) (hl2 : l2 = alt.length) (hcp2 : l2 ≤ cp2) (hok : StOk 3 nm ty body.length alt.length) (r1 : Rds m a l 23 xs) (r2 : Rds m b l2 23 ys) (s1 : stsRep m body xs) (s2 : stsRep m alt ys) (B1 B2 B V : Bool)
  (hB : ∀ m', leM m m' → Ans 47 [.v (.slice a l cp), .v (.bool false)] m' (.bool B1)) (hA : ∀ m', leM m m' → Ans 47 [.v (.slice b l2 cp2), .v (.bool false)] m' (.bool B2)) (hBB : B = (B1 && B2))
  (e0 : V = (callE ex && eqS (St.mk 3 nm ty tg ex body alt) (St.mk 3 [] zTy zE ex [] []))) : Ans 21 [.v (.agg ⟨Sd.cs ⟨3, nm, ty, tN, eN, a, l, cp, b, l2, cp2⟩⟩)] m (.bool V) := by
 have hQ : ∀ m', leM m m' → Ans 54 [.v (.agg ⟨Sd.cs ⟨3, nm, ty, tN, eN, a, l, cp, b, l2, cp2⟩⟩), .v (.agg ⟨Sd.cs ⟨3, [], zTy, zNd, eN, none, 0, 0, none, 0, 0⟩⟩)] m' (.bool (eqS (St.mk 3 nm ty tg ex body alt) (St.mk 3 [] zTy zE ex [] []))) := fun m' hle =>
  eqS_all _ _ _ _ _ m' (Nnr _) (st_mk (m := m') (⟨3, nm, ty, tN, eN, a, l, cp, b, l2, cp2⟩ : Sd) (exRep_upM hle htg) (exRep_upM hle hex) hl hcp hl2 hcp2 hok (Rds_upM hle r1) (Rds_upM hle r2) (stsRep_upM hle s1) (stsRep_upM hle s2))
   (st_mk (m := m') (⟨3, [], zTy, zNd, eN, none, 0, 0, none, 0, 0⟩ : Sd) z_rep (exRep_upM hle hex) rfl (Nnr _) rfl (Nnr _) ⟨hok.k, Nat.zero_le _, z_ok, Nat.zero_le _, Nat.zero_le _⟩ Rds_nil Rds_nil sts_nil sts_nil )
 have hX := fun m' (hle : leM m m') => call_spec ex eN.cs m' (hg.upM hle) (exRep_upM hle hex)
 clear s1 s2 r1 r2
 refine enter cfV puV Tryz.func21 rfl rfl (by kernel_rfl) rfl ?_ ?_
 ·simp only [go_sem, ↓tfi, ↓fti, ↓reduceIte, Sd.cs, Nd.cs, zNd, zTy, Int.reduceEq, decide_true, decide_false]
 ·simp only [go_sem, ↓tfi, ↓fti, ↓reduceIte, Sd.cs, Nd.cs, zNd, zTy, Int.reduceEq, decide_true, decide_false]
  refine cvl ((hB m (.inl rfl)).mono ?_)
  clear hB
  rintro r H' m1 hm1 ⟨l1, rfl, rfl⟩
  simp only [go_sem, ↓tfi, ↓fti, ↓reduceIte, Sd.cs, Nd.cs, zNd, zTy, Int.reduceEq, decide_true, decide_false]
  refine ⟨fun b1 => cvl ((hA m1 l1).mono ?_), fun b1 => ?_⟩
  ·clear hA
   rintro r H' m2 hm2 ⟨l2', rfl, rfl⟩
   have lm2 := leM_tr l1 l2'
   simp only [go_sem, ↓tfi, ↓fti, ↓reduceIte, Sd.cs, Nd.cs, zNd, zTy, Int.reduceEq, decide_true, decide_false]
   refine cvl ((FnH_den (hX m2 lm2) (fun V => rfl)).mono ?_)
   clear hX
   rintro r H' w1 hw1 ⟨lw1, rfl, rfl⟩
   simp only [go_sem, ↓tfi, ↓fti, ↓reduceIte, Sd.cs, Nd.cs, zNd, zTy, Int.reduceEq, decide_true, decide_false]
   refine ⟨fun c1 => ?_, fun c1 => ?_⟩
   ·refine cvl ((FnH_den (hQ w1 (leM_tr lm2 lw1)) (fun V => rfl)).mono ?_)
    clear hQ
    rintro r H' w2 hw2 ⟨lw2, rfl, rfl⟩
    simp only [go_sem, ↓tfi, ↓fti, ↓reduceIte, Sd.cs, Nd.cs, zNd, zTy, Int.reduceEq, decide_true, decide_false]
    refine ⟨leM_tr (leM_tr lm2 lw1) lw2, ?_⟩
    rw [e0, c1]
    rfl
   ·refine ⟨(leM_tr lm2 lw1), ?_⟩
    rw [e0, c1]
    rfl
  ·clear hA
   refine cvl ((FnH_den (hX m1 l1) (fun V => rfl)).mono ?_)
   clear hX
   rintro r H' w3 hw3 ⟨lw3, rfl, rfl⟩
   simp only [go_sem, ↓tfi, ↓fti, ↓reduceIte, Sd.cs, Nd.cs, zNd, zTy, Int.reduceEq, decide_true, decide_false]
   refine ⟨fun c3 => ?_, fun c3 => ?_⟩
   ·refine cvl ((FnH_den (hQ w3 (leM_tr l1 lw3)) (fun V => rfl)).mono ?_)
    clear hQ
    rintro r H' w4 hw4 ⟨lw4, rfl, rfl⟩
    simp only [go_sem, ↓tfi, ↓fti, ↓reduceIte, Sd.cs, Nd.cs, zNd, zTy, Int.reduceEq, decide_true, decide_false]
    refine ⟨leM_tr (leM_tr l1 lw3) lw4, ?_⟩
    rw [e0, c3]
    rfl
   ·refine ⟨(leM_tr l1 lw3), ?_⟩
    rw [e0, c3]
    rfl
theorem vst4 (nm : List UInt8) (ty : Ty) (tN eN : Nd) (a : Option Addr) (l cp : Nat) (b : Option Addr) (l2 cp2 : Nat) (tg ex : Ex) (body alt : List St) (xs ys : List Value) (m : Mem) (hg : Glob m)
  (htg : exRep m tg tN.cs) (hex : exRep m ex eN.cs) (hl : l = body.length) (hcp : l ≤ cp) (hl2 : l2 = alt.length) (hcp2 : l2 ≤ cp2) (hok : StOk 4 nm ty body.length alt.length) (r1 : Rds m a l 23 xs) (r2 : Rds m b l2 23 ys) (s1 : stsRep m body xs) (s2 : stsRep m alt ys) (B1 B2 B V : Bool)
  (hB : ∀ m', leM m m' → Ans 47 [.v (.slice a l cp), .v (.bool false)] m' (.bool B1)) (hA : ∀ m', leM m m' → Ans 47 [.v (.slice b l2 cp2), .v (.bool false)] m' (.bool B2)) (hBB : B = (B1 && B2))
  (e0 : V = ((B && validE ex) && eqS (St.mk 4 nm ty tg ex body alt) (St.mk 4 [] zTy zE ex body alt))) : Ans 21 [.v (.agg ⟨Sd.cs ⟨4, nm, ty, tN, eN, a, l, cp, b, l2, cp2⟩⟩)] m (.bool V) := by
 have hQ : ∀ m', leM m m' → Ans 54 [.v (.agg ⟨Sd.cs ⟨4, nm, ty, tN, eN, a, l, cp, b, l2, cp2⟩⟩), .v (.agg ⟨Sd.cs ⟨4, [], zTy, zNd, eN, a, l, cp, b, l2, cp2⟩⟩)] m' (.bool (eqS (St.mk 4 nm ty tg ex body alt) (St.mk 4 [] zTy zE ex body alt))) := fun m' hle =>
  eqS_all _ _ _ _ _ m' (Nnr _) (st_mk (m := m') (⟨4, nm, ty, tN, eN, a, l, cp, b, l2, cp2⟩ : Sd) (exRep_upM hle htg) (exRep_upM hle hex) hl hcp hl2 hcp2 hok (Rds_upM hle r1) (Rds_upM hle r2) (stsRep_upM hle s1) (stsRep_upM hle s2))
   (st_mk (m := m') (⟨4, [], zTy, zNd, eN, a, l, cp, b, l2, cp2⟩ : Sd) z_rep (exRep_upM hle hex) hl hcp hl2 hcp2 ⟨hok.k, Nat.zero_le _, z_ok, hok.l, hok.l2⟩ (Rds_upM hle r1) (Rds_upM hle r2) (stsRep_upM hle s1) (stsRep_upM hle s2) )
 have hX := fun m' (hle : leM m m') => valid_all _ ex eN.cs m' (Nnr _) (hg.upM hle) (exRep_upM hle hex)
 clear s1 s2 r1 r2
 refine enter cfV puV Tryz.func21 rfl rfl (by kernel_rfl) rfl ?_ ?_
 ·simp only [go_sem, ↓tfi, ↓fti, ↓reduceIte, Sd.cs, Nd.cs, zNd, zTy, Int.reduceEq, decide_true, decide_false]
 ·simp only [go_sem, ↓tfi, ↓fti, ↓reduceIte, Sd.cs, Nd.cs, zNd, zTy, Int.reduceEq, decide_true, decide_false]
  refine cvl ((hB m (.inl rfl)).mono ?_)
  clear hB
  rintro r H' m1 hm1 ⟨l1, rfl, rfl⟩
  simp only [go_sem, ↓tfi, ↓fti, ↓reduceIte, Sd.cs, Nd.cs, zNd, zTy, Int.reduceEq, decide_true, decide_false]
  refine ⟨fun b1 => cvl ((hA m1 l1).mono ?_), fun b1 => ?_⟩
  ·clear hA
   rintro r H' m2 hm2 ⟨l2', rfl, rfl⟩
   have lm2 := leM_tr l1 l2'
   simp only [go_sem, ↓tfi, ↓fti, ↓reduceIte, Sd.cs, Nd.cs, zNd, zTy, Int.reduceEq, decide_true, decide_false]
   refine ⟨fun b2 => ?_, fun b2 => ?_⟩
   ·refine cvl ((FnH_den (hX m2 lm2) (fun V => rfl)).mono ?_)
    clear hX
    rintro r H' w1 hw1 ⟨lw1, rfl, rfl⟩
    simp only [go_sem, ↓tfi, ↓fti, ↓reduceIte, Sd.cs, Nd.cs, zNd, zTy, Int.reduceEq, decide_true, decide_false]
    refine ⟨fun c1 => ?_, fun c1 => ?_⟩
    ·refine cvl ((FnH_den (hQ w1 (leM_tr lm2 lw1)) (fun V => rfl)).mono ?_)
     clear hQ
     rintro r H' w2 hw2 ⟨lw2, rfl, rfl⟩
     simp only [go_sem, ↓tfi, ↓fti, ↓reduceIte, Sd.cs, Nd.cs, zNd, zTy, Int.reduceEq, decide_true, decide_false]
     refine ⟨leM_tr (leM_tr lm2 lw1) lw2, ?_⟩
     rw [e0, hBB, b1, b2, c1]
     rfl
    ·refine ⟨(leM_tr lm2 lw1), ?_⟩
     rw [e0, hBB, b1, b2, c1]
     rfl
   ·refine ⟨lm2, ?_⟩
    rw [e0, hBB, b1, b2]
    rfl
  ·clear hA
   refine ⟨l1, ?_⟩
   rw [e0, hBB, b1]
   rfl
theorem vst5 (nm : List UInt8) (ty : Ty) (tN eN : Nd) (a : Option Addr) (l cp : Nat) (b : Option Addr) (l2 cp2 : Nat) (tg ex : Ex) (body alt : List St) (xs ys : List Value) (m : Mem) (hg : Glob m)
  (htg : exRep m tg tN.cs) (hex : exRep m ex eN.cs) (hl : l = body.length) (hcp : l ≤ cp) (hl2 : l2 = alt.length) (hcp2 : l2 ≤ cp2) (hok : StOk 5 nm ty body.length alt.length) (r1 : Rds m a l 23 xs) (r2 : Rds m b l2 23 ys) (s1 : stsRep m body xs) (s2 : stsRep m alt ys) (B1 B2 B V : Bool)
  (hB : ∀ m', leM m m' → Ans 47 [.v (.slice a l cp), .v (.bool false)] m' (.bool B1)) (hA : ∀ m', leM m m' → Ans 47 [.v (.slice b l2 cp2), .v (.bool false)] m' (.bool B2)) (hBB : B = (B1 && B2))
  (e0 : V = ((B && validE ex) && eqS (St.mk 5 nm ty tg ex body alt) (St.mk 5 [] zTy zE ex body []))) : Ans 21 [.v (.agg ⟨Sd.cs ⟨5, nm, ty, tN, eN, a, l, cp, b, l2, cp2⟩⟩)] m (.bool V) := by
 have hQ : ∀ m', leM m m' → Ans 54 [.v (.agg ⟨Sd.cs ⟨5, nm, ty, tN, eN, a, l, cp, b, l2, cp2⟩⟩), .v (.agg ⟨Sd.cs ⟨5, [], zTy, zNd, eN, a, l, cp, none, 0, 0⟩⟩)] m' (.bool (eqS (St.mk 5 nm ty tg ex body alt) (St.mk 5 [] zTy zE ex body []))) := fun m' hle =>
  eqS_all _ _ _ _ _ m' (Nnr _) (st_mk (m := m') (⟨5, nm, ty, tN, eN, a, l, cp, b, l2, cp2⟩ : Sd) (exRep_upM hle htg) (exRep_upM hle hex) hl hcp hl2 hcp2 hok (Rds_upM hle r1) (Rds_upM hle r2) (stsRep_upM hle s1) (stsRep_upM hle s2))
   (st_mk (m := m') (⟨5, [], zTy, zNd, eN, a, l, cp, none, 0, 0⟩ : Sd) z_rep (exRep_upM hle hex) hl hcp rfl (Nnr _) ⟨hok.k, Nat.zero_le _, z_ok, hok.l, Nat.zero_le _⟩ (Rds_upM hle r1) Rds_nil (stsRep_upM hle s1) sts_nil )
 have hX := fun m' (hle : leM m m') => valid_all _ ex eN.cs m' (Nnr _) (hg.upM hle) (exRep_upM hle hex)
 clear s1 s2 r1 r2
 refine enter cfV puV Tryz.func21 rfl rfl (by kernel_rfl) rfl ?_ ?_
 ·simp only [go_sem, ↓tfi, ↓fti, ↓reduceIte, Sd.cs, Nd.cs, zNd, zTy, Int.reduceEq, decide_true, decide_false]
 ·simp only [go_sem, ↓tfi, ↓fti, ↓reduceIte, Sd.cs, Nd.cs, zNd, zTy, Int.reduceEq, decide_true, decide_false]
  refine cvl ((hB m (.inl rfl)).mono ?_)
  clear hB
  rintro r H' m1 hm1 ⟨l1, rfl, rfl⟩
  simp only [go_sem, ↓tfi, ↓fti, ↓reduceIte, Sd.cs, Nd.cs, zNd, zTy, Int.reduceEq, decide_true, decide_false]
  refine ⟨fun b1 => cvl ((hA m1 l1).mono ?_), fun b1 => ?_⟩
  ·clear hA
   rintro r H' m2 hm2 ⟨l2', rfl, rfl⟩
   have lm2 := leM_tr l1 l2'
   simp only [go_sem, ↓tfi, ↓fti, ↓reduceIte, Sd.cs, Nd.cs, zNd, zTy, Int.reduceEq, decide_true, decide_false]
   refine ⟨fun b2 => ?_, fun b2 => ?_⟩
   ·refine cvl ((FnH_den (hX m2 lm2) (fun V => rfl)).mono ?_)
    clear hX
    rintro r H' w1 hw1 ⟨lw1, rfl, rfl⟩
    simp only [go_sem, ↓tfi, ↓fti, ↓reduceIte, Sd.cs, Nd.cs, zNd, zTy, Int.reduceEq, decide_true, decide_false]
    refine ⟨fun c1 => ?_, fun c1 => ?_⟩
    ·refine cvl ((FnH_den (hQ w1 (leM_tr lm2 lw1)) (fun V => rfl)).mono ?_)
     clear hQ
     rintro r H' w2 hw2 ⟨lw2, rfl, rfl⟩
     simp only [go_sem, ↓tfi, ↓fti, ↓reduceIte, Sd.cs, Nd.cs, zNd, zTy, Int.reduceEq, decide_true, decide_false]
     refine ⟨leM_tr (leM_tr lm2 lw1) lw2, ?_⟩
     rw [e0, hBB, b1, b2, c1]
     rfl
    ·refine ⟨(leM_tr lm2 lw1), ?_⟩
     rw [e0, hBB, b1, b2, c1]
     rfl
   ·refine ⟨lm2, ?_⟩
    rw [e0, hBB, b1, b2]
    rfl
  ·clear hA
   refine ⟨l1, ?_⟩
   rw [e0, hBB, b1]
   rfl
theorem vst6 (nm : List UInt8) (ty : Ty) (tN eN : Nd) (a : Option Addr) (l cp : Nat) (b : Option Addr) (l2 cp2 : Nat) (tg ex : Ex) (body alt : List St) (xs ys : List Value) (m : Mem) (hg : Glob m)
  (htg : exRep m tg tN.cs) (hex : exRep m ex eN.cs) (hl : l = body.length) (hcp : l ≤ cp) (hl2 : l2 = alt.length) (hcp2 : l2 ≤ cp2) (hok : StOk 6 nm ty body.length alt.length) (r1 : Rds m a l 23 xs) (r2 : Rds m b l2 23 ys) (s1 : stsRep m body xs) (s2 : stsRep m alt ys) (B1 B2 B V : Bool)
  (hB : ∀ m', leM m m' → Ans 47 [.v (.slice a l cp), .v (.bool false)] m' (.bool B1)) (hA : ∀ m', leM m m' → Ans 47 [.v (.slice b l2 cp2), .v (.bool false)] m' (.bool B2)) (hBB : B = (B1 && B2))
  (e0 : V = ((emptyE ex || validE ex) && eqS (St.mk 6 nm ty tg ex body alt) (St.mk 6 [] zTy zE ex [] []))) : Ans 21 [.v (.agg ⟨Sd.cs ⟨6, nm, ty, tN, eN, a, l, cp, b, l2, cp2⟩⟩)] m (.bool V) := by
 have hQ : ∀ m', leM m m' → Ans 54 [.v (.agg ⟨Sd.cs ⟨6, nm, ty, tN, eN, a, l, cp, b, l2, cp2⟩⟩), .v (.agg ⟨Sd.cs ⟨6, [], zTy, zNd, eN, none, 0, 0, none, 0, 0⟩⟩)] m' (.bool (eqS (St.mk 6 nm ty tg ex body alt) (St.mk 6 [] zTy zE ex [] []))) := fun m' hle =>
  eqS_all _ _ _ _ _ m' (Nnr _) (st_mk (m := m') (⟨6, nm, ty, tN, eN, a, l, cp, b, l2, cp2⟩ : Sd) (exRep_upM hle htg) (exRep_upM hle hex) hl hcp hl2 hcp2 hok (Rds_upM hle r1) (Rds_upM hle r2) (stsRep_upM hle s1) (stsRep_upM hle s2))
   (st_mk (m := m') (⟨6, [], zTy, zNd, eN, none, 0, 0, none, 0, 0⟩ : Sd) z_rep (exRep_upM hle hex) rfl (Nnr _) rfl (Nnr _) ⟨hok.k, Nat.zero_le _, z_ok, Nat.zero_le _, Nat.zero_le _⟩ Rds_nil Rds_nil sts_nil sts_nil )
 have hX := fun m' (hle : leM m m') => valid_all _ ex eN.cs m' (Nnr _) (hg.upM hle) (exRep_upM hle hex)
 have hZ := fun m' (_ : leM m m') => empty_of hex m'
 clear s1 s2 r1 r2
 refine enter cfV puV Tryz.func21 rfl rfl (by kernel_rfl) rfl ?_ ?_
 ·simp only [go_sem, ↓tfi, ↓fti, ↓reduceIte, Sd.cs, Nd.cs, zNd, zTy, Int.reduceEq, decide_true, decide_false]
 ·simp only [go_sem, ↓tfi, ↓fti, ↓reduceIte, Sd.cs, Nd.cs, zNd, zTy, Int.reduceEq, decide_true, decide_false]
  refine cvl ((hB m (.inl rfl)).mono ?_)
  clear hB
  rintro r H' m1 hm1 ⟨l1, rfl, rfl⟩
  simp only [go_sem, ↓tfi, ↓fti, ↓reduceIte, Sd.cs, Nd.cs, zNd, zTy, Int.reduceEq, decide_true, decide_false]
  refine ⟨fun b1 => cvl ((hA m1 l1).mono ?_), fun b1 => ?_⟩
  ·clear hA
   rintro r H' m2 hm2 ⟨l2', rfl, rfl⟩
   have lm2 := leM_tr l1 l2'
   simp only [go_sem, ↓tfi, ↓fti, ↓reduceIte, Sd.cs, Nd.cs, zNd, zTy, Int.reduceEq, decide_true, decide_false]
   refine cvl ((FnH_den (hZ m2 lm2) (fun V => rfl)).mono ?_)
   clear hZ
   rintro r H' w1 hw1 ⟨lw1, rfl, rfl⟩
   simp only [go_sem, ↓tfi, ↓fti, ↓reduceIte, Sd.cs, Nd.cs, zNd, zTy, Int.reduceEq, decide_true, decide_false]
   refine ⟨fun c => ?_, fun c => ?_⟩
   ·refine cvl ((FnH_den (hX w1 (leM_tr lm2 lw1)) (fun V => rfl)).mono ?_)
    clear hX
    rintro r H' w2 hw2 ⟨lw2, rfl, rfl⟩
    simp only [go_sem, ↓tfi, ↓fti, ↓reduceIte, Sd.cs, Nd.cs, zNd, zTy, Int.reduceEq, decide_true, decide_false]
    refine ⟨fun c2 => ?_, fun c2 => ?_⟩
    ·refine cvl ((FnH_den (hQ w2 (leM_tr (leM_tr lm2 lw1) lw2)) (fun V => rfl)).mono ?_)
     clear hQ
     rintro r H' w3 hw3 ⟨lw3, rfl, rfl⟩
     simp only [go_sem, ↓tfi, ↓fti, ↓reduceIte, Sd.cs, Nd.cs, zNd, zTy, Int.reduceEq, decide_true, decide_false]
     refine ⟨leM_tr (leM_tr (leM_tr lm2 lw1) lw2) lw3, ?_⟩
     rw [e0, c, c2]
     rfl
    ·refine ⟨(leM_tr (leM_tr lm2 lw1) lw2), ?_⟩
     rw [e0, c, c2]
     rfl
   ·refine cvl ((FnH_den (hQ w1 (leM_tr lm2 lw1)) (fun V => rfl)).mono ?_)
    clear hQ
    rintro r H' w4 hw4 ⟨lw4, rfl, rfl⟩
    simp only [go_sem, ↓tfi, ↓fti, ↓reduceIte, Sd.cs, Nd.cs, zNd, zTy, Int.reduceEq, decide_true, decide_false]
    refine ⟨leM_tr (leM_tr lm2 lw1) lw4, ?_⟩
    rw [e0, c]
    rfl
  ·clear hA
   refine cvl ((FnH_den (hZ m1 l1) (fun V => rfl)).mono ?_)
   clear hZ
   rintro r H' w5 hw5 ⟨lw5, rfl, rfl⟩
   simp only [go_sem, ↓tfi, ↓fti, ↓reduceIte, Sd.cs, Nd.cs, zNd, zTy, Int.reduceEq, decide_true, decide_false]
   refine ⟨fun c => ?_, fun c => ?_⟩
   ·refine cvl ((FnH_den (hX w5 (leM_tr l1 lw5)) (fun V => rfl)).mono ?_)
    clear hX
    rintro r H' w6 hw6 ⟨lw6, rfl, rfl⟩
    simp only [go_sem, ↓tfi, ↓fti, ↓reduceIte, Sd.cs, Nd.cs, zNd, zTy, Int.reduceEq, decide_true, decide_false]
    refine ⟨fun c6 => ?_, fun c6 => ?_⟩
    ·refine cvl ((FnH_den (hQ w6 (leM_tr (leM_tr l1 lw5) lw6)) (fun V => rfl)).mono ?_)
     clear hQ
     rintro r H' w7 hw7 ⟨lw7, rfl, rfl⟩
     simp only [go_sem, ↓tfi, ↓fti, ↓reduceIte, Sd.cs, Nd.cs, zNd, zTy, Int.reduceEq, decide_true, decide_false]
     refine ⟨leM_tr (leM_tr (leM_tr l1 lw5) lw6) lw7, ?_⟩
     rw [e0, c, c6]
     rfl
    ·refine ⟨(leM_tr (leM_tr l1 lw5) lw6), ?_⟩
     rw [e0, c, c6]
     rfl
   ·refine cvl ((FnH_den (hQ w5 (leM_tr l1 lw5)) (fun V => rfl)).mono ?_)
    clear hQ
    rintro r H' w8 hw8 ⟨lw8, rfl, rfl⟩
    simp only [go_sem, ↓tfi, ↓fti, ↓reduceIte, Sd.cs, Nd.cs, zNd, zTy, Int.reduceEq, decide_true, decide_false]
    refine ⟨leM_tr (leM_tr l1 lw5) lw8, ?_⟩
    rw [e0, c]
    rfl
theorem vst7 (nm : List UInt8) (ty : Ty) (tN eN : Nd) (a : Option Addr) (l cp : Nat) (b : Option Addr) (l2 cp2 : Nat) (tg ex : Ex) (body alt : List St) (xs ys : List Value) (m : Mem) (hg : Glob m)
  (htg : exRep m tg tN.cs) (hex : exRep m ex eN.cs) (hl : l = body.length) (hcp : l ≤ cp) (hl2 : l2 = alt.length) (hcp2 : l2 ≤ cp2) (hok : StOk 7 nm ty body.length alt.length) (r1 : Rds m a l 23 xs) (r2 : Rds m b l2 23 ys) (s1 : stsRep m body xs) (s2 : stsRep m alt ys) (B1 B2 B V : Bool)
  (hB : ∀ m', leM m m' → Ans 47 [.v (.slice a l cp), .v (.bool false)] m' (.bool B1)) (hA : ∀ m', leM m m' → Ans 47 [.v (.slice b l2 cp2), .v (.bool false)] m' (.bool B2)) (hBB : B = (B1 && B2))
  (e0 : V = (validE ex && eqS (St.mk 7 nm ty tg ex body alt) (St.mk 7 [] zTy zE ex [] []))) : Ans 21 [.v (.agg ⟨Sd.cs ⟨7, nm, ty, tN, eN, a, l, cp, b, l2, cp2⟩⟩)] m (.bool V) := by
 have hQ : ∀ m', leM m m' → Ans 54 [.v (.agg ⟨Sd.cs ⟨7, nm, ty, tN, eN, a, l, cp, b, l2, cp2⟩⟩), .v (.agg ⟨Sd.cs ⟨7, [], zTy, zNd, eN, none, 0, 0, none, 0, 0⟩⟩)] m' (.bool (eqS (St.mk 7 nm ty tg ex body alt) (St.mk 7 [] zTy zE ex [] []))) := fun m' hle =>
  eqS_all _ _ _ _ _ m' (Nnr _) (st_mk (m := m') (⟨7, nm, ty, tN, eN, a, l, cp, b, l2, cp2⟩ : Sd) (exRep_upM hle htg) (exRep_upM hle hex) hl hcp hl2 hcp2 hok (Rds_upM hle r1) (Rds_upM hle r2) (stsRep_upM hle s1) (stsRep_upM hle s2))
   (st_mk (m := m') (⟨7, [], zTy, zNd, eN, none, 0, 0, none, 0, 0⟩ : Sd) z_rep (exRep_upM hle hex) rfl (Nnr _) rfl (Nnr _) ⟨hok.k, Nat.zero_le _, z_ok, Nat.zero_le _, Nat.zero_le _⟩ Rds_nil Rds_nil sts_nil sts_nil )
 have hX := fun m' (hle : leM m m') => valid_all _ ex eN.cs m' (Nnr _) (hg.upM hle) (exRep_upM hle hex)
 clear s1 s2 r1 r2
 refine enter cfV puV Tryz.func21 rfl rfl (by kernel_rfl) rfl ?_ ?_
 ·simp only [go_sem, ↓tfi, ↓fti, ↓reduceIte, Sd.cs, Nd.cs, zNd, zTy, Int.reduceEq, decide_true, decide_false]
 ·simp only [go_sem, ↓tfi, ↓fti, ↓reduceIte, Sd.cs, Nd.cs, zNd, zTy, Int.reduceEq, decide_true, decide_false]
  refine cvl ((hB m (.inl rfl)).mono ?_)
  clear hB
  rintro r H' m1 hm1 ⟨l1, rfl, rfl⟩
  simp only [go_sem, ↓tfi, ↓fti, ↓reduceIte, Sd.cs, Nd.cs, zNd, zTy, Int.reduceEq, decide_true, decide_false]
  refine ⟨fun b1 => cvl ((hA m1 l1).mono ?_), fun b1 => ?_⟩
  ·clear hA
   rintro r H' m2 hm2 ⟨l2', rfl, rfl⟩
   have lm2 := leM_tr l1 l2'
   simp only [go_sem, ↓tfi, ↓fti, ↓reduceIte, Sd.cs, Nd.cs, zNd, zTy, Int.reduceEq, decide_true, decide_false]
   refine cvl ((FnH_den (hX m2 lm2) (fun V => rfl)).mono ?_)
   clear hX
   rintro r H' w1 hw1 ⟨lw1, rfl, rfl⟩
   simp only [go_sem, ↓tfi, ↓fti, ↓reduceIte, Sd.cs, Nd.cs, zNd, zTy, Int.reduceEq, decide_true, decide_false]
   refine ⟨fun c1 => ?_, fun c1 => ?_⟩
   ·refine cvl ((FnH_den (hQ w1 (leM_tr lm2 lw1)) (fun V => rfl)).mono ?_)
    clear hQ
    rintro r H' w2 hw2 ⟨lw2, rfl, rfl⟩
    simp only [go_sem, ↓tfi, ↓fti, ↓reduceIte, Sd.cs, Nd.cs, zNd, zTy, Int.reduceEq, decide_true, decide_false]
    refine ⟨leM_tr (leM_tr lm2 lw1) lw2, ?_⟩
    rw [e0, c1]
    rfl
   ·refine ⟨(leM_tr lm2 lw1), ?_⟩
    rw [e0, c1]
    rfl
  ·clear hA
   refine cvl ((FnH_den (hX m1 l1) (fun V => rfl)).mono ?_)
   clear hX
   rintro r H' w3 hw3 ⟨lw3, rfl, rfl⟩
   simp only [go_sem, ↓tfi, ↓fti, ↓reduceIte, Sd.cs, Nd.cs, zNd, zTy, Int.reduceEq, decide_true, decide_false]
   refine ⟨fun c3 => ?_, fun c3 => ?_⟩
   ·refine cvl ((FnH_den (hQ w3 (leM_tr l1 lw3)) (fun V => rfl)).mono ?_)
    clear hQ
    rintro r H' w4 hw4 ⟨lw4, rfl, rfl⟩
    simp only [go_sem, ↓tfi, ↓fti, ↓reduceIte, Sd.cs, Nd.cs, zNd, zTy, Int.reduceEq, decide_true, decide_false]
    refine ⟨leM_tr (leM_tr l1 lw3) lw4, ?_⟩
    rw [e0, c3]
    rfl
   ·refine ⟨(leM_tr l1 lw3), ?_⟩
    rw [e0, c3]
    rfl
theorem vst8 (nm : List UInt8) (ty : Ty) (tN eN : Nd) (a : Option Addr) (l cp : Nat) (b : Option Addr) (l2 cp2 : Nat) (tg ex : Ex) (body alt : List St) (xs ys : List Value) (m : Mem) (hg : Glob m)
  (htg : exRep m tg tN.cs) (hex : exRep m ex eN.cs) (hl : l = body.length) (hcp : l ≤ cp) (hl2 : l2 = alt.length) (hcp2 : l2 ≤ cp2) (hok : StOk 8 nm ty body.length alt.length) (r1 : Rds m a l 23 xs) (r2 : Rds m b l2 23 ys) (s1 : stsRep m body xs) (s2 : stsRep m alt ys) (B1 B2 B V : Bool)
  (hB : ∀ m', leM m m' → Ans 47 [.v (.slice a l cp), .v (.bool false)] m' (.bool B1)) (hA : ∀ m', leM m m' → Ans 47 [.v (.slice b l2 cp2), .v (.bool false)] m' (.bool B2)) (hBB : B = (B1 && B2))
  (e0 : V = ((B && identL nm && valueTy ty.dim ty.base ty.name) && eqS (St.mk 8 nm ty tg ex body alt) (St.mk 8 nm ty zE zE body alt))) : Ans 21 [.v (.agg ⟨Sd.cs ⟨8, nm, ty, tN, eN, a, l, cp, b, l2, cp2⟩⟩)] m (.bool V) := by
 have hQ : ∀ m', leM m m' → Ans 54 [.v (.agg ⟨Sd.cs ⟨8, nm, ty, tN, eN, a, l, cp, b, l2, cp2⟩⟩), .v (.agg ⟨Sd.cs ⟨8, nm, ty, zNd, zNd, a, l, cp, b, l2, cp2⟩⟩)] m' (.bool (eqS (St.mk 8 nm ty tg ex body alt) (St.mk 8 nm ty zE zE body alt))) := fun m' hle =>
  eqS_all _ _ _ _ _ m' (Nnr _) (st_mk (m := m') (⟨8, nm, ty, tN, eN, a, l, cp, b, l2, cp2⟩ : Sd) (exRep_upM hle htg) (exRep_upM hle hex) hl hcp hl2 hcp2 hok (Rds_upM hle r1) (Rds_upM hle r2) (stsRep_upM hle s1) (stsRep_upM hle s2))
   (st_mk (m := m') (⟨8, nm, ty, zNd, zNd, a, l, cp, b, l2, cp2⟩ : Sd) z_rep z_rep hl hcp hl2 hcp2 ⟨hok.k, hok.nm, hok.ty, hok.l, hok.l2⟩ (Rds_upM hle r1) (Rds_upM hle r2) (stsRep_upM hle s1) (stsRep_upM hle s2) )
 have hBL1 : BL nm := Nat.le_trans hok.nm (by decide)
 have hBL2 : BL ty.name := Nat.le_trans hok.ty.2.2 (by decide)
 clear s1 s2 r1 r2
 refine enter cfV puV Tryz.func21 rfl rfl (by kernel_rfl) rfl ?_ ?_
 ·simp only [go_sem, ↓tfi, ↓fti, ↓reduceIte, Sd.cs, Nd.cs, zNd, zTy, Int.reduceEq, decide_true, decide_false]
 ·simp only [go_sem, ↓tfi, ↓fti, ↓reduceIte, Sd.cs, Nd.cs, zNd, zTy, Int.reduceEq, decide_true, decide_false]
  refine cvl ((hB m (.inl rfl)).mono ?_)
  clear hB
  rintro r H' m1 hm1 ⟨l1, rfl, rfl⟩
  simp only [go_sem, ↓tfi, ↓fti, ↓reduceIte, Sd.cs, Nd.cs, zNd, zTy, Int.reduceEq, decide_true, decide_false]
  refine ⟨fun b1 => cvl ((hA m1 l1).mono ?_), fun b1 => ?_⟩
  ·clear hA
   rintro r H' m2 hm2 ⟨l2', rfl, rfl⟩
   have lm2 := leM_tr l1 l2'
   simp only [go_sem, ↓tfi, ↓fti, ↓reduceIte, Sd.cs, Nd.cs, zNd, zTy, Int.reduceEq, decide_true, decide_false]
   refine ⟨fun _ => hBL1, fun _ => hBL2, fun c => ?_, fun c => ?_⟩
   ·refine cvl ((FnH_den (hQ m2 lm2) (fun V => rfl)).mono ?_)
    clear hQ
    rintro r H' w1 hw1 ⟨lw1, rfl, rfl⟩
    simp only [go_sem, ↓tfi, ↓fti, ↓reduceIte, Sd.cs, Nd.cs, zNd, zTy, Int.reduceEq, decide_true, decide_false]
    refine ⟨leM_tr lm2 lw1, ?_⟩
    rw [e0, hBB, b1, c.1.1, c.1.2, c.2]
    rfl
   ·refine ⟨lm2, ?_⟩
    rw [e0, hBB, b1]
    rcases c with (c | c) | c <;> simp [c]
  ·clear hA
   refine ⟨l1, ?_⟩
   rw [e0, hBB, b1]
   rfl
theorem vst9 (nm : List UInt8) (ty : Ty) (tN eN : Nd) (a : Option Addr) (l cp : Nat) (b : Option Addr) (l2 cp2 : Nat) (tg ex : Ex) (body alt : List St) (xs ys : List Value) (m : Mem) (hg : Glob m)
  (htg : exRep m tg tN.cs) (hex : exRep m ex eN.cs) (hl : l = body.length) (hcp : l ≤ cp) (hl2 : l2 = alt.length) (hcp2 : l2 ≤ cp2) (hok : StOk 9 nm ty body.length alt.length) (r1 : Rds m a l 23 xs) (r2 : Rds m b l2 23 ys) (s1 : stsRep m body xs) (s2 : stsRep m alt ys) (B1 B2 B V : Bool)
  (hB : ∀ m', leM m m' → Ans 47 [.v (.slice a l cp), .v (.bool false)] m' (.bool B1)) (hA : ∀ m', leM m m' → Ans 47 [.v (.slice b l2 cp2), .v (.bool false)] m' (.bool B2)) (hBB : B = (B1 && B2))
  (e0 : V = ((B && validE ex) && eqS (St.mk 9 nm ty tg ex body alt) (St.mk 9 [] zTy zE ex body []))) : Ans 21 [.v (.agg ⟨Sd.cs ⟨9, nm, ty, tN, eN, a, l, cp, b, l2, cp2⟩⟩)] m (.bool V) := by
 have hQ : ∀ m', leM m m' → Ans 54 [.v (.agg ⟨Sd.cs ⟨9, nm, ty, tN, eN, a, l, cp, b, l2, cp2⟩⟩), .v (.agg ⟨Sd.cs ⟨9, [], zTy, zNd, eN, a, l, cp, none, 0, 0⟩⟩)] m' (.bool (eqS (St.mk 9 nm ty tg ex body alt) (St.mk 9 [] zTy zE ex body []))) := fun m' hle =>
  eqS_all _ _ _ _ _ m' (Nnr _) (st_mk (m := m') (⟨9, nm, ty, tN, eN, a, l, cp, b, l2, cp2⟩ : Sd) (exRep_upM hle htg) (exRep_upM hle hex) hl hcp hl2 hcp2 hok (Rds_upM hle r1) (Rds_upM hle r2) (stsRep_upM hle s1) (stsRep_upM hle s2))
   (st_mk (m := m') (⟨9, [], zTy, zNd, eN, a, l, cp, none, 0, 0⟩ : Sd) z_rep (exRep_upM hle hex) hl hcp rfl (Nnr _) ⟨hok.k, Nat.zero_le _, z_ok, hok.l, Nat.zero_le _⟩ (Rds_upM hle r1) Rds_nil (stsRep_upM hle s1) sts_nil )
 have hX := fun m' (hle : leM m m') => valid_all _ ex eN.cs m' (Nnr _) (hg.upM hle) (exRep_upM hle hex)
 clear s1 s2 r1 r2
 refine enter cfV puV Tryz.func21 rfl rfl (by kernel_rfl) rfl ?_ ?_
 ·simp only [go_sem, ↓tfi, ↓fti, ↓reduceIte, Sd.cs, Nd.cs, zNd, zTy, Int.reduceEq, decide_true, decide_false]
 ·simp only [go_sem, ↓tfi, ↓fti, ↓reduceIte, Sd.cs, Nd.cs, zNd, zTy, Int.reduceEq, decide_true, decide_false]
  refine cvl ((hB m (.inl rfl)).mono ?_)
  clear hB
  rintro r H' m1 hm1 ⟨l1, rfl, rfl⟩
  simp only [go_sem, ↓tfi, ↓fti, ↓reduceIte, Sd.cs, Nd.cs, zNd, zTy, Int.reduceEq, decide_true, decide_false]
  refine ⟨fun b1 => cvl ((hA m1 l1).mono ?_), fun b1 => ?_⟩
  ·clear hA
   rintro r H' m2 hm2 ⟨l2', rfl, rfl⟩
   have lm2 := leM_tr l1 l2'
   simp only [go_sem, ↓tfi, ↓fti, ↓reduceIte, Sd.cs, Nd.cs, zNd, zTy, Int.reduceEq, decide_true, decide_false]
   refine ⟨fun b2 => ?_, fun b2 => ?_⟩
   ·refine cvl ((FnH_den (hX m2 lm2) (fun V => rfl)).mono ?_)
    clear hX
    rintro r H' w1 hw1 ⟨lw1, rfl, rfl⟩
    simp only [go_sem, ↓tfi, ↓fti, ↓reduceIte, Sd.cs, Nd.cs, zNd, zTy, Int.reduceEq, decide_true, decide_false]
    refine ⟨fun c1 => ?_, fun c1 => ?_⟩
    ·refine cvl ((FnH_den (hQ w1 (leM_tr lm2 lw1)) (fun V => rfl)).mono ?_)
     clear hQ
     rintro r H' w2 hw2 ⟨lw2, rfl, rfl⟩
     simp only [go_sem, ↓tfi, ↓fti, ↓reduceIte, Sd.cs, Nd.cs, zNd, zTy, Int.reduceEq, decide_true, decide_false]
     refine ⟨leM_tr (leM_tr lm2 lw1) lw2, ?_⟩
     rw [e0, hBB, b1, b2, c1]
     rfl
    ·refine ⟨(leM_tr lm2 lw1), ?_⟩
     rw [e0, hBB, b1, b2, c1]
     rfl
   ·refine ⟨lm2, ?_⟩
    rw [e0, hBB, b1, b2]
    rfl
  ·clear hA
   refine ⟨l1, ?_⟩
   rw [e0, hBB, b1]
   rfl
theorem vst10 (nm : List UInt8) (ty : Ty) (tN eN : Nd) (a : Option Addr) (l cp : Nat) (b : Option Addr) (l2 cp2 : Nat) (tg ex : Ex) (body alt : List St) (xs ys : List Value) (m : Mem) (hg : Glob m)
  (htg : exRep m tg tN.cs) (hex : exRep m ex eN.cs) (hl : l = body.length) (hcp : l ≤ cp) (hl2 : l2 = alt.length) (hcp2 : l2 ≤ cp2) (hok : StOk 10 nm ty body.length alt.length) (r1 : Rds m a l 23 xs) (r2 : Rds m b l2 23 ys) (s1 : stsRep m body xs) (s2 : stsRep m alt ys) (B1 B2 B V : Bool)
  (hB : ∀ m', leM m m' → Ans 47 [.v (.slice a l cp), .v (.bool false)] m' (.bool B1)) (hA : ∀ m', leM m m' → Ans 47 [.v (.slice b l2 cp2), .v (.bool false)] m' (.bool B2)) (hBB : B = (B1 && B2))
  (e0 : V = (B && eqS (St.mk 10 nm ty tg ex body alt) (St.mk 10 [] zTy zE zE body []))) : Ans 21 [.v (.agg ⟨Sd.cs ⟨10, nm, ty, tN, eN, a, l, cp, b, l2, cp2⟩⟩)] m (.bool V) := by
 have hQ : ∀ m', leM m m' → Ans 54 [.v (.agg ⟨Sd.cs ⟨10, nm, ty, tN, eN, a, l, cp, b, l2, cp2⟩⟩), .v (.agg ⟨Sd.cs ⟨10, [], zTy, zNd, zNd, a, l, cp, none, 0, 0⟩⟩)] m' (.bool (eqS (St.mk 10 nm ty tg ex body alt) (St.mk 10 [] zTy zE zE body []))) := fun m' hle =>
  eqS_all _ _ _ _ _ m' (Nnr _) (st_mk (m := m') (⟨10, nm, ty, tN, eN, a, l, cp, b, l2, cp2⟩ : Sd) (exRep_upM hle htg) (exRep_upM hle hex) hl hcp hl2 hcp2 hok (Rds_upM hle r1) (Rds_upM hle r2) (stsRep_upM hle s1) (stsRep_upM hle s2))
   (st_mk (m := m') (⟨10, [], zTy, zNd, zNd, a, l, cp, none, 0, 0⟩ : Sd) z_rep z_rep hl hcp rfl (Nnr _) ⟨hok.k, Nat.zero_le _, z_ok, hok.l, Nat.zero_le _⟩ (Rds_upM hle r1) Rds_nil (stsRep_upM hle s1) sts_nil )
 clear s1 s2 r1 r2
 refine enter cfV puV Tryz.func21 rfl rfl (by kernel_rfl) rfl ?_ ?_
 ·simp only [go_sem, ↓tfi, ↓fti, ↓reduceIte, Sd.cs, Nd.cs, zNd, zTy, Int.reduceEq, decide_true, decide_false]
 ·simp only [go_sem, ↓tfi, ↓fti, ↓reduceIte, Sd.cs, Nd.cs, zNd, zTy, Int.reduceEq, decide_true, decide_false]
  refine cvl ((hB m (.inl rfl)).mono ?_)
  clear hB
  rintro r H' m1 hm1 ⟨l1, rfl, rfl⟩
  simp only [go_sem, ↓tfi, ↓fti, ↓reduceIte, Sd.cs, Nd.cs, zNd, zTy, Int.reduceEq, decide_true, decide_false]
  refine ⟨fun b1 => cvl ((hA m1 l1).mono ?_), fun b1 => ?_⟩
  ·clear hA
   rintro r H' m2 hm2 ⟨l2', rfl, rfl⟩
   have lm2 := leM_tr l1 l2'
   simp only [go_sem, ↓tfi, ↓fti, ↓reduceIte, Sd.cs, Nd.cs, zNd, zTy, Int.reduceEq, decide_true, decide_false]
   refine ⟨fun b2 => ?_, fun b2 => ?_⟩
   ·refine cvl ((FnH_den (hQ m2 lm2) (fun V => rfl)).mono ?_)
    clear hQ
    rintro r H' w1 hw1 ⟨lw1, rfl, rfl⟩
    simp only [go_sem, ↓tfi, ↓fti, ↓reduceIte, Sd.cs, Nd.cs, zNd, zTy, Int.reduceEq, decide_true, decide_false]
    refine ⟨leM_tr lm2 lw1, ?_⟩
    rw [e0, hBB, b1, b2]
    rfl
   ·refine ⟨lm2, ?_⟩
    rw [e0, hBB, b1, b2]
    rfl
  ·clear hA
   refine ⟨l1, ?_⟩
   rw [e0, hBB, b1]
   rfl
theorem vst11 (nm : List UInt8) (ty : Ty) (tN eN : Nd) (a : Option Addr) (l cp : Nat) (b : Option Addr) (l2 cp2 : Nat) (tg ex : Ex) (body alt : List St) (xs ys : List Value) (m : Mem) (hg : Glob m)
  (htg : exRep m tg tN.cs) (hex : exRep m ex eN.cs) (hl : l = body.length) (hcp : l ≤ cp) (hl2 : l2 = alt.length) (hcp2 : l2 ≤ cp2) (hok : StOk 11 nm ty body.length alt.length) (r1 : Rds m a l 23 xs) (r2 : Rds m b l2 23 ys) (s1 : stsRep m body xs) (s2 : stsRep m alt ys) (B1 B2 B V : Bool)
  (hB : ∀ m', leM m m' → Ans 47 [.v (.slice a l cp), .v (.bool false)] m' (.bool B1)) (hA : ∀ m', leM m m' → Ans 47 [.v (.slice b l2 cp2), .v (.bool false)] m' (.bool B2)) (hBB : B = (B1 && B2))
  (e0 : V = (superE ex && eqS (St.mk 11 nm ty tg ex body alt) (St.mk 11 [] zTy zE ex [] []))) : Ans 21 [.v (.agg ⟨Sd.cs ⟨11, nm, ty, tN, eN, a, l, cp, b, l2, cp2⟩⟩)] m (.bool V) := by
 have hQ : ∀ m', leM m m' → Ans 54 [.v (.agg ⟨Sd.cs ⟨11, nm, ty, tN, eN, a, l, cp, b, l2, cp2⟩⟩), .v (.agg ⟨Sd.cs ⟨11, [], zTy, zNd, eN, none, 0, 0, none, 0, 0⟩⟩)] m' (.bool (eqS (St.mk 11 nm ty tg ex body alt) (St.mk 11 [] zTy zE ex [] []))) := fun m' hle =>
  eqS_all _ _ _ _ _ m' (Nnr _) (st_mk (m := m') (⟨11, nm, ty, tN, eN, a, l, cp, b, l2, cp2⟩ : Sd) (exRep_upM hle htg) (exRep_upM hle hex) hl hcp hl2 hcp2 hok (Rds_upM hle r1) (Rds_upM hle r2) (stsRep_upM hle s1) (stsRep_upM hle s2))
   (st_mk (m := m') (⟨11, [], zTy, zNd, eN, none, 0, 0, none, 0, 0⟩ : Sd) z_rep (exRep_upM hle hex) rfl (Nnr _) rfl (Nnr _) ⟨hok.k, Nat.zero_le _, z_ok, Nat.zero_le _, Nat.zero_le _⟩ Rds_nil Rds_nil sts_nil sts_nil )
 have hX := fun m' (hle : leM m m') => super_spec ex eN.cs m' (hg.upM hle) (exRep_upM hle hex)
 clear s1 s2 r1 r2
 refine enter cfV puV Tryz.func21 rfl rfl (by kernel_rfl) rfl ?_ ?_
 ·simp only [go_sem, ↓tfi, ↓fti, ↓reduceIte, Sd.cs, Nd.cs, zNd, zTy, Int.reduceEq, decide_true, decide_false]
 ·simp only [go_sem, ↓tfi, ↓fti, ↓reduceIte, Sd.cs, Nd.cs, zNd, zTy, Int.reduceEq, decide_true, decide_false]
  refine cvl ((hB m (.inl rfl)).mono ?_)
  clear hB
  rintro r H' m1 hm1 ⟨l1, rfl, rfl⟩
  simp only [go_sem, ↓tfi, ↓fti, ↓reduceIte, Sd.cs, Nd.cs, zNd, zTy, Int.reduceEq, decide_true, decide_false]
  refine ⟨fun b1 => cvl ((hA m1 l1).mono ?_), fun b1 => ?_⟩
  ·clear hA
   rintro r H' m2 hm2 ⟨l2', rfl, rfl⟩
   have lm2 := leM_tr l1 l2'
   simp only [go_sem, ↓tfi, ↓fti, ↓reduceIte, Sd.cs, Nd.cs, zNd, zTy, Int.reduceEq, decide_true, decide_false]
   refine cvl ((FnH_den (hX m2 lm2) (fun V => rfl)).mono ?_)
   clear hX
   rintro r H' w1 hw1 ⟨lw1, rfl, rfl⟩
   simp only [go_sem, ↓tfi, ↓fti, ↓reduceIte, Sd.cs, Nd.cs, zNd, zTy, Int.reduceEq, decide_true, decide_false]
   refine ⟨fun c1 => ?_, fun c1 => ?_⟩
   ·refine cvl ((FnH_den (hQ w1 (leM_tr lm2 lw1)) (fun V => rfl)).mono ?_)
    clear hQ
    rintro r H' w2 hw2 ⟨lw2, rfl, rfl⟩
    simp only [go_sem, ↓tfi, ↓fti, ↓reduceIte, Sd.cs, Nd.cs, zNd, zTy, Int.reduceEq, decide_true, decide_false]
    refine ⟨leM_tr (leM_tr lm2 lw1) lw2, ?_⟩
    rw [e0, c1]
    rfl
   ·refine ⟨(leM_tr lm2 lw1), ?_⟩
    rw [e0, c1]
    rfl
  ·clear hA
   refine cvl ((FnH_den (hX m1 l1) (fun V => rfl)).mono ?_)
   clear hX
   rintro r H' w3 hw3 ⟨lw3, rfl, rfl⟩
   simp only [go_sem, ↓tfi, ↓fti, ↓reduceIte, Sd.cs, Nd.cs, zNd, zTy, Int.reduceEq, decide_true, decide_false]
   refine ⟨fun c3 => ?_, fun c3 => ?_⟩
   ·refine cvl ((FnH_den (hQ w3 (leM_tr l1 lw3)) (fun V => rfl)).mono ?_)
    clear hQ
    rintro r H' w4 hw4 ⟨lw4, rfl, rfl⟩
    simp only [go_sem, ↓tfi, ↓fti, ↓reduceIte, Sd.cs, Nd.cs, zNd, zTy, Int.reduceEq, decide_true, decide_false]
    refine ⟨leM_tr (leM_tr l1 lw3) lw4, ?_⟩
    rw [e0, c3]
    rfl
   ·refine ⟨(leM_tr l1 lw3), ?_⟩
    rw [e0, c3]
    rfl
theorem vst0 (k : Int) (nm : List UInt8) (ty : Ty) (tN eN : Nd) (a : Option Addr) (l cp : Nat) (b : Option Addr) (l2 cp2 : Nat) (m : Mem) (B1 B2 : Bool) (e : ∀ j : Int, 1 ≤ j → j ≤ 11 → (k = j) = False)
  (hB : ∀ m', leM m m' → Ans 47 [.v (.slice a l cp), .v (.bool false)] m' (.bool B1)) (hA : ∀ m', leM m m' → Ans 47 [.v (.slice b l2 cp2), .v (.bool false)] m' (.bool B2)) :
  Ans 21 [.v (.agg ⟨Sd.cs ⟨k, nm, ty, tN, eN, a, l, cp, b, l2, cp2⟩⟩)] m (.bool false) := by
 have e1 := e 1 (by decide) (by decide)
 have e2 := e 2 (by decide) (by decide)
 have e3 := e 3 (by decide) (by decide)
 have e4 := e 4 (by decide) (by decide)
 have e5 := e 5 (by decide) (by decide)
 have e6 := e 6 (by decide) (by decide)
 have e7 := e 7 (by decide) (by decide)
 have e8 := e 8 (by decide) (by decide)
 have e9 := e 9 (by decide) (by decide)
 have e10 := e 10 (by decide) (by decide)
 have e11 := e 11 (by decide) (by decide)
 refine enter cfV puV Tryz.func21 rfl rfl (by kernel_rfl) rfl ?_ ?_
 ·simp only [go_sem, ↓tfi, ↓fti, ↓reduceIte, Sd.cs, Nd.cs]
 ·simp only [go_sem, ↓tfi, ↓fti, ↓reduceIte, Sd.cs, Nd.cs]
  refine cvl ((hB m (.inl rfl)).mono ?_)
  clear hB
  rintro r H' m1 hm1 ⟨l1, rfl, rfl⟩
  simp only [go_sem, ↓tfi, ↓fti, ↓reduceIte, Sd.cs, Nd.cs, e1, e2, e3, e4, e5, e6, e7, e8, e9, e10, e11, decide_false]
  refine ⟨fun b1 => cvl ((hA m1 l1).mono ?_), fun b1 => l1⟩
  clear hA
  rintro r H' m2 hm2 ⟨l2', rfl, rfl⟩
  simp only [go_sem, ↓tfi, ↓fti, ↓reduceIte, Sd.cs, Nd.cs, e1, e2, e3, e4, e5, e6, e7, e8, e9, e10, e11, decide_false]
  exact leM_tr l1 l2'
theorem kinds_or {k : Int} : (k = 1 ∨ k = 2 ∨ k = 3 ∨ k = 4 ∨ k = 5 ∨ k = 6 ∨ k = 7 ∨ k = 8 ∨ k = 9 ∨ k = 10 ∨ k = 11) ∨ ∀ j : Int, 1 ≤ j → j ≤ 11 → (k = j) = False := by
 by_cases h : 1 ≤ k ∧ k ≤ 11
 ·left; omega
 ·right; intro j h1 h2; exact eq_false fun e => h (by omega)
theorem validS_all : ∀ (h : Nat) (e : St) (cs : List Value) (m : Mem), depthS e ≤ h → Glob m → stRep m e cs → Ans 21 [.v (.agg ⟨cs⟩)] m (.bool (validS e))
 | 0, .mk k nm ty tg ex body alt, cs, m, hd, _, _ => by simp [depthS] at hd
 | h + 1, .mk k nm ty tg ex body alt, cs, m, hd, hg, he => by
  obtain ⟨⟨k, nm, ty, tN, eN, a, l, cp, b, l2, cp2⟩, rfl, rfl, rfl, rfl, htg, hex, hl, hcp, hl2, hcp2, hok, xs, ys, r1, r2, s1, s2⟩ := st_parts he
  simp only [depthS] at hd
  simp only at htg hex hl hcp hl2 hcp2 hok r1 r2
  have hB := fun m' (hle : leM m m') => block_spec false body a l cp xs m' hl (Rds_upM hle r1) (stsRep_upM hle s1) (by rw [hl]; exact hok.l) fun e he cs m2 hle2 hrep => validS_all h e cs m2 (by have := depthSs_mem he; omega) (hg.upM (leM_tr hle hle2)) hrep
  have hA := fun m' (hle : leM m m') => block_spec false alt b l2 cp2 ys m' hl2 (Rds_upM hle r2) (stsRep_upM hle s2) (by rw [hl2]; exact hok.l2) fun e he cs m2 hle2 hrep => validS_all h e cs m2 (by have := depthSs_mem he; omega) (hg.upM (leM_tr hle hle2)) hrep
  simp only
  rcases kinds_or (k := k) with hk | hk
  ·rcases hk with rfl | rfl | rfl | rfl | rfl | rfl | rfl | rfl | rfl | rfl | rfl
   ·exact vst1 nm ty tN eN a l cp b l2 cp2 tg ex body alt xs ys m hg htg hex hl hcp hl2 hcp2 hok r1 r2 s1 s2 _ _ _ _ hB hA rfl (by simp only [validS, okStm, usedS, Int.reduceEq, or_false, or_true, false_or, true_or, if_true, if_false])
   ·exact vst2 nm ty tN eN a l cp b l2 cp2 tg ex body alt xs ys m hg htg hex hl hcp hl2 hcp2 hok r1 r2 s1 s2 _ _ _ _ hB hA rfl (by simp only [validS, okStm, usedS, Int.reduceEq, or_false, or_true, false_or, true_or, if_true, if_false])
   ·exact vst3 nm ty tN eN a l cp b l2 cp2 tg ex body alt xs ys m hg htg hex hl hcp hl2 hcp2 hok r1 r2 s1 s2 _ _ _ _ hB hA rfl (by simp only [validS, okStm, usedS, Int.reduceEq, or_false, or_true, false_or, true_or, if_true, if_false])
   ·exact vst4 nm ty tN eN a l cp b l2 cp2 tg ex body alt xs ys m hg htg hex hl hcp hl2 hcp2 hok r1 r2 s1 s2 _ _ _ _ hB hA rfl (by simp only [validS, okStm, usedS, Int.reduceEq, or_false, or_true, false_or, true_or, if_true, if_false])
   ·exact vst5 nm ty tN eN a l cp b l2 cp2 tg ex body alt xs ys m hg htg hex hl hcp hl2 hcp2 hok r1 r2 s1 s2 _ _ _ _ hB hA rfl (by simp only [validS, okStm, usedS, Int.reduceEq, or_false, or_true, false_or, true_or, if_true, if_false])
   ·exact vst6 nm ty tN eN a l cp b l2 cp2 tg ex body alt xs ys m hg htg hex hl hcp hl2 hcp2 hok r1 r2 s1 s2 _ _ _ _ hB hA rfl (by simp only [validS, okStm, usedS, Int.reduceEq, or_false, or_true, false_or, true_or, if_true, if_false])
   ·exact vst7 nm ty tN eN a l cp b l2 cp2 tg ex body alt xs ys m hg htg hex hl hcp hl2 hcp2 hok r1 r2 s1 s2 _ _ _ _ hB hA rfl (by simp only [validS, okStm, usedS, Int.reduceEq, or_false, or_true, false_or, true_or, if_true, if_false])
   ·exact vst8 nm ty tN eN a l cp b l2 cp2 tg ex body alt xs ys m hg htg hex hl hcp hl2 hcp2 hok r1 r2 s1 s2 _ _ _ _ hB hA rfl (by simp only [validS, okStm, usedS, Int.reduceEq, or_false, or_true, false_or, true_or, if_true, if_false])
   ·exact vst9 nm ty tN eN a l cp b l2 cp2 tg ex body alt xs ys m hg htg hex hl hcp hl2 hcp2 hok r1 r2 s1 s2 _ _ _ _ hB hA rfl (by simp only [validS, okStm, usedS, Int.reduceEq, or_false, or_true, false_or, true_or, if_true, if_false])
   ·exact vst10 nm ty tN eN a l cp b l2 cp2 tg ex body alt xs ys m hg htg hex hl hcp hl2 hcp2 hok r1 r2 s1 s2 _ _ _ _ hB hA rfl (by simp only [validS, okStm, usedS, Int.reduceEq, or_false, or_true, false_or, true_or, if_true, if_false])
   ·exact vst11 nm ty tN eN a l cp b l2 cp2 tg ex body alt xs ys m hg htg hex hl hcp hl2 hcp2 hok r1 r2 s1 s2 _ _ _ _ hB hA rfl (by simp only [validS, okStm, usedS, Int.reduceEq, or_false, or_true, false_or, true_or, if_true, if_false])
  ·have hv := vst0 k nm ty tN eN a l cp b l2 cp2 m _ _ hk hB hA
   have : validS (.mk k nm ty tg ex body alt) = false := by
    have e : ∀ j : Int, 1 ≤ j → j ≤ 11 → ¬ k = j := fun j h1 h2 h3 => by have := hk j h1 h2; rw [this] at h3; exact h3
    simp only [validS, okStm, hk 1 (by decide) (by decide), hk 2 (by decide) (by decide), hk 3 (by decide) (by decide), hk 4 (by decide) (by decide), hk 5 (by decide) (by decide), hk 6 (by decide) (by decide), hk 7 (by decide) (by decide), hk 8 (by decide) (by decide), hk 9 (by decide) (by decide), hk 10 (by decide) (by decide), hk 11 (by decide) (by decide), or_false, if_false, Bool.false_and]
   rw [this]
   exact hv
theorem block_all (sup : Bool) (l : List St) (a : Option Addr) (n c : Nat) (xs : List Value) (m : Mem) (hg : Glob m) (hl : n = l.length) (hr : Rds m a n 23 xs) (hs : stsRep m l xs) (hn : n ≤ big) :
  Ans 47 [.v (.slice a n c), .v (.bool sup)] m (.bool (blockL sup l)) :=
 block_spec sup l a n c xs m hl hr hs hn fun e _ cs m' hle hrep => validS_all _ e cs m' (Nnr _) (hg.upM hle) hrep
def hasB (fl m : Int) : Bool := !decide (bits .and .i64 fl m = 0)
def visL (fl : Int) : Bool := decide (bits .and .i64 fl 7 = 0) || decide (bits .and .i64 fl 7 = 1) || decide (bits .and .i64 fl 7 = 2) || decide (bits .and .i64 fl 7 = 4)
def onlyL (fl al : Int) : Bool := decide (bits .andNot .i64 fl al = 0)
def mflagsL (fl : Int) : Bool := visL fl && onlyL fl 1087 && !(hasB fl 1024 && hasB fl 58) && (!hasB fl 32 || !hasB fl 8)
def fieldL (f : Fc) : Bool := valueTy f.ty.dim f.ty.base f.ty.name && identL f.name && visL f.fl && onlyL f.fl 31
def paramL (p : Pc) : Bool := valueTy p.ty.dim p.ty.base p.ty.name && identL p.name
def voidTy (t : Ty) : Bool := decide (t.dim = 0) && (decide (t.base = 86) && decide (t.name = []))
def mHead (m : Md) : Bool := if m.name = initS then voidTy m.res && m.hb && onlyL m.fl 7 else identL m.name && (voidTy m.res || valueTy m.res.dim m.res.base m.res.name)
def mMid (m : Md) : Bool := mflagsL m.fl && !(m.hb == hasB m.fl 1024) && (m.hb || decide (m.body.length = 0)) && decide (m.params.length ≤ 16)
def methodL (m : Md) : Bool := mHead m && mMid m && !(m.params.any fun p => !paramL p) && blockL (decide (m.name = initS)) m.body
def objS : List UInt8 := [108, 97, 110, 103, 47, 79, 98, 106, 101, 99, 116]
def badM (m : Md) : Bool := !decide (m.fl = 1) && !decide (m.fl = 1025) || decide (m.name = initS)
def ifaceL (d : Cd) : Bool := onlyL d.fl 1537 && hasB d.fl 1024 && decide (d.super = objS) && decide (d.fields.length + d.init.length = 0) && !(d.methods.any badM)
def cHead (d : Cd) : Bool := if hasB d.fl 512 = true then ifaceL d else onlyL d.fl 1041 && !(hasB d.fl 16 && hasB d.fl 1024)
def cNames (d : Cd) : Bool := isCls d.name && isCls d.super && decide (d.ifs.length ≤ 8)
def cLens (d : Cd) : Bool := decide (d.fields.length ≤ 64) && decide (d.methods.length ≤ 64)
def classL (d : Cd) : Bool := cHead d && (cNames d && !(d.ifs.any fun s => !isCls s) && cLens d && !(d.fields.any fun f => !fieldL f) && !(d.methods.any fun f => !methodL f) && blockL false d.init)
def pI1 (F : Int → Bool) : List Value → Option (Prop × Value)
 | [.int .i64 c] => some (True, .bool (F c))
 | _ => none
theorem pureI1 {P : Program} {f : FuncId} {F : Int → Bool} (h : ∀ c m, FnH P f [.v (.int .i64 c)] ⟨[], []⟩ m fun r H' _ => r = .v (.bool (F c)) ∧ H' = ⟨[], []⟩) : Pure0 P f (pI1 F) := fun vals y hy _ m => by
 unfold pI1 at hy
 split at hy
 ·cases hy; exact h _ m
 ·cases hy
def pI2 (F : Int → Int → Bool) : List Value → Option (Prop × Value)
 | [.int .i64 c, .int .i64 d] => some (True, .bool (F c d))
 | _ => none
theorem pureI2 {P : Program} {f : FuncId} {F : Int → Int → Bool} (h : ∀ c d m, FnH P f [.v (.int .i64 c), .v (.int .i64 d)] ⟨[], []⟩ m fun r H' _ => r = .v (.bool (F c d)) ∧ H' = ⟨[], []⟩) : Pure0 P f (pI2 F) := fun vals y hy _ m => by
 unfold pI2 at hy
 split at hy
 ·cases hy; exact h _ _ m
 ·cases hy
attribute [go_sem] pI1 pI2
theorem vis_spec (fl : Int) (m : Mem) : FnH Tryz.prog 144 [.v (.int .i64 fl)] ⟨[], []⟩ m fun r H' _ => r = .v (.bool (visL fl)) ∧ H' = ⟨[], []⟩ := by
 refine enter cfN puN Tryz.func144 rfl rfl (by kernel_rfl) rfl ?_ ?_
 ·simp only [go_sem, ↓tfi, ↓fti, ↓reduceIte]
 ·simp only [go_sem, ↓tfi, ↓fti, ↓reduceIte]
  refine ⟨fun a => ⟨fun _ => by simp [visL, a], fun n => absurd a n⟩, fun a => ⟨fun b => ⟨fun _ => by simp [visL, b], fun n => absurd b n⟩, fun b => ⟨fun c => ⟨fun _ => by simp [visL, c], fun n => absurd c n⟩, fun c => ⟨fun d => by simp [visL, d], fun d => by simp [visL, a, b, c, d]⟩⟩⟩⟩
theorem only_spec (fl al : Int) (m : Mem) : FnH Tryz.prog 65 [.v (.int .i64 fl), .v (.int .i64 al)] ⟨[], []⟩ m fun r H' _ => r = .v (.bool (onlyL fl al)) ∧ H' = ⟨[], []⟩ := by
 refine enter cfN puN Tryz.func65 rfl rfl (by kernel_rfl) rfl ?_ ?_
 ·simp only [go_sem, ↓tfi, ↓fti, ↓reduceIte]
 ·simp only [go_sem, ↓tfi, ↓fti, ↓reduceIte]
  rfl
abbrev cfF : Cfg := mkCf (fun _ => false) [(144, pI1 visL), (65, pI2 onlyL), (48, pS1 BL fun s => .bool (identL s)), (49, pTy valueTy), (67, pS1 BL fun s => .bool (isCls s))]
theorem puF : PureOk cfF Tryz.prog := pure_cons (by kernel_rfl) (pureI1 vis_spec) (pure_cons (by kernel_rfl) (pureI2 only_spec) (pure_cons (by kernel_rfl) (pureS ident_spec) (pure_cons (by kernel_rfl) (pureTy value_spec) (pure_cons (by kernel_rfl) (pureS isCls_spec) pure_nil))))
theorem mflags_spec (fl : Int) (m : Mem) : FnH Tryz.prog 145 [.v (.int .i64 fl)] ⟨[], []⟩ m fun r H' _ => r = .v (.bool (mflagsL fl)) ∧ H' = ⟨[], []⟩ := by
 refine enter cfF puF Tryz.func145 rfl rfl (by kernel_rfl) rfl ?_ ?_
 ·simp only [go_sem, ↓tfi, ↓fti, ↓reduceIte]
 ·simp only [go_sem, ↓tfi, ↓fti, ↓reduceIte]
  refine ⟨fun h => ?_, fun h => ⟨fun g => ?_, fun g => ?_⟩⟩
  ·rcases h with h | h <;> simp [mflagsL, h]
  ·simp [mflagsL, hasB, g.1, g.2]
  ·rcases g with g | g <;> simp [mflagsL, hasB, h.1, h.2, g]
theorem field_spec (f : Fc) (m : Mem) (h : FcOk f) : Ans 69 [.v (.agg ⟨f.cs⟩)] m (.bool (fieldL f)) := by
 have h1 : BL f.name := Nat.le_trans h.name (by decide)
 have h2 : BL f.ty.name := Nat.le_trans h.ty.2.2 (by decide)
 refine enter cfF puF Tryz.func69 rfl rfl (by kernel_rfl) rfl ?_ ?_
 ·simp only [go_sem, ↓tfi, ↓fti, ↓reduceIte, Fc.cs]
 ·simp only [go_sem, ↓tfi, ↓fti, ↓reduceIte, Fc.cs]
  exact ⟨h2, fun _ => h1, rfl⟩
theorem badF_spec (f : Fc) (m : Mem) (h : FcOk f) : Ans 68 [.v (.agg ⟨f.cs⟩)] m (.bool (!fieldL f)) := by
 have hF := field_spec f m h
 refine enter cfF puF Tryz.func68 rfl rfl (by kernel_rfl) rfl ?_ ?_
 ·simp only [go_sem, ↓tfi, ↓fti, ↓reduceIte, Fc.cs]
 ·simp only [go_sem, ↓tfi, ↓fti, ↓reduceIte, Fc.cs]
  refine cvl ((FnH_den hF (fun V => rfl)).mono ?_)
  rintro r H' m2 hm2 ⟨hle2, rfl, rfl⟩
  simp only [go_sem, ↓tfi, ↓fti, ↓reduceIte]
  exact hle2
theorem badS_spec (s : List UInt8) (m : Mem) (h : BL s) : Ans 66 [.v (.string (bs s))] m (.bool (!isCls s)) := by
 refine enter cfF puF Tryz.func66 rfl rfl (by kernel_rfl) rfl ?_ ?_
 ·simp only [go_sem, ↓tfi, ↓fti, ↓reduceIte]
 ·simp only [go_sem, ↓tfi, ↓fti, ↓reduceIte]
  exact h
theorem badP_spec (f : Pc) (m : Mem) (h : PcOk f) : Ans 146 [.v (.agg ⟨f.cs⟩)] m (.bool (!paramL f)) := by
 have h1 : BL f.name := Nat.le_trans h.name (by decide)
 have h2 : BL f.ty.name := Nat.le_trans h.ty.2.2 (by decide)
 refine enter cfF puF Tryz.func146 rfl rfl (by kernel_rfl) rfl ?_ ?_
 ·simp only [go_sem, ↓tfi, ↓fti, ↓reduceIte, Pc.cs]
 ·simp only [go_sem, ↓tfi, ↓fti, ↓reduceIte, Pc.cs]
  exact ⟨h2, fun _ => h1, by rw [paramL, Bool.not_and]⟩
theorem badI_spec (x : Mc) (m : Mem) : Ans 141 [.v (.agg ⟨x.cs⟩)] m (.bool (!decide (x.fl = 1) && !decide (x.fl = 1025) || decide (x.name = initS))) := by
 refine enter cfF puF Tryz.func141 rfl rfl (by kernel_rfl) rfl ?_ ?_
 ·simp only [go_sem, ↓tfi, ↓fti, ↓reduceIte, Mc.cs]
 ·simp only [go_sem, ↓tfi, ↓fti, ↓reduceIte, Mc.cs]
  rfl
theorem any_of {α : Type} {p : α → Bool} {l : List α} {n : Nat} (hn : n = l.length) {B : Nat → Bool} (h : ∀ i (hi : i < l.length), B i = p l[i]) : anyB n B = l.any p := by
 subst hn; exact anyB_list p l B h
def atP {α : Type} (p : α → Bool) (l : List α) (i : Nat) : Bool := match l[i]? with | some a => p a | none => false
theorem atP_at {α : Type} {p : α → Bool} {l : List α} {i : Nat} (h : i < l.length) : atP p l i = p l[i] := by simp only [atP, List.getElem?_eq_getElem h]
theorem md_parts {m : Mem} {d : Md} {cs : List Value} (h : mdRep m d cs) : ∃ x : Mc, (cs = x.cs ∧ x.fl = d.fl ∧ x.res = d.res ∧ x.name = d.name ∧ x.hb = d.hb) ∧ (x.pl = d.params.length ∧ x.pl ≤ x.pc ∧ x.l = d.body.length ∧ x.l ≤ x.cp) ∧ MdOk d ∧ Rds m x.pa x.pl 4 (flat Pc.cs d.params) ∧ ∃ xs, Rds m x.a x.l 23 xs ∧ stsRep m d.body xs := h
theorem method_spec (d : Md) (cs : List Value) (m : Mem) (hg : Glob m) (h : mdRep m d cs) : Ans 71 [.v (.agg ⟨cs⟩)] m (.bool (methodL d)) := by
 obtain ⟨fl, res, name, params, hb, body⟩ := d
 obtain ⟨x, ⟨rfl, rfl, rfl, rfl, rfl⟩, ⟨hpl, hpc, hl, hcp⟩, hok, r1, xs, r2, s2⟩ := h
 simp only at hpl hl r1 s2
 have h1 : BL x.name := Nat.le_trans hok.name (by decide)
 have h2 : BL x.res.name := Nat.le_trans hok.res.2.2 (by decide)
 have hP : ∀ m', leM m m' → Ans 147 [.v (.slice x.pa x.pl x.pc), .v (.func (.func 146) ⟨[]⟩ ⟨[]⟩)] m' (.bool (params.any fun p => !paramL p)) := fun m' hle => by
  have := ctfPc 146 (atP (fun p => !paramL p) params) x.pa x.pl x.pc _ m' (Rds_upM hle r1) (by rw [hpl]; exact hok.pl) (by kernel_rfl) fun i hi => ⟨params[i]'(by omega), flat_at (f := Pc.cs) (sz := 4) (fun _ => rfl) (by omega), fun m2 _ => by
   rw [atP_at (by omega)]; exact badP_spec _ m2 (hok.ps _ (List.getElem_mem _))⟩
  rw [any_of hpl (p := fun p => !paramL p) fun i hi => atP_at hi] at this
  exact this
 have hB := fun m' (hle : leM m m') => block_all (decide (x.name = initS)) body x.a x.l x.cp xs m' (hg.upM hle) hl (Rds_upM hle r2) (stsRep_upM hle s2) (by rw [hl]; exact hok.l)
 clear s2
 refine enter (mkCf (fun _ => false) [(145, pI1 mflagsL), (65, pI2 onlyL), (48, pS1 BL fun s => .bool (identL s)), (49, pTy valueTy)])
  (pure_cons (by kernel_rfl) (pureI1 mflags_spec) (pure_cons (by kernel_rfl) (pureI2 only_spec) (pure_cons (by kernel_rfl) (pureS ident_spec) (pure_cons (by kernel_rfl) (pureTy value_spec) pure_nil)))) Tryz.func71 rfl rfl (by kernel_rfl) rfl ?_ ?_
 ·simp only [go_sem, ↓tfi, ↓fti, ↓reduceIte, Mc.cs]
 ·simp only [go_sem, ↓tfi, ↓fti, ↓reduceIte, Mc.cs, eqOkT]
  have e1 : ∀ (d : Md), mHead d = true → mMid d = true → methodL d = (!(d.params.any fun p => !paramL p) && blockL (decide (d.name = initS)) d.body) := fun d a b => by rw [methodL, a, b]; rfl
  have g0 : ∀ (d : Md), ((mflagsL d.fl = false ∨ (d.hb == !decide (bits .and .i64 d.fl 1024 = 0)) = true) ∨ d.hb = false ∧ 0 < d.body.length) ∨ 16 < d.params.length → false = methodL d := fun d g => by
   have : mMid d = false := by
    rcases g with ((g | g) | g) | g
    ·simp [mMid, g]
    ·simp only [mMid, hasB, g, Bool.not_true, Bool.and_false, Bool.false_and]
    ·simp only [mMid, g.1, Bool.false_or, decide_eq_false (by omega : ¬ d.body.length = 0), Bool.and_false, Bool.false_and]
    ·simp only [mMid, decide_eq_false (by omega : ¬ d.params.length ≤ 16), Bool.and_false]
   rw [methodL, this, Bool.and_false]; rfl
  have g1 : ∀ (d : Md), ((mflagsL d.fl = true ∧ (d.hb == !decide (bits .and .i64 d.fl 1024 = 0)) = false) ∧ (d.hb = true ∨ ¬ 0 < d.body.length)) ∧ ¬ 16 < d.params.length → mMid d = true := fun d g => by
   simp only [mMid, hasB, g.1.1.1, g.1.1.2, decide_eq_true (by omega : d.params.length ≤ 16), Bool.not_false, Bool.and_true, Bool.true_and]
   rcases g.1.2 with h | h
   ·rw [h]; rfl
   ·rw [decide_eq_true (by omega : d.body.length = 0), Bool.or_true]
  have g0' := g0 ⟨x.fl, x.res, x.name, params, x.hb, body⟩
  have g1' := g1 ⟨x.fl, x.res, x.name, params, x.hb, body⟩
  have e1' := e1 ⟨x.fl, x.res, x.name, params, x.hb, body⟩
  clear g0 g1 e1
  simp only at g0' g1' e1'
  have gx : ∀ {A B : Prop}, (A ∨ B ∧ 0 < (x.l : Int)) ∨ 16 < (x.pl : Int) → (A ∨ B ∧ 0 < body.length) ∨ 16 < params.length := fun g => by
   clear hP hB
   rcases g with (g | g) | g
   ·exact .inl (.inl g)
   ·exact .inl (.inr ⟨g.1, by omega⟩)
   ·exact .inr (by omega)
  have gy : ∀ {A B : Prop}, (A ∧ (B ∨ ¬ 0 < (x.l : Int))) ∧ ¬ 16 < (x.pl : Int) → (A ∧ (B ∨ ¬ 0 < body.length)) ∧ ¬ 16 < params.length := fun g => by
   clear hP hB
   refine ⟨⟨g.1.1, ?_⟩, by omega⟩
   rcases g.1.2 with h | h
   ·exact .inl h
   ·exact .inr (by omega)
  refine ⟨fun hn => ⟨fun c => ?_, fun c => ⟨by kernel_rfl, fun g => g0' (gx g), fun g => cvl ((hP m (.inl rfl)).mono ?_)⟩⟩,
   fun hn => ⟨h1, fun _ => h2, fun c => ?_, fun c => ⟨by kernel_rfl, fun g => g0' (gx g), fun g => cvl ((hP m (.inl rfl)).mono ?_)⟩⟩⟩
  ·clear hP hB
   have : mHead ⟨x.fl, x.res, x.name, params, x.hb, body⟩ = false := by
    simp only [mHead, voidTy]
    rw [if_pos (show x.name = initS from hn)]
    rcases c with ((c | c | c) | c) | c <;> simp [c]
   rw [methodL, this]; rfl
  ·have g2 := g1' (gy g)
   have hh : mHead ⟨x.fl, x.res, x.name, params, x.hb, body⟩ = true := by
    clear hP hB
    simp only [mHead, voidTy]
    rw [if_pos (show x.name = initS from hn)]
    simp [c.1.1.1, c.1.1.2.1, c.1.1.2.2, c.1.2, c.2]
   have e2 := e1' hh g2
   clear hP
   rintro r H' m2 hm2 ⟨hle2, rfl, rfl⟩
   simp only [go_sem, ↓tfi, ↓fti, ↓reduceIte, Mc.cs]
   refine ⟨fun b1 => cvl ((hB m2 hle2).mono ?_), fun b1 => ?_⟩
   ·clear hB
    rintro r H' m3 hm3 ⟨hle3, rfl, rfl⟩
    simp only [go_sem, ↓tfi, ↓fti, ↓reduceIte, Mc.cs]
    refine ⟨leM_tr hle2 hle3, ?_⟩
    rw [e2, b1]; rfl
   ·refine ⟨hle2, ?_⟩
    rw [e2, b1]; rfl
  ·clear hP hB
   have : mHead ⟨x.fl, x.res, x.name, params, x.hb, body⟩ = false := by
    simp only [mHead, voidTy]
    rw [if_neg (show ¬ x.name = initS from hn)]
    rcases c with c | c
    ·simp [c]
    ·rw [c.2]
     rcases c.1 with c | c | c <;> simp [c]
   rw [methodL, this]; rfl
  ·have g2 := g1' (gy g)
   have hh : mHead ⟨x.fl, x.res, x.name, params, x.hb, body⟩ = true := by
    clear hP hB
    simp only [mHead, voidTy]
    rw [if_neg (show ¬ x.name = initS from hn), c.1]
    rcases c.2 with c | c <;> simp [c]
   have e2 := e1' hh g2
   clear hP
   rintro r H' m2 hm2 ⟨hle2, rfl, rfl⟩
   simp only [go_sem, ↓tfi, ↓fti, ↓reduceIte, Mc.cs]
   refine ⟨fun b1 => cvl ((hB m2 hle2).mono ?_), fun b1 => ?_⟩
   ·clear hB
    rintro r H' m3 hm3 ⟨hle3, rfl, rfl⟩
    simp only [go_sem, ↓tfi, ↓fti, ↓reduceIte, Mc.cs]
    refine ⟨leM_tr hle2 hle3, ?_⟩
    rw [e2, b1]; rfl
   ·refine ⟨hle2, ?_⟩
    rw [e2, b1]; rfl
theorem bv_sub {a b : BitVec 64} (h : a &&& ~~~b = 0#64) : a.toNat ≤ b.toNat := by
 have e : a = a &&& b := by
  apply BitVec.eq_of_getLsbD_eq
  intro i hi
  have h2 := congrArg (fun x => x.getLsbD i) h
  simp only [BitVec.getLsbD_and, BitVec.getLsbD_not, hi, decide_true, Bool.true_and, BitVec.getLsbD_zero] at h2
  rw [BitVec.getLsbD_and]
  cases ha : a.getLsbD i <;> cases hb : b.getLsbD i <;> simp_all
 rw [e, BitVec.toNat_and]
 exact Nat.and_le_right
theorem only_range {fl : Int} {al : Nat} (hI : I64 fl) (ha : al ≤ 4095) (h : onlyL fl al = true) : 0 ≤ fl ∧ fl ≤ al := by
 have h2 : (BitVec.ofInt 64 fl &&& ~~~BitVec.ofInt 64 (al : Int)).toNat = 0 := by
  have hlt := (BitVec.ofInt 64 fl &&& ~~~BitVec.ofInt 64 (al : Int)).isLt
  have h3 : IntKind.wrap .i64 ((BitVec.ofInt 64 fl &&& ~~~BitVec.ofInt 64 (al : Int)).toNat : Int) = 0 := of_decide_eq_true (p := bits .andNot .i64 fl al = 0) h
  generalize (BitVec.ofInt 64 fl &&& ~~~BitVec.ofInt 64 (al : Int)).toNat = n at *
  simp [IntKind.wrap, IntKind.bits, IntKind.signed] at h3
  omega
 have h4 := bv_sub (BitVec.eq_of_toNat_eq (by rw [h2]; rfl))
 rw [BitVec.toNat_ofInt, BitVec.toNat_ofInt] at h4
 obtain ⟨i1, i2⟩ := hI
 omega
def ronlyL (fl al : Int) : Bool := decide (0 ≤ fl) && onlyL fl al
theorem ronly_eq {fl : Int} {al : Nat} (hI : I64 fl) (ha : al ≤ 4095) : ronlyL fl al = onlyL fl al := by
 cases h : onlyL fl al with
 | false => rw [ronlyL, h, Bool.and_false]
 | true => rw [ronlyL, h, decide_eq_true (only_range hI ha h).1]; rfl
theorem flags7 {fl : Int} (hI : I64 fl) (h : onlyL fl 7 = true) : mflagsL fl = visL fl ∧ hasB fl 1024 = false := by
 have hr := only_range (al := 7) hI (by decide) h
 have hall : ∀ n : Fin 8, mflagsL (n.val : Int) = visL (n.val : Int) ∧ hasB (n.val : Int) 1024 = false := by decide +kernel
 have e : fl = (fl.toNat : Int) := by omega
 have := hall ⟨fl.toNat, by omega⟩
 simp only at this
 rw [← e] at this
 exact this
end Go.Proofs.YtalalcpefggniaaGreatDoor.E
namespace Go.Proofs.YtalalcpefggniaaGreatDoor.E
open Go Go.RowKit
def hasPre (a b : List UInt8) : Bool := decide ((b.length : Int) ≤ a.length) && decide (a.take b.length = b)
theorem has_spec (l : List (List UInt8)) (s : List UInt8) (a : Option Addr) (n c : Nat) (m : Mem) (h : Rds m a n 1 (strs l)) (hn : n ≤ 4611686018427387904) :
  FnH Tryz.prog 171 [.v (.slice a n c), .v (.string (bs s))] ⟨[], []⟩ m fun r H' _ => r = .v (.bool (l.contains s)) ∧ H' = ⟨[], []⟩ := by
 have hl : l.length = n := by have := h.1; simpa [strs] using this
 refine enter cf0 pu0 Tryz.func171 rfl rfl (by kernel_rfl) rfl ?_ ?_
 ·simp only [go_sem, ↓tfi, ↓fti, ↓reduceIte]
 ·simp only [go_sem, ↓tfi, ↓fti, ↓reduceIte]
  refine WP_loop pu0 (fun k : Nat => ⟨[⟨0, [], .v (.slice a n c)⟩, ⟨1, [], .v (.string (bs s))⟩, ⟨5, [], .v (.int .i64 k)⟩], [], [], [], 0, m⟩)
   (fun k => k ≤ n ∧ (l.take k).contains s = false) (fun k => n - k) 0 (by kernel_rfl) (fun _ _ => Nnr _) (fun _ _ => .inl rfl) (fun _ => ?_) ?_ ?_ ?_
  ·simp only [go_sem, ↓tfi, ↓fti, ↓reduceIte]
  ·simp only [go_sem, ↓tfi, ↓fti, ↓reduceIte]
   rfl
  ·simp
  ·rintro k ⟨hk, hp⟩
   simp only [go_sem, ↓tfi, ↓fti, ↓reduceIte]
   refine ⟨fun hlt => ?_, fun hge => ?_⟩
   ·have hkn : k < n := by omega
    obtain ⟨hx, hr, hne⟩ := Rds_one h hkn
    refine ⟨⟨by omega, hlt, hne⟩, _, by simpa using hr, ?_⟩
    have hkl : k < l.length := by omega
    have e : (strs l)[k] = .string (bs l[k]) := by simp [strs]
    have ec := take_has (s := s) hkl
    simp only [e]
    simp only [go_sem, ↓tfi, ↓fti, ↓reduceIte]
    refine ⟨fun he => ?_, fun he => ⟨by unfold I64; omega, k + 1, by omega, ⟨by omega, ?_⟩, by omega⟩⟩
    ·have : s ∈ l := by rw [← he]; exact List.getElem_mem hkl
     simp [this]
    ·rw [ec, hp]; simp; exact fun h => he h.symm
   ·have : l.take k = l := List.take_of_length_le (by omega)
    rw [← hp, this]
theorem rkeywords_spec (m : Mem) : FnH Tryz.prog 172 [] ⟨[], []⟩ m fun r H' m' => r = .vec 0 0 ∧ H' = ⟨[], [⟨0, 0, 9, 1, 28, strs keywordsL⟩]⟩ ∧ m' = m := by
 refine enter cfN puN Tryz.func172 rfl rfl (by kernel_rfl) rfl ?_ ?_
 ·simp only [go_sem, ↓tfi, ↓fti, ↓reduceIte]
 ·simp only [go_sem, ↓tfi, ↓fti, ↓reduceIte]
  rfl
theorem rsigns_spec (m : Mem) : FnH Tryz.prog 179 [] ⟨[], []⟩ m fun r H' m' => r = .vec 0 0 ∧ H' = ⟨[], [⟨0, 0, 9, 1, 30, strs signsL⟩]⟩ ∧ m' = m := by
 refine enter cfN puN Tryz.func179 rfl rfl (by kernel_rfl) rfl ?_ ?_
 ·simp only [go_sem, ↓tfi, ↓fti, ↓reduceIte]
 ·simp only [go_sem, ↓tfi, ↓fti, ↓reduceIte]
  rfl
theorem risCls_spec (s : List UInt8) (m : Mem) (hs : BL s) : FnH Tryz.prog 77 [.v (.string (bs s))] ⟨[], []⟩ m fun r H' _ => r = .v (.bool (isCls s)) ∧ H' = ⟨[], []⟩ := by
 refine enter cf6 pu6 Tryz.func77 rfl rfl (by kernel_rfl) rfl ?_ ?_
 ·simp only [go_sem, ↓tfi, ↓fti, ↓reduceIte]
 ·simp only [go_sem, ↓tfi, ↓fti, ↓reduceIte]
  refine ⟨hs, fun h => by simp [isCls, h], fun h => ⟨hs, ⟨by omega, by have := simple_ne h; omega⟩, ?_⟩⟩
  rw [isCls, h, Bool.true_and]
  have e1 : ∀ n : Nat, decide ((65 : Int) ≤ n) = decide (65 ≤ n) := fun n => by rw [decide_eq_decide]; omega
  have e2 : ∀ n : Nat, decide ((n : Int) ≤ 90) = decide (n ≤ 90) := fun n => by rw [decide_eq_decide]; omega
  rw [e1, e2]
theorem hasPre_nil (l : List UInt8) : hasPre l [] = true := by simp [hasPre]
theorem hasPre_nil' (x : UInt8) (o : List UInt8) : hasPre [] (x :: o) = false := by simp [hasPre]
theorem hasPre_cons (y x : UInt8) (l o : List UInt8) : hasPre (y :: l) (x :: o) = (decide (y = x) && hasPre l o) := by
 unfold hasPre
 simp only [Llc, List.take_succ_cons, List.cons.injEq]
 have e : decide (((o.length + 1 : Nat) : Int) ≤ ((l.length + 1 : Nat) : Int)) = decide ((o.length : Int) ≤ l.length) := by rw [decide_eq_decide]; omega
 rw [e, Bool.decide_and]
 cases decide (y = x) <;> simp
theorem colons (l : List UInt8) (h : hasPre l [58, 58] = true) : ∃ r, l = 58 :: 58 :: r := by
 cases l with
 | nil => rw [hasPre_nil'] at h; cases h
 | cons a l =>
  rw [hasPre_cons] at h
  cases l with
  | nil => rw [hasPre_nil'] at h; simp at h
  | cons b l =>
   rw [hasPre_cons, hasPre_nil] at h
   simp only [Bool.and_true, Bbt, decide_eq_true_eq] at h
   exact ⟨l, by rw [h.1, h.2]⟩
def spell : List UInt8 → List UInt8
 | [] => []
 | c :: r => if c.toNat = 47 then 58 :: 58 :: spell r else c :: spell r
theorem spell_app : ∀ (a b : List UInt8), spell (a ++ b) = spell a ++ spell b
 | [], _ => rfl
 | c :: a, b => by
  simp only [List.cons_append, spell, spell_app a b]
  split <;> rfl
theorem spell_no : ∀ {a : List UInt8}, (∀ c ∈ a, c ≠ 47) → spell a = a
 | [], _ => rfl
 | c :: a, h => by
  have h1 : ¬ c.toNat = 47 := fun e => h c (List.mem_cons_self ..) (UInt8.toNat_inj.1 e)
  simp only [spell, if_neg h1, spell_no fun d hd => h d (List.mem_cons_of_mem _ hd)]
theorem ix_no : ∀ (A : List UInt8), (∀ c ∈ A, c ≠ 47) → Lib.index A [47] = -1
 | [], _ => rfl
 | a :: A, h => by
  have ih := ix_no A fun c hc => h c (List.mem_cons_of_mem _ hc)
  have ha := h a (List.mem_cons_self ..)
  have hp : List.isPrefixOf [47] (a :: A) = false := by
   simp only [List.isPrefixOf, Bool.and_eq_false_iff]
   left; exact beq_eq_false_iff_ne.2 fun e => ha e.symm
  simp only [Lib.index, hp, ih]
  rfl
theorem ix_at : ∀ (A r : List UInt8), (∀ c ∈ A, c ≠ 47) → Lib.index (A ++ 47 :: r) [47] = A.length
 | [], r, _ => by simp [Lib.index, List.isPrefixOf]
 | a :: A, r, h => by
  have ih := ix_at A r fun c hc => h c (List.mem_cons_of_mem _ hc)
  have ha := h a (List.mem_cons_self ..)
  have hp : List.isPrefixOf [47] (a :: (A ++ 47 :: r)) = false := by
   simp only [List.isPrefixOf, Bool.and_eq_false_iff]
   left; exact beq_eq_false_iff_ne.2 fun e => ha e.symm
  simp only [List.cons_append, Lib.index, hp, ih]
  rw [if_neg (by decide), if_neg (by simp), Llc]
  rfl
def rpF (F : Nat) (s : List UInt8) : List UInt8 := Lib.replaceK [47] [58, 58] (Lib.countFrom [47] F s) s
theorem rpF_no {F : Nat} {A : List UInt8} (h : ∀ c ∈ A, c ≠ 47) : rpF (F + 1) A = A := by
 unfold rpF Lib.countFrom
 rw [ix_no A h]
 rfl
theorem rpF_at {F : Nat} {A r : List UInt8} (h : ∀ c ∈ A, c ≠ 47) : rpF (F + 1) (A ++ 47 :: r) = A ++ 58 :: 58 :: rpF F r := by
 have hi := ix_at A r h
 have hd : (A ++ 47 :: r).drop (A.length + ([47] : List UInt8).length) = r := by
  rw [List.drop_append]
  simp
 unfold rpF
 have hc : Lib.countFrom [47] (F + 1) (A ++ 47 :: r) = Lib.countFrom [47] F r + 1 := by
  simp only [Lib.countFrom]
  rw [hi, if_neg (by simp), Int.toNat_natCast, hd]
  omega
 rw [hc, Lib.replaceK_hit _ _ _ _ _ hi, hd]
 simp
theorem slash_split : ∀ (s : List UInt8), (∀ c ∈ s, c ≠ 47) ∨ ∃ A r, s = A ++ 47 :: r ∧ ∀ c ∈ A, c ≠ 47
 | [] => .inl fun c h => by cases h
 | a :: s => by
  by_cases ha : a = 47
  ·exact .inr ⟨[], s, by rw [ha]; rfl, fun c h => by cases h⟩
  ·rcases slash_split s with h | ⟨A, r, rfl, h⟩
   ·exact .inl fun c hc => by
     rcases List.mem_cons.1 hc with rfl | hc
     ·exact ha
     ·exact h c hc
   ·exact .inr ⟨a :: A, r, rfl, fun c hc => by
     rcases List.mem_cons.1 hc with rfl | hc
     ·exact ha
     ·exact h c hc⟩
theorem rpF_spell : ∀ (F : Nat) (s : List UInt8), s.length < F → rpF F s = spell s
 | 0, _, h => absurd h (Nat.not_lt_zero _)
 | F + 1, s, h => by
  rcases slash_split s with hs | ⟨A, r, rfl, hA⟩
  ·rw [rpF_no hs, spell_no hs]
  ·rw [Lla, Llc] at h
   rw [rpF_at hA, rpF_spell F r (by omega), spell_app, spell_no hA]
   rfl
theorem rep_one (s : List UInt8) : Lib.replaceAll s [47] [58, 58] = spell s := by
 have e : Lib.replaceAll s [47] [58, 58] = rpF (s.length + 1) s := by
  unfold Lib.replaceAll Lib.replace rpF
  rw [if_neg (by decide)]
  have : Lib.replaceNum s [47] (-1) = Lib.count s [47] := by simp [Lib.replaceNum]
  rw [this]; rfl
 rw [e, rpF_spell _ _ (Nat.lt_succ_self _)]
theorem join_cc (x y : List UInt8) (ys : List (List UInt8)) : Lib.join (x :: y :: ys) [32] = x ++ ([32] ++ Lib.join (y :: ys) [32]) := by simp [Lib.join]
theorem u8_small : ∀ n : Nat, n < 256 → IntKind.u8.wrap (n : Int) = (n : Int) := by decide
theorem spell_len : ∀ (s : List UInt8), (spell s).length ≤ 2 * s.length
 | [] => by simp [spell]
 | c :: s => by
  have := spell_len s
  simp only [spell]
  split <;> simp only [Llc] <;> omega
theorem spell_next {s : List UInt8} {k : Nat} (h : k < s.length) : spell (s.take (k + 1)) = spell (s.take k) ++ if (s.getD k 0).toNat = 47 then [58, 58] else [s.getD k 0] := by
 rw [List.take_succ_eq_append_getElem h, spell_app]
 have e : s.getD k 0 = s[k] := by rw [List.getD_eq_getElem?_getD, List.getElem?_eq_getElem h]; rfl
 rw [e]
 simp only [spell]
theorem one_slice {s : List UInt8} {k : Nat} (h : k < s.length) : (s.take (k + 1)).drop k = [s.getD k 0] := by
 rw [List.take_succ_eq_append_getElem h, List.drop_append_of_le_length (by rw [List.length_take]; omega), List.drop_eq_nil_of_le (by rw [List.length_take]; omega), List.getD_eq_getElem?_getD, List.getElem?_eq_getElem h]
 rfl
theorem spelled_spec (s : List UInt8) (m : Mem) (hs : s.length ≤ 2000000) :
  FnH Tryz.prog 140 [.v (.string (bs s))] ⟨[], []⟩ m fun r H' m' => r = .v (.string (bs (spell s))) ∧ H' = ⟨[], []⟩ ∧ m' = m := by
 refine enter cfN puN Tryz.func140 rfl rfl (by kernel_rfl) rfl ?_ ?_
 ·simp only [go_sem, ↓tfi, ↓fti, ↓reduceIte]
 ·simp only [go_sem, ↓tfi, ↓fti, ↓reduceIte]
  refine WP_loop puN (fun k : Nat => ⟨[⟨0, [], .v (.string (bs s))⟩, ⟨3, [], .v (.string (bs (spell (s.take k))))⟩, ⟨4, [], .v (.int .i64 k)⟩], [], [], [], 0, m⟩)
   (fun k => k ≤ s.length) (fun k => s.length - k) 0 (by kernel_rfl) (fun _ _ => Nnr _) (fun _ _ => .inl rfl) (fun _ => ?_) ?_ (Nat.zero_le _) ?_
  ·simp only [go_sem, ↓tfi, ↓fti, ↓reduceIte]
  ·simp only [go_sem, ↓tfi, ↓fti, ↓reduceIte]
   exact ⟨rfl, rfl⟩
  ·intro k hk
   have hl : (spell (s.take k)).length ≤ 2 * k := by have := spell_len (s.take k); rw [List.length_take] at this; omega
   simp only [go_sem, ↓tfi, ↓fti, ↓reduceIte]
   refine ⟨fun hlt => ?_, fun hge => ?_⟩
   ·have hk' : k < s.length := by omega
    have e1 : ((k : Int) + 1).toNat = k + 1 := by omega
    refine ⟨⟨by omega, hlt⟩, fun h47 => ⟨by omega, by unfold I64; omega, k + 1, ⟨?_, rfl⟩, hk', by omega⟩, fun h47 => ⟨by unfold I64; omega, ⟨by omega, by omega, by omega⟩, ?_, by unfold I64; omega, k + 1, ⟨?_, rfl⟩, hk', by omega⟩⟩
    ·rw [spell_next hk', if_pos (by omega)]
    ·rw [e1, one_slice hk']; simp only [List.length_singleton]; omega
    ·rw [e1, one_slice hk', spell_next hk', if_neg (by omega)]
   ·rw [List.take_of_length_le (by omega)]
theorem rquoted_spec (s : List UInt8) (m : Mem) (hs : s.length ≤ 2000000) :
  FnH Tryz.prog 139 [.v (.string (bs s))] ⟨[], []⟩ m fun r H' m' => r = .v (.string (bs (escapedL s))) ∧ H' = ⟨[], []⟩ ∧ m' = m := by
 refine enter cfN puN Tryz.func139 rfl rfl (by kernel_rfl) rfl ?_ ?_
 ·simp only [go_sem, ↓tfi, ↓fti, ↓reduceIte]
 ·simp only [go_sem, ↓tfi, ↓fti, ↓reduceIte]
  refine WP_loop puN (fun x : Nat × Nat × List UInt8 => ⟨[⟨0, [], .v (.string (bs s))⟩, ⟨3, [], .vec 0 x.2.1⟩, ⟨4, [], .v (.int .i64 x.1)⟩], [], [], [⟨0, x.2.1, 5, 1, x.2.2.length, u8s x.2.2⟩], 1, m⟩)
   (fun x => x.1 ≤ s.length ∧ x.2.2 = 34 :: ((s.take x.1).map escB).flatten) (fun x => s.length - x.1) (0, 0, [34]) (by kernel_rfl) (fun _ _ => Nnr _) (fun _ _ => .inl rfl) (fun _ => ?_) ?_ ?_ ?_
  ·simp only [go_sem, ↓tfi, ↓fti, ↓reduceIte]
  ·simp only [go_sem, ↓tfi, ↓fti, ↓reduceIte]
   exact ⟨rfl, rfl⟩
  ·exact ⟨Nat.zero_le _, rfl⟩
  ·rintro ⟨k, u, b⟩ ⟨h1, h2⟩
   simp only at h1 h2
   have hbl : b.length ≤ 1 + 4 * k := by
    rw [h2, Llc]
    have := escFlat_len (s.take k)
    rw [List.length_take] at this
    omega
   have hroom : ∀ n, n ≤ 4 → room (b.length + n) 1 := fun n hn => ⟨by omega, by simp only [maxLen]; omega⟩
   have step : k < s.length → ∀ e, escB (s.getD k 0) = e → ∀ ver : Nat, ver = u + 1 → b.length + e.length = (b ++ e).length ∧ u8s b ++ u8s e = u8s (b ++ e) ∧ (k + 1 ≤ s.length ∧ b ++ e = 34 :: ((s.take (k + 1)).map escB).flatten) ∧ s.length - (k + 1) < s.length - k := fun hk e he ver _ => by
    refine ⟨(Lla).symm, (u8s_app b e).symm, ⟨hk, ?_⟩, by omega⟩
    rw [List.take_succ_eq_append_getElem hk, List.map_append, List.flatten_append, h2, ← he, List.getD_eq_getElem?_getD, List.getElem?_eq_getElem hk]
    simp
   simp only [go_sem, ↓tfi, ↓fti, ↓reduceIte]
   refine ⟨fun hlt => ?_, fun hge => ?_⟩
   ·have hk : k < s.length := by omega
    have hI : I64 (k + 1) := by unfold I64; omega
    refine ⟨⟨by omega, hlt⟩, fun c1 => ⟨hroom 2 (by omega), hI, ?_⟩, fun c1 => ⟨fun c2 => ⟨hroom 2 (by omega), hI, ?_⟩, fun c2 => ⟨fun c3 => ⟨hroom 1 (by omega), hI, ?_⟩, fun c3 => ?_⟩⟩⟩
    ·have h := step hk [92, s.getD k 0] (by unfold escB; rw [if_pos (by omega)]) _ rfl
     exact ⟨(k + 1, u + 1, b ++ [92, s.getD k 0]), ⟨⟨rfl, rfl⟩, rfl, h.1, h.2.1⟩, h.2.2.1, h.2.2.2⟩
    ·have h := step hk [92, 110] (by unfold escB; rw [if_neg (by omega), if_pos (by omega)]) _ rfl
     exact ⟨(k + 1, u + 1, b ++ [92, 110]), ⟨⟨rfl, rfl⟩, rfl, h.1, h.2.1⟩, h.2.2.1, h.2.2.2⟩
    ·have h := step hk [s.getD k 0] (by unfold escB; rw [if_neg (by omega), if_neg (by omega), if_neg (by omega)]) _ rfl
     exact ⟨(k + 1, u + 1, b ++ [s.getD k 0]), ⟨⟨rfl, rfl⟩, rfl, h.1, h.2.1⟩, h.2.2.1, h.2.2.2⟩
    ·have h := step hk [92, 120, hexL.getD ((s.getD k 0).toNat / 16) 0, hexL.getD ((s.getD k 0).toNat % 16) 0] (by unfold escB; rw [if_neg (by omega), if_neg (by omega), if_pos (by omega)]) _ rfl
     have hc := (s.getD k 0).toNat_lt
     have e1 : (((s.getD k 0).toNat : Nat) : Int).tdiv 16 = ((((s.getD k 0).toNat / 16 : Nat)) : Int) := by rw [Int.tdiv_eq_ediv_of_nonneg (by omega)]; omega
     have e2 : (((s.getD k 0).toNat : Nat) : Int).tmod 16 = ((((s.getD k 0).toNat % 16 : Nat)) : Int) := by rw [Int.tmod_eq_emod_of_nonneg (by omega)]; omega
     have e3 := u8_small ((s.getD k 0).toNat / 16) (by omega)
     refine WP_draw (.hoist 0 (.hoist 1 (.hoist 2 (.hoist 3 (.hoist 4 (.hoist 5 (.hoist 6 (.alt 7 [0] (.alt 8 [] (.hoist 9 .done) .stop) .stop)))))))) puN (by kernel_rfl) (by kernel_rfl) ?_
     simp only [go_sem, ↓tfi, ↓fti, ↓reduceIte, e1, e2, e3]
     exact ⟨by omega, by omega, by omega, ⟨by omega, by omega⟩, hroom 4 (by omega), hI, (k + 1, u + 1, b ++ [92, 120, hexL.getD ((s.getD k 0).toNat / 16) 0, hexL.getD ((s.getD k 0).toNat % 16) 0]), ⟨⟨rfl, rfl⟩, rfl, h.1, h.2.1⟩, h.2.2.1, h.2.2.2⟩
   ·have ek : k = s.length := by omega
    refine ⟨hroom 1 (by omega), b ++ [34], by rw [u8s_app]; rfl, ?_⟩
    rw [h2, ek, List.take_length]; rfl
def preD (x : Nat) : List UInt8 := if x = 0 then [] else Lib.decDigits x
theorem preD_next (x : Nat) : Lib.decDigits x = preD (x / 10) ++ [UInt8.ofNat (48 + x % 10)] := by
 unfold preD
 rw [Lib.decDigits]
 by_cases h : x < 10
 ·rw [dif_pos h, if_pos (by omega), Nat.mod_eq_of_lt h]; rfl
 ·rw [dif_neg h, if_neg (by omega)]
def digsL : List UInt8 := [48, 49, 50, 51, 52, 53, 54, 55, 56, 57]
theorem dig_slice : ∀ d : Nat, d < 10 → (digsL.take (d + 1)).drop d = [UInt8.ofNat (48 + d)] := by decide
theorem digits_spec (N : Nat) (m : Mem) (hN : N ≤ 9223372036854775807) :
  FnH Tryz.prog 138 [.v (.int .i64 N)] ⟨[], []⟩ m fun r H' m' => r = .v (.string (bs (Lib.decDigits N))) ∧ H' = ⟨[], []⟩ ∧ m' = m := by
 have hlen : (Lib.decDigits N).length ≤ 20 := by rw [Lib.decDigits_length]; have := nDigits_le 19 N (by omega); omega
 refine enter cfN puN Tryz.func138 rfl rfl (by kernel_rfl) rfl ?_ ?_
 ·simp only [go_sem, ↓tfi, ↓fti, ↓reduceIte]
 ·simp only [go_sem, ↓tfi, ↓fti, ↓reduceIte]
  refine WP_loop puN (fun x : Nat × List UInt8 => ⟨[⟨0, [], .v (.int .i64 x.1)⟩, ⟨3, [], .v (.string (bs x.2))⟩], [], [], [], 0, m⟩)
   (fun x => x.1 ≤ N ∧ ((x.2 = [] ∧ x.1 = N) ∨ (x.2 ≠ [] ∧ Lib.decDigits N = preD x.1 ++ x.2))) (fun x => x.1 + if x.2 = [] then 1 else 0) (N, []) (by kernel_rfl) (fun _ _ => Nnr _) (fun _ _ => .inl rfl) (fun _ => ?_) ?_ ⟨Nnr _, .inl ⟨rfl, rfl⟩⟩ ?_
  ·simp only [go_sem, ↓tfi, ↓fti, ↓reduceIte]
  ·simp only [go_sem, ↓tfi, ↓fti, ↓reduceIte]
  ·rintro ⟨x, b⟩ hx
   simp only at hx
   simp only [go_sem, ↓tfi, ↓fti, ↓reduceIte]
   have e1 : (x : Int).tmod 10 = ((x % 10 : Nat) : Int) := by rw [Int.tmod_eq_emod_of_nonneg (by omega)]; omega
   have e2 : (x : Int).tdiv 10 = ((x / 10 : Nat) : Int) := by rw [Int.tdiv_eq_ediv_of_nonneg (by omega)]; omega
   have e3 : (((x % 10 : Nat) : Int)).toNat = x % 10 := Int.toNat_natCast _
   have e4 : (((x % 10 : Nat) : Int) + 1).toNat = x % 10 + 1 := by omega
   rw [e1, e2, e3, e4]
   have e5 := dig_slice (x % 10) (Nat.mod_lt _ (by omega))
   unfold digsL at e5
   rw [e5]
   have hbl : b.length ≤ 20 := by
    rcases hx.2 with h | h
    ·rw [h.1]; simp
    ·have := congrArg List.length h.2
     rw [Lla] at this
     omega
   have hxN := hx.1
   refine ⟨fun hc => ⟨by omega, by omega, by unfold I64; omega, ⟨by omega, by omega, by omega⟩, by simp only [List.length_singleton]; omega, by omega, by unfold I64; omega, (x / 10, [UInt8.ofNat (48 + x % 10)] ++ b), ⟨rfl, rfl⟩, ⟨by simp only; omega, .inr ⟨by simp, ?_⟩⟩, ?_⟩, fun hc => ?_⟩
   ·simp only
    rcases hx.2 with h | h
    ·rw [h.1, ← h.2, List.append_nil]; exact preD_next x
    ·have h0 : ¬ x = 0 := by
      rcases hc with hc | hc
      ·exact absurd hc h.1
      ·omega
     have e : preD x = Lib.decDigits x := if_neg h0
     rw [h.2, e, preD_next x, List.append_assoc]
   ·simp only [List.cons_append, List.nil_append, if_neg (List.cons_ne_nil _ _)]
    by_cases hb : b = []
    ·rw [if_pos hb]; omega
    ·rw [if_neg hb]
     rcases hc with hc | hc
     ·exact absurd hc hb
     ·omega
   ·rcases hx.2 with h | h
    ·exact absurd h.1 hc.1
    ·have h0 : x = 0 := by omega
     rw [h.2, h0]; rfl
theorem valid_pre {t : Tk} (h : ((decide (t.k = 3) || decide (t.k = 4)) == (decide (t.s = []) && !decide (t.k = 5))) = false) : fmtL t = none := by
 obtain ⟨k, s, n, q⟩ := t
 simp only at h
 have hn : isName [] = false := rfl
 by_cases hs : s = []
 ·subst hs
  simp only [decide_true, Bool.true_and] at h
  by_cases h3 : k = 3
  ·subst h3; exact absurd h (by simp)
  ·by_cases h4 : k = 4
   ·subst h4; exact absurd h (by simp)
   ·by_cases h5 : k = 5
    ·subst h5; exact absurd h (by simp)
    ·simp only [fmtL, h3, h4, h5, if_false, hn]
     have e1 : keywordsL.contains [] = false := by decide
     have e2 : signsL.contains [] = false := by decide
     simp only [e1, e2]
     simp
 ·simp only [decide_eq_false hs, Bool.false_and] at h
  by_cases h3 : k = 3
  ·subst h3; simp [fmtL, hs]
  ·by_cases h4 : k = 4
   ·subst h4; simp [fmtL, hs]
   ·simp only [decide_eq_false h3, decide_eq_false h4, Bool.or_self] at h
    exact absurd h (by decide)
theorem valid_pos {t : Tk} (h : ((decide (t.k = 3) || decide (t.k = 4)) == (decide (t.s = []) && !decide (t.k = 5))) = true) : t.k = 3 ∨ t.k = 4 → t.s = [] := by
 intro hk
 have e : (decide (t.k = 3) || decide (t.k = 4)) = true := by simpa using hk
 rw [e] at h
 have := beq_iff_eq.1 h
 have := Bool.and_eq_true_iff.1 this.symm
 exact of_decide_eq_true this.1
theorem some_if {p : Prop} [Decidable p] {x : List UInt8} : (if p then some x else none).isSome = decide p := by
 by_cases h : p <;> simp [h]
set_option maxHeartbeats 8000000 in
theorem xvalid_spec (t : Tk) (m : Mem) (ht : TkOk t) :
  FnH Tryz.prog 137 [Tk.sv t] ⟨[], []⟩ m fun r H' m' => leM m m' ∧ H' = ⟨[], []⟩ ∧ r = .v (.bool (fmtL t).isSome) := by
 have hl := ht.1
 refine enter cf6 pu6 Tryz.func137 rfl rfl (by kernel_rfl) rfl ?_ ?_
 ·simp only [go_sem, ↓tfi, ↓fti, ↓reduceIte, Tk.sv, Tk.cells]
 ·simp only [go_sem, ↓tfi, ↓fti, ↓reduceIte, Tk.sv, Tk.cells]
  refine ⟨Tryz.underlying4, fun hp => by rw [valid_pre hp]; rfl, fun hp => ?_⟩
  have hs34 := valid_pos hp
  refine ⟨fun k1 => ?_, fun k1 => ⟨fun k2 => ?_, fun k2 => ⟨fun k3 => ?_, fun k3 => ⟨fun k4 => ?_, fun k4 => ⟨fun k5 => ?_, fun k5 => ⟨fun k6 => ?_, fun k6 => ?_⟩⟩⟩⟩⟩⟩
  ·have hf : fmtL t = if t.n = 0 ∧ isName t.s = true ∧ keywordsL.contains t.s = false then some (Lib.replaceAll t.s [47] [58, 58]) else none := if_pos k1
   rw [hf, some_if]
   clear hp
   refine WP_draw (.hoist 0 (.hoist 1 (.hoist 2 (.hoist 3 (.hoist 4 (.hoist 5 (.alt 6 [] (.hoist 7 (.hoist 8 (.hoist 10 (.hoist 11 (.alt 9 [11, 10] (.alt 12 [] (.hoist 13 (.hoist 14 (.hoist 15 .done))) .stop) .stop))))) .stop))))))) pu6 (by kernel_rfl) (by kernel_rfl) ?_
   simp only [go_sem, ↓tfi, ↓fti, ↓reduceIte]
   refine ⟨fun _ => by unfold BL; omega, fun hh => cvl ((rkeywords_spec m).mono ?_), fun hh => ?_⟩
   ·rintro r H' m1 hm1 ⟨rfl, rfl, rfl⟩
    simp only [go_sem, ↓tfi, ↓fti, ↓reduceIte]
    refine ⟨by kernel_rfl, fun ad cp m2 hm2 _ hrd => FnV_of ((has_spec keywordsL t.s ad 28 cp m2 hrd (by decide)).mono ?_)⟩
    rintro r H' m3 hm3 ⟨rfl, rfl⟩
    simp only [go_sem, ↓tfi, ↓fti, ↓reduceIte]
    refine ⟨.inr (Mem.le_trans hm2 hm3), ?_⟩
    rw [hh.1, hh.2]
    cases keywordsL.contains t.s <;> rfl
   ·rw [eq_comm, decide_eq_false_iff_not]
    rintro ⟨a, b, _⟩
    rcases hh with hh | hh
    ·exact hh a
    ·rw [b] at hh; cases hh
  ·have hf : fmtL t = if t.n = 0 ∧ keywordsL.contains t.s = true then some t.s else none := by unfold fmtL; rw [if_neg k1, if_pos k2]
   rw [hf, some_if]
   clear hp
   refine WP_draw (.hoist 0 (.hoist 1 (.hoist 2 (.hoist 3 (.hoist 5 (.hoist 6 (.alt 4 [6, 5] (.alt 7 [] (.hoist 8 (.hoist 9 .done)) .stop) .stop))))))) pu6 (by kernel_rfl) (by kernel_rfl) ?_
   simp only [go_sem, ↓tfi, ↓fti, ↓reduceIte]
   refine ⟨fun hh => cvl ((rkeywords_spec m).mono ?_), fun hh => ?_⟩
   ·rintro r H' m1 hm1 ⟨rfl, rfl, rfl⟩
    simp only [go_sem, ↓tfi, ↓fti, ↓reduceIte]
    refine ⟨by kernel_rfl, fun ad cp m2 hm2 _ hrd => FnV_of ((has_spec keywordsL t.s ad 28 cp m2 hrd (by decide)).mono ?_)⟩
    rintro r H' m3 hm3 ⟨rfl, rfl⟩
    simp only [go_sem, ↓tfi, ↓fti, ↓reduceIte]
    refine ⟨.inr (Mem.le_trans hm2 hm3), ?_⟩
    rw [hh]
    cases keywordsL.contains t.s <;> rfl
   ·rw [eq_comm, decide_eq_false_iff_not]
    rintro ⟨a, b⟩
    exact hh a
  ·have hf : fmtL t = if (t.s = [] ∧ 0 ≤ t.n) ∧ t.n < 2147483648 then some (Lib.itoa t.n) else none := by unfold fmtL; rw [if_neg k1, if_neg k2, if_pos k3]
   rw [hf, some_if, ← Bool.decide_and, decide_eq_decide]
   have := hs34 (.inl k3)
   simp only [this, true_and]
   omega
  ·have hf : fmtL t = if t.s = [] ∧ 0 ≤ t.n then some (Lib.itoa t.n ++ [76]) else none := by unfold fmtL; rw [if_neg k1, if_neg k2, if_neg k3, if_pos k4]
   rw [hf, some_if, decide_eq_decide]
   simp only [hs34 (.inr k4), true_and]
  ·have hf : fmtL t = if t.n = 0 ∧ t.s.length ≤ 1024 then some (escapedL t.s) else none := by unfold fmtL; rw [if_neg k1, if_neg k2, if_neg k3, if_neg k4, if_pos k5]
   rw [hf, some_if, ← Bool.decide_and, decide_eq_decide]
   omega
  ·have hf : fmtL t = if t.n = 0 ∧ signsL.contains t.s = true then some t.s else none := by unfold fmtL; rw [if_neg k1, if_neg k2, if_neg k3, if_neg k4, if_neg k5, if_pos k6]
   rw [hf, some_if]
   clear hp
   refine WP_draw (.hoist 0 (.hoist 1 (.hoist 2 (.hoist 3 (.hoist 5 (.hoist 6 (.alt 4 [6, 5] (.alt 7 [] (.hoist 8 (.hoist 9 .done)) .stop) .stop))))))) pu6 (by kernel_rfl) (by kernel_rfl) ?_
   simp only [go_sem, ↓tfi, ↓fti, ↓reduceIte]
   refine ⟨fun hh => cvl ((rsigns_spec m).mono ?_), fun hh => ?_⟩
   ·rintro r H' m1 hm1 ⟨rfl, rfl, rfl⟩
    simp only [go_sem, ↓tfi, ↓fti, ↓reduceIte]
    refine ⟨by kernel_rfl, fun ad cp m2 hm2 _ hrd => FnV_of ((has_spec signsL t.s ad 30 cp m2 hrd (by decide)).mono ?_)⟩
    rintro r H' m3 hm3 ⟨rfl, rfl⟩
    simp only [go_sem, ↓tfi, ↓fti, ↓reduceIte]
    refine ⟨.inr (Mem.le_trans hm2 hm3), ?_⟩
    rw [hh]
    cases signsL.contains t.s <;> rfl
   ·rw [eq_comm, decide_eq_false_iff_not]
    rintro ⟨a, b⟩
    exact hh a
  ·have hf : fmtL t = none := by unfold fmtL; rw [if_neg k1, if_neg k2, if_neg k3, if_neg k4, if_neg k5, if_neg k6]
   rw [hf]; rfl
theorem fmt_inv {t : Tk} {x : List UInt8} (h : fmtL t = some x) : (t.k = 3 → 0 ≤ t.n ∧ x = Lib.itoa t.n) ∧ (t.k = 4 → 0 ≤ t.n ∧ x = Lib.itoa t.n ++ [76]) ∧ (t.k = 5 → x = escapedL t.s) ∧ (t.k = 1 → x = spell t.s) ∧ (¬ t.k = 3 → ¬ t.k = 4 → ¬ t.k = 5 → ¬ t.k = 1 → x = t.s) := by
 unfold fmtL at h
 split at h
 ·rename_i hk
  split at h
  ·cases h
   exact ⟨by omega, by omega, by omega, fun _ => rep_one _, fun _ _ _ h => absurd hk h⟩
  ·cases h
 ·split at h
  ·rename_i h1 hk
   split at h
   ·cases h
    exact ⟨by omega, by omega, by omega, fun h => absurd h h1, fun _ _ _ _ => rfl⟩
   ·cases h
  ·split at h
   ·rename_i h1 _ hk
    split at h
    ·rename_i hc
     cases h
     exact ⟨fun _ => ⟨hc.1.2, rfl⟩, by omega, by omega, fun h => absurd h h1, fun h => absurd hk h⟩
    ·cases h
   ·split at h
    ·rename_i h1 _ h3 hk
     split at h
     ·rename_i hc
      cases h
      exact ⟨fun h => absurd h h3, fun _ => ⟨hc.2, rfl⟩, by omega, fun h => absurd h h1, fun _ h => absurd hk h⟩
     ·cases h
    ·split at h
     ·rename_i h1 _ h3 h4 hk
      split at h
      ·cases h
       exact ⟨fun h => absurd h h3, fun h => absurd h h4, fun _ => rfl, fun h => absurd h h1, fun _ _ h => absurd hk h⟩
      ·cases h
     ·split at h
      ·rename_i h1 _ h3 h4 h5 hk
       split at h
       ·cases h
        exact ⟨fun h => absurd h h3, fun h => absurd h h4, fun h => absurd h h5, fun h => absurd h h1, fun _ _ _ _ => rfl⟩
       ·cases h
      ·cases h
theorem rdigits (n : Int) (m : Mem) (h0 : 0 ≤ n) (hI : I64 n) : FnH Tryz.prog 138 [.v (.int .i64 n)] ⟨[], []⟩ m fun r H' m' => r = .v (.string (bs (Lib.itoa n))) ∧ H' = ⟨[], []⟩ ∧ m' = m := by
 obtain ⟨u, rfl⟩ : ∃ u : Nat, n = u := ⟨n.toNat, by omega⟩
 rw [Lib.itoa_nonneg]
 exact digits_spec u m (by have := hI.2; omega)
set_option maxHeartbeats 8000000 in
theorem rformat_spec (t : Tk) (m : Mem) (ht : TkOk t) :
  FnH Tryz.prog 63 [Tk.sv t] ⟨[], []⟩ m fun r H' m' => leM m m' ∧ H' = ⟨[], []⟩ ∧ FOut (fmtL t) r := by
 have hl := ht.1
 have hv := xvalid_spec t m ht
 cases hx : fmtL t with
 | none =>
  rw [hx] at hv
  refine enter cf6 pu6 Tryz.func63 rfl rfl (by kernel_rfl) rfl ?_ ?_
  ·simp only [go_sem, ↓tfi, ↓fti, ↓reduceIte, Tk.sv, Tk.cells]
  ·simp only [go_sem, ↓tfi, ↓fti, ↓reduceIte, Tk.sv, Tk.cells]
   refine cvl (hv.mono ?_)
   rintro r H' m1 hm1 ⟨hle1, rfl, rfl⟩
   simp only [go_sem, ↓tfi, ↓fti, ↓reduceIte, Option.isSome]
   exact ⟨hle1, rfl⟩
 | some x =>
  rw [hx] at hv
  refine enter cf6 pu6 Tryz.func63 rfl rfl (by kernel_rfl) rfl ?_ ?_
  ·simp only [go_sem, ↓tfi, ↓fti, ↓reduceIte, Tk.sv, Tk.cells]
  ·simp only [go_sem, ↓tfi, ↓fti, ↓reduceIte, Tk.sv, Tk.cells]
   refine cvl (hv.mono ?_)
   rintro r H' m1 hm1 ⟨hle1, rfl, rfl⟩
   simp only [go_sem, ↓tfi, ↓fti, ↓reduceIte, Option.isSome]
   have i3 := (fmt_inv hx).1
   have i4 := (fmt_inv hx).2.1
   have i5 := (fmt_inv hx).2.2.1
   have i1 := (fmt_inv hx).2.2.2.1
   have i6 := (fmt_inv hx).2.2.2.2
   refine ⟨fun k3 => cvl ((rdigits t.n m1 (i3 k3).1 ht.2).mono ?_), fun k3 => ⟨fun k4 => cvl ((rdigits t.n m1 (i4 k4).1 ht.2).mono ?_), fun k4 => ⟨fun k5 => cvl ((rquoted_spec t.s m1 hl).mono ?_), fun k5 => ⟨fun k1 => cvl ((spelled_spec t.s m1 hl).mono ?_), fun k1 => ⟨hle1, ?_⟩⟩⟩⟩⟩
   ·rintro r H' m2 hm2 ⟨rfl, rfl, rfl⟩
    simp only [go_sem, ↓tfi, ↓fti, ↓reduceIte]
    refine ⟨hle1, ?_⟩
    rw [(i3 k3).2]; rfl
   ·rintro r H' m2 hm2 ⟨rfl, rfl, rfl⟩
    simp only [go_sem, ↓tfi, ↓fti, ↓reduceIte]
    refine ⟨by have := itoa_len ht.2; omega, hle1, ?_⟩
    rw [(i4 k4).2]; rfl
   ·rintro r H' m2 hm2 ⟨rfl, rfl, rfl⟩
    simp only [go_sem, ↓tfi, ↓fti, ↓reduceIte]
    refine ⟨hle1, ?_⟩
    rw [i5 k5]; rfl
   ·rintro r H' m2 hm2 ⟨rfl, rfl, rfl⟩
    simp only [go_sem, ↓tfi, ↓fti, ↓reduceIte]
    refine ⟨hle1, ?_⟩
    rw [i1 k1]; rfl
   ·rw [i6 k3 k4 k5 k1]; rfl
theorem join_snoc : ∀ (acc : List (List UInt8)) (x : List UInt8), Lib.join (acc ++ [x]) [32] = if acc = [] then x else Lib.join acc [32] ++ [32] ++ x
 | [], x => by simp [Lib.join]
 | [y], x => by
  rw [if_neg (List.cons_ne_nil _ _)]
  show Lib.join (y :: x :: []) [32] = _
  rw [join_cc]; simp [Lib.join]
 | y :: z :: acc, x => by
  rw [if_neg (List.cons_ne_nil _ _)]
  show Lib.join (y :: z :: (acc ++ [x])) [32] = _
  have ih := join_snoc (z :: acc) x
  rw [if_neg (List.cons_ne_nil _ _)] at ih
  rw [join_cc, join_cc, show z :: (acc ++ [x]) = z :: acc ++ [x] from rfl, ih]
  simp
theorem leM_trans2 {a b c : Mem} (h : leM a b) (h' : leM b c) : leM a c := by
 rcases h' with rfl | h'
 ·exact h
 ·exact leM_trans h h'
theorem xRds_upM {m m' : Mem} {a : Option Addr} {n sz : Nat} {xs : List Value} (hle : leM m m') (h : Rds m a n sz xs) : Rds m' a n sz xs := by
 rcases hle with rfl | hle
 ·exact h
 ·exact Rds_up hle h
set_option maxHeartbeats 8000000 in
theorem rjoin_spec (ts : List Tk) (a : Option Addr) (n c : Nat) (m : Mem) (h : Rds m a n 4 (tkCells ts)) (ht : ∀ t ∈ ts, TkOk t) (hn : n ≤ 4611686018427387904) :
  FnH Tryz.prog 28 [.v (.slice a n c)] ⟨[], []⟩ m fun r H' m' => leM m m' ∧ H' = ⟨[], []⟩ ∧ r = .tup [.v (.string (bs (joinL ts).1)), .v (.int .i64 (joinL ts).2)] := by
 have hl : ts.length = n := by have := h.1; rw [tk_len] at this; omega
 refine enter cf6 pu6 Tryz.func28 rfl rfl (by kernel_rfl) rfl ?_ ?_
 ·simp only [go_sem, ↓tfi, ↓fti, ↓reduceIte]
 ·simp only [go_sem, ↓tfi, ↓fti, ↓reduceIte]
  refine ⟨fun hb => ?_, fun hb => ?_⟩
  ·have e : joinL ts = ([], 5) := if_pos (by omega)
   rw [e]
  ·have hj : joinL ts = match fmtsL ts with | none => ([], 1) | some l => if 20000 < (Lib.join l [32]).length then ([], 8) else (Lib.join l [32], 0) := if_neg (by omega)
   refine WP_loop pu6 (fun x : Nat × List (List UInt8) × Nat × Mem => ⟨[⟨0, [], .v (.slice a n c)⟩, ⟨4, [], .vec 0 x.2.2.1⟩, ⟨5, [], .v (.int .i64 x.1)⟩], [], [], [⟨0, x.2.2.1, 5, 1, (Lib.join x.2.1 [32]).length, u8s (Lib.join x.2.1 [32])⟩], 1, x.2.2.2⟩)
    (fun x => leM m x.2.2.2 ∧ Rds x.2.2.2 a n 4 (tkCells ts) ∧ x.1 ≤ n ∧ x.2.1.length = x.1 ∧ (∀ y ∈ x.2.1, y.length ≤ 10000000) ∧ fmtsL ts = preL x.2.1 (fmtsL (ts.drop x.1))) (fun x => n - x.1) (0, [], 0, m) (by kernel_rfl) (fun _ _ => Nnr _) (fun x hx => hx.1) (fun _ => ?_) ?_ ?_ ?_
   ·simp only [go_sem, ↓tfi, ↓fti, ↓reduceIte]
   ·simp only [go_sem, ↓tfi, ↓fti, ↓reduceIte]
    exact ⟨rfl, rfl, rfl⟩
   ·refine ⟨.inl rfl, h, Nat.zero_le _, rfl, (fun y hy => by cases hy), ?_⟩
    simp [preL]
   ·rintro ⟨k, acc, u, mm⟩ ⟨h1, h3, h4, h5, h7, h6⟩
    simp only at h1 h3 h4 h5 h6 h7
    have hr : ∀ (hkl : k < ts.length), Rd mm (ptrAt a (k * 4)) (tkC ts[k]) ∧ a ≠ none := fun hkl => by
     have := Rds_cells h3 (i := k) (by omega)
     rwa [tk_at hkl] at this
    have hfs : ∀ (hkl : k < ts.length), _ := fun hkl => (rformat_spec ts[k] mm (ht _ (List.getElem_mem hkl))).mono fun r H' m' _ h => And.intro h.1 (And.intro h.2.1 (FOut_two h.2.2))
    have hjs := fun hkl : k = n => show fmtsL ts = some acc by rw [h6, List.drop_eq_nil_of_le (by omega)]; simp [fmtsL, preL]
    have hjl := join_len [32] 10000000 acc h7
    simp only [List.length_singleton] at hjl
    simp only [go_sem, ↓tfi, ↓fti, ↓reduceIte]
    refine ⟨fun hlt => ?_, fun hge => ?_⟩
    ·have hkl : k < ts.length := by clear hr hfs; omega
     refine ⟨⟨by clear hr hfs; omega, hlt, (hr hkl).2⟩, tkC ts[k], ⟨(hr hkl).1, rfl⟩, ?_⟩
     simp only [go_sem, ↓tfi, ↓fti, ↓reduceIte, tkC]
     refine cvl ((hfs hkl).mono ?_)
     clear hfs
     rintro r H' m' hm ⟨hle, rfl, x, e, rfl, hx⟩
     have hm' : leM m m' := leM_trans2 h1 hle
     simp only [go_sem, ↓tfi, ↓fti, ↓reduceIte]
     refine ⟨fun he => ⟨hm', ?_⟩, fun he => ?_⟩
     ·rcases hx with ⟨h8, _⟩ | ⟨rfl, rfl, h8⟩
      ·exact absurd h8 he
      ·rw [hj, h6, fmts_no hkl h8]
       rfl
     ·have hfx : fmtL ts[k] = some x := by
       rcases hx with ⟨_, h8⟩ | ⟨h8, _⟩
       ·exact h8
       ·rw [he] at h8; cases h8
      have hxl := fmtL_len (ht _ (List.getElem_mem hkl)) hfx
      have hsn := join_snoc acc x
      have hall : ∀ y ∈ acc ++ [x], y.length ≤ 10000000 := fun y hy => by
       rcases List.mem_append.1 hy with hy | hy
       ·exact h7 y hy
       ·rw [List.mem_singleton.1 hy]; exact hxl
      have hf' : fmtsL ts = preL (acc ++ [x]) (fmtsL (ts.drop (k + 1))) := by
       rw [h6, fmts_yes hkl hfx]
       cases fmtsL (ts.drop (k + 1)) <;> simp [preL]
      have hlen : (acc ++ [x]).length = k + 1 := by rw [Lla, h5]; rfl
      refine ⟨fun h0 => ?_, fun h0 => ?_⟩
      ·have hne : acc ≠ [] := by
        rintro rfl
        simp only [Lln] at h5
        omega
       rw [if_neg hne] at hsn
       refine ⟨⟨by omega, by simp only [maxLen]; omega⟩, ⟨by omega, by simp only [maxLen]; omega⟩, by unfold I64; omega, (k + 1, acc ++ [x], u + 1 + 1, m'), ⟨⟨rfl, rfl⟩, ⟨rfl, ?_, ?_⟩, .inl rfl⟩, ⟨hm', xRds_upM hle h3, by simp only; omega, hlen, hall, hf'⟩, by simp only; omega⟩
       ·simp only [hsn, Lla, List.length_singleton]
       ·simp only [hsn, u8s_app]; rfl
      ·have he0 : acc = [] := List.eq_nil_of_length_eq_zero (by omega)
       rw [if_pos he0] at hsn
       subst he0
       refine ⟨⟨by simp only [Lib.join_nil, Lln]; omega, by simp only [maxLen, Lib.join_nil, Lln]; omega⟩, by unfold I64; omega, (k + 1, [] ++ [x], u + 1, m'), ⟨⟨rfl, rfl⟩, ⟨rfl, ?_, ?_⟩, .inl rfl⟩, ⟨hm', xRds_upM hle h3, by simp only; omega, hlen, hall, hf'⟩, by simp only; omega⟩
       ·simp only [hsn, Lib.join_nil, Lln, Nat.zero_add]
       ·simp only [hsn, Lib.join_nil]; rfl
    ·have hacc : fmtsL ts = some acc := hjs (by clear hfs; omega)
     refine ⟨fun hx => ⟨h1, ?_⟩, fun hx => ⟨_, rfl, h1, ?_⟩⟩
     ·rw [hj, hacc]
      simp only [if_pos (show 20000 < (Lib.join acc [32]).length by clear hfs; omega)]
     ·rw [hj, hacc]
      simp only [if_neg (show ¬ 20000 < (Lib.join acc [32]).length by clear hfs; omega)]
theorem ixb_no : ∀ (s : List UInt8), (∀ c ∈ s, c.toNat ≠ 47) → Lib.indexByte s 47 = -1
 | [], _ => rfl
 | b :: l, h => by
  have hb : (b == 47) = false := by
   rw [beq_eq_false_iff_ne]
   intro e
   exact h b (List.mem_cons_self ..) (by rw [e]; rfl)
  have ih := ixb_no l fun c hc => h c (List.mem_cons_of_mem _ hc)
  simp [Lib.indexByte, hb, ih]
theorem ixb_in : ∀ (s : List UInt8), (∃ c ∈ s, c.toNat = 47) → 0 ≤ Lib.indexByte s 47
 | [], h => by obtain ⟨c, hc, _⟩ := h; cases hc
 | b :: l, h => by
  unfold Lib.indexByte
  split
  ·exact Int.le_refl _
  ·rename_i hb
   have : ∃ c ∈ l, c.toNat = 47 := by
    obtain ⟨c, hc, he⟩ := h
    rcases List.mem_cons.1 hc with rfl | hc
    ·exact absurd (beq_iff_eq.2 (UInt8.toNat_inj.1 (he.trans rfl))) hb
    ·exact ⟨c, hc, he⟩
   have ih := ixb_in l this
   split
   ·rename_i h1
    have := eq_of_beq h1
    omega
   ·omega
theorem part_in {s : List UInt8} (h : ∃ c ∈ s, c.toNat = 47) : isPart s = false := by
 obtain ⟨c, hc, he⟩ := h
 cases s with
 | nil => cases hc
 | cons b r =>
  rcases List.mem_cons.1 hc with rfl | hc
  ·simp [isPart, isStartB, he]
  ·have : r.all isMid = false := by
    rw [List.all_eq_false]
    exact ⟨c, hc, by simp [isMid, isStartB, isDigitB, he]⟩
   rw [isPart, this, Bool.and_false]
theorem isMem_part (s : List UInt8) : isMem s = (decide (s = initS) || decide (s = clinitS) || (decide (s.length ≤ 64) && isPart s)) := by
 rw [isMem, isName]
 by_cases h : ∃ c ∈ s, c.toNat = 47
 ·have h1 := ixb_in s h
  have h2 : decide (Lib.indexByte s 47 < 0) = false := decide_eq_false (by omega)
  rw [part_in h, h2, Bool.and_false, Bool.and_false]
 ·have h2 : ∀ c ∈ s, c.toNat ≠ 47 := fun c hc he => h ⟨c, hc, he⟩
  rw [ixb_no s h2, nm_last s h2]
  simp
theorem rmem_spec (s : List UInt8) (m : Mem) (hs : BL s) : FnH Tryz.prog 170 [.v (.string (bs s))] ⟨[], []⟩ m fun r H' _ => r = .v (.bool (isMem s)) ∧ H' = ⟨[], []⟩ := by
 refine enter cf5 pu5 Tryz.func170 rfl rfl (by kernel_rfl) rfl ?_ ?_
 ·simp only [go_sem, ↓tfi, ↓fti, ↓reduceIte]
 ·simp only [go_sem, ↓tfi, ↓fti, ↓reduceIte]
  rw [isMem_part]
  have e : decide ((s.length : Int) ≤ 64) = decide (s.length ≤ 64) := by rw [decide_eq_decide]; omega
  rw [e]
  exact ⟨fun _ => hs, rfl⟩
abbrev cfR : Cfg := mkCf (fun _ => false) [(170, pS1 BL fun s => .bool (isMem s)), (77, pS1 BL fun s => .bool (isCls s))]
theorem puR : PureOk cfR Tryz.prog := pure_cons (by kernel_rfl) (pureS rmem_spec) (pure_cons (by kernel_rfl) (pureS risCls_spec) pure_nil)
theorem rident_spec (s : List UInt8) (m : Mem) (hs : BL s) : FnH Tryz.prog 114 [.v (.string (bs s))] ⟨[], []⟩ m fun r H' _ => r = .v (.bool (identL s)) ∧ H' = ⟨[], []⟩ := by
 refine enter cfR puR Tryz.func114 rfl rfl (by kernel_rfl) rfl ?_ ?_
 ·simp only [go_sem, ↓tfi, ↓fti, ↓reduceIte]
 ·simp only [go_sem, ↓tfi, ↓fti, ↓reduceIte]
  have e : ∀ u : UInt8, ((u.toNat : Int) = 60) = (u = 60) := fun u => propext ⟨fun h => UInt8.toNat_inj.1 (by have : (60 : UInt8).toNat = 60 := rfl; omega), fun h => by rw [h]; rfl⟩
  simp only [e]
  refine ⟨hs, fun h => ⟨by omega, by have := isMem_ne h; omega⟩, fun _ => hs, fun h => cvl ((rkeywords_spec m).mono ?_), fun h => ?_⟩
  ·rintro r H' m' hm ⟨rfl, rfl, rfl⟩
   simp only [go_sem, ↓tfi, ↓fti, ↓reduceIte]
   refine ⟨by kernel_rfl, fun a c m1 hm1 hc hrd => FnV_of ((has_spec keywordsL s a 28 c m1 hrd (by omega)).mono ?_)⟩
   rintro r H' m' hm2 ⟨rfl, rfl⟩
   have h1 := h.1.1
   have h2 := h.1.2
   have h3 := h.2
   generalize hb : keywordsL.contains s = kb
   simp only [go_sem, ↓tfi, ↓fti, ↓reduceIte]
   rw [identL, h1, h3, hb, decide_eq_true h2]
   rfl
  ·rw [identL]
   rcases h with (h | h) | h
   ·simp [h]
   ·have : decide (s.getD 0 0 ≠ 60) = false := by rw [h]; rfl
    rw [this]; simp
   ·simp [h]
abbrev cfR3 : Cfg := mkCf (fun _ => false) [(152, pS1 BL fun s => .bool (isName s))]
theorem puR3 : PureOk cfR3 Tryz.prog := pure_cons (by kernel_rfl) (pureS risName_spec) pure_nil
theorem rvalid_spec (d b : Int) (s : List UInt8) (m : Mem) (hs : BL s) : FnH Tryz.prog 173 [.v (.agg ⟨[.int .i64 d, .int .u8 b, .string (bs s)]⟩)] ⟨[], []⟩ m fun r H' _ => r = .v (.bool (validTy d b s)) ∧ H' = ⟨[], []⟩ := by
 refine enter cfR3 puR3 Tryz.func173 rfl rfl (by kernel_rfl) rfl ?_ ?_
 ·simp only [go_sem, ↓tfi, ↓fti, ↓reduceIte]
 ·simp only [go_sem, ↓tfi, ↓fti, ↓reduceIte]
  refine ⟨fun h => by simp only [validTy, if_pos h], fun h => ?_⟩
  have h0 : ¬ (d < 0 ∨ 8 < d) := fun h' => h'.elim h.1 h.2
  simp only [validTy, if_neg h0]
  refine ⟨fun h1 => ⟨fun _ => by simp [h1], fun n => absurd h1 n⟩, fun h1 => ⟨fun h2 => by simp [h2], fun h2 => ⟨fun h3 => by simp [h3, Bool.and_comm], fun h3 => ⟨fun h4 => ⟨hs, by simp [h4]⟩, fun h4 => by simp [h1, h2, h3, h4]⟩⟩⟩⟩
abbrev cfR4 : Cfg := mkCf (fun _ => false) [(173, pTy validTy), (77, pS1 BL fun s => .bool (isCls s))]
theorem puR4 : PureOk cfR4 Tryz.prog := pure_cons (by kernel_rfl) (pureTy rvalid_spec) (pure_cons (by kernel_rfl) (pureS risCls_spec) pure_nil)
theorem rvalue_spec (d b : Int) (s : List UInt8) (m : Mem) (hs : BL s) : FnH Tryz.prog 115 [.v (.agg ⟨[.int .i64 d, .int .u8 b, .string (bs s)]⟩)] ⟨[], []⟩ m fun r H' _ => r = .v (.bool (valueTy d b s)) ∧ H' = ⟨[], []⟩ := by
 refine enter cfR4 puR4 Tryz.func115 rfl rfl (by kernel_rfl) rfl ?_ ?_
 ·simp only [go_sem, ↓tfi, ↓fti, ↓reduceIte]
 ·simp only [go_sem, ↓tfi, ↓fti, ↓reduceIte]
  refine ⟨hs, fun _ => hs, ?_⟩
  simp [valueTy]
theorem roper_spec (s : List UInt8) (m : Mem) (_ : BL s) : FnH Tryz.prog 116 [.v (.string (bs s))] ⟨[], []⟩ m fun r H' _ => r = .v (.bool (opsL.contains s)) ∧ H' = ⟨[], []⟩ := by
 refine enter cfN puN Tryz.func116 rfl rfl (by kernel_rfl) rfl ?_ ?_
 ·simp only [go_sem, ↓tfi, ↓fti, ↓reduceIte]
 ·simp only [go_sem, ↓tfi, ↓fti, ↓reduceIte]
  refine ⟨by kernel_rfl, fun a c m1 hm hc hr => FnV_of ((has_spec opsL s a 19 c m1 hr (by omega)).mono ?_)⟩
  rintro r H' m' hm2 ⟨rfl, rfl⟩
  generalize opsL.contains s = kb
  simp only [go_sem, ↓tfi, ↓fti, ↓reduceIte]
theorem rplain_spec (s : List UInt8) (m : Mem) (hs : BL s) : FnH Tryz.prog 113 [.v (.string (bs s))] ⟨[], []⟩ m fun r H' _ => r = .v (.bool (printL s)) ∧ H' = ⟨[], []⟩ := by
 refine enter cf0 pu0 Tryz.func113 rfl rfl (by kernel_rfl) rfl ?_ ?_
 ·simp only [go_sem, ↓tfi, ↓fti, ↓reduceIte]
 ·simp only [go_sem, ↓tfi, ↓fti, ↓reduceIte]
  refine WP_loop pu0 (fun k : Nat => ⟨[⟨0, [], .v (.string (bs s))⟩, ⟨3, [], .v (.int .i64 k)⟩], [], [], [], 0, m⟩)
   (fun k => k ≤ s.length ∧ (s.take k).all printB = true) (fun k => s.length - k) 0 (by kernel_rfl) (fun _ _ => Nnr _) (fun _ _ => .inl rfl) (fun _ => ?_) ?_ ?_ ?_
  ·simp only [go_sem, ↓tfi, ↓fti, ↓reduceIte]
  ·simp only [go_sem, ↓tfi, ↓fti, ↓reduceIte]
   rfl
  ·simp
  ·rintro k ⟨hk, hp⟩
   simp only [go_sem, ↓tfi, ↓fti, ↓reduceIte]
   refine ⟨fun hlt => ?_, fun hge => ?_⟩
   ·have hkl : k < s.length := by omega
    have hd := drop_at hkl
    refine ⟨⟨by omega, hlt⟩, fun _ => ⟨by omega, hlt⟩, fun _ => ⟨by omega, hlt⟩, fun h => ?_, fun h => ⟨by unfold I64; have : s.length ≤ 4611686018427387904 := hs; omega, k + 1, by omega, ⟨by omega, ?_⟩, by omega⟩⟩
    ·have hb : printB (s.getD k 0) = false := by
      simp only [printB, Bool.or_eq_false_iff, Bool.and_eq_false_iff, decide_eq_false_iff_not]
      exact ⟨by omega, by omega⟩
     have : s.all printB = false := by
      rw [← List.take_append_drop k s, List.all_append, hd, List.all_cons, hb]
      simp
     rw [printL, this, Bool.false_and]
    ·have hb : printB (s.getD k 0) = true := by
      simp only [printB, Bool.or_eq_true, Bbt, decide_eq_true_eq]
      omega
     rw [List.take_succ_eq_append_getElem hkl, List.all_append, hp, List.all_cons]
     have e : s.getD k 0 = s[k] := by rw [List.getD_eq_getElem?_getD, List.getElem?_eq_getElem hkl]; rfl
     rw [e] at hb
     simp [hb]
   ·rw [List.take_of_length_le (by omega)] at hp
    rw [printL, hp, Bool.true_and, decide_eq_decide]
    omega
theorem Ty.eq_s (x : Ty) : Ty.eq x x = true := by simp [Ty.eq]
mutual
theorem eqE_s : ∀ (e : Ex), eqE e e = true
 | .mk k n s c ty args => by rw [eqE, Ty.eq_s, eqEs_s args]; simp
theorem eqEs_s : ∀ (l : List Ex), eqEs l l = true
 | [] => by simp only [eqEs]
 | e :: r => by rw [eqEs, eqE_s e, eqEs_s r]; rfl
end
mutual
theorem eqS_s : ∀ (e : St), eqS e e = true
 | .mk k nm ty tg ex body alt => by rw [eqS, Ty.eq_s, eqE_s, eqE_s, eqSs_s body, eqSs_s alt]; simp
theorem eqSs_s : ∀ (l : List St), eqSs l l = true
 | [] => by simp only [eqSs]
 | e :: r => by rw [eqSs, eqS_s e, eqSs_s r]; rfl
end
theorem eqE_z (e : Ex) : eqE e zE = emptyE e := by
 cases e with
 | mk k n s c ty args =>
  have : eqEs args [] = decide (args.length = 0) := by cases args <;> simp [eqEs]
  simp only [zE, eqE, emptyE, emptyL, this]
  grind
theorem eqSs_nil (l : List St) : eqSs l [] = decide (l.length = 0) := by cases l <;> simp [eqSs]
def typedR (nm : List UInt8) (ty : Ty) (t : Bool) : Bool := if t = true then valueTy ty.dim ty.base ty.name && identL nm else Ty.eq ty zTy && decide (nm = [])
def shapeR (nm : List UInt8) (ty : Ty) (tg : Ex) (body alt : List St) (t t2 a b : Bool) : Bool :=
 typedR nm ty t && (t2 || emptyE tg) && (a || decide (body.length = 0)) && (b || decide (alt.length = 0)) && blockL false body && blockL false alt
def stmR (k : Int) (nm : List UInt8) (ty : Ty) (tg ex : Ex) (body alt : List St) : Bool :=
 if k = 1 then shapeR nm ty tg body alt true false false false && validE ex
 else if k = 2 then shapeR nm ty tg body alt false true false false && validE ex && validE tg && (decide (tg.k = 6) || decide (tg.k = 7) || decide (tg.k = 8) || decide (tg.k = 9))
 else if k = 3 then shapeR nm ty tg body alt false false false false && validE ex && (decide (ex.k = 10) || decide (ex.k = 11) || decide (ex.k = 12) || decide (ex.k = 13))
 else if k = 4 then shapeR nm ty tg body alt false false true true && validE ex
 else if k = 5 ∨ k = 9 then shapeR nm ty tg body alt false false true false && validE ex
 else if k = 6 then shapeR nm ty tg body alt false false false false && (emptyE ex || validE ex)
 else if k = 7 then shapeR nm ty tg body alt false false false false && validE ex
 else if k = 8 then shapeR nm ty tg body alt true false true true && emptyE ex
 else if k = 10 then shapeR nm ty tg body alt false false true false && emptyE ex
 else if k = 11 then shapeR nm ty tg body alt false false false false && superE ex
 else false
theorem blockL_nil (l : List St) (h : decide (l.length = 0) = true) (b : Bool) : blockL b l = true := by
 cases l with
 | nil => simp [blockL, validSs]
 | cons a r => simp at h
theorem stm_eq (k : Int) (nm : List UInt8) (ty : Ty) (tg ex : Ex) (body alt : List St) : validS (.mk k nm ty tg ex body alt) = stmR k nm ty tg ex body alt := by
 have h1 := blockL_nil body
 have h2 := blockL_nil alt
 rw [validS]
 change (okStm k nm ty tg ex (blockL false body && blockL false alt) && _) = _
 generalize hb : blockL false body = b1
 generalize ha : blockL false alt = b2
 by_cases k1 : k = 1
 ·subst k1
  simp only [stmR, okStm, usedS, shapeR, typedR, if_true, eqS, eqE_s, eqE_z, eqSs_nil, eqSs_s, Ty.eq_s, hb, ha, decide_true]
  grind
 by_cases k2 : k = 2
 ·subst k2
  simp only [stmR, okStm, usedS, shapeR, typedR, if_true, if_false, Int.reduceEq, eqS, eqE_s, eqE_z, eqSs_nil, eqSs_s, Ty.eq_s, hb, ha, decide_true, targetE]
  grind
 by_cases k3 : k = 3
 ·subst k3
  simp only [stmR, okStm, usedS, shapeR, typedR, if_true, if_false, or_false, Int.reduceEq, eqS, eqE_s, eqE_z, eqSs_nil, eqSs_s, Ty.eq_s, hb, ha, decide_true, callE]
  grind
 by_cases k4 : k = 4
 ·subst k4
  simp only [stmR, okStm, usedS, shapeR, typedR, if_true, if_false, or_false, true_or, Int.reduceEq, eqS, eqE_s, eqE_z, eqSs_nil, eqSs_s, Ty.eq_s, hb, ha, decide_true]
  grind
 by_cases k5 : k = 5
 ·subst k5
  simp only [stmR, okStm, usedS, shapeR, typedR, if_true, if_false, or_false, true_or, or_true, Int.reduceEq, eqS, eqE_s, eqE_z, eqSs_nil, eqSs_s, Ty.eq_s, hb, ha, decide_true]
  grind
 by_cases k6 : k = 6
 ·subst k6
  simp only [stmR, okStm, usedS, shapeR, typedR, if_true, if_false, or_false, true_or, or_true, Int.reduceEq, eqS, eqE_s, eqE_z, eqSs_nil, eqSs_s, Ty.eq_s, hb, ha, decide_true]
  grind
 by_cases k7 : k = 7
 ·subst k7
  simp only [stmR, okStm, usedS, shapeR, typedR, if_true, if_false, or_false, true_or, or_true, Int.reduceEq, eqS, eqE_s, eqE_z, eqSs_nil, eqSs_s, Ty.eq_s, hb, ha, decide_true]
  grind
 by_cases k8 : k = 8
 ·subst k8
  simp only [stmR, okStm, usedS, shapeR, typedR, if_true, if_false, or_false, true_or, or_true, Int.reduceEq, eqS, eqE_s, eqE_z, eqSs_nil, eqSs_s, Ty.eq_s, hb, ha, decide_true]
  grind
 by_cases k9 : k = 9
 ·subst k9
  simp only [stmR, okStm, usedS, shapeR, typedR, if_true, if_false, or_false, true_or, or_true, Int.reduceEq, eqS, eqE_s, eqE_z, eqSs_nil, eqSs_s, Ty.eq_s, hb, ha, decide_true]
  grind
 by_cases k10 : k = 10
 ·subst k10
  simp only [stmR, okStm, usedS, shapeR, typedR, if_true, if_false, or_false, true_or, or_true, Int.reduceEq, eqS, eqE_s, eqE_z, eqSs_nil, eqSs_s, Ty.eq_s, hb, ha, decide_true]
  grind
 by_cases k11 : k = 11
 ·subst k11
  simp only [stmR, okStm, usedS, shapeR, typedR, if_true, if_false, or_false, true_or, or_true, Int.reduceEq, eqS, eqE_s, eqE_z, eqSs_nil, eqSs_s, Ty.eq_s, hb, ha, decide_true]
  grind
 simp only [stmR, okStm, k1, k2, k3, k4, k5, k6, k7, k8, k9, k10, k11, if_false, or_false, Bool.false_and]
def bareR (u : List UInt8) (n : Int) (s c : List UInt8) (ty : Ty) : Bool := (u.contains 78 || decide (n = 0)) && (u.contains 83 || decide (s = [])) && (u.contains 67 || decide (c = [])) && (u.contains 84 || Ty.eq ty zTy)
def nodeR (k n : Int) (s c : List UInt8) (ty : Ty) (l : Nat) : Bool :=
 if k = 1 then bareR [78] n s c ty && decide ((l : Int) = 0) && decide (0 ≤ n) && decide (n < 2147483648)
 else if k = 2 then bareR [78] n s c ty && decide ((l : Int) = 0) && decide (0 ≤ n)
 else if k = 3 then bareR [83] n s c ty && decide ((l : Int) = 0) && printL s
 else if k = 4 ∨ k = 5 then bareR [] n s c ty && decide ((l : Int) = 0)
 else if k = 6 then bareR [83] n s c ty && decide ((l : Int) = 0) && identL s
 else if k = 7 then bareR [83] n s c ty && decide ((l : Int) = 1) && identL s
 else if k = 8 then bareR [83, 67] n s c ty && decide ((l : Int) = 0) && identL s && isCls c
 else if k = 9 then bareR [] n s c ty && decide ((l : Int) = 2)
 else if k = 10 then bareR [83] n s c ty && decide (1 ≤ (l : Int)) && decide ((l : Int) ≤ 17) && identL s
 else if k = 11 then bareR [83, 67] n s c ty && decide ((l : Int) ≤ 16) && identL s && isCls c
 else if k = 12 then bareR [83] n s c ty && decide ((l : Int) ≤ 16) && identL s
 else if k = 13 then bareR [67] n s c ty && decide ((l : Int) ≤ 16) && isCls c
 else if k = 14 then bareR [84] n s c ty && decide ((l : Int) = 1) && valueTy ty.dim ty.base ty.name && decide (ty.dim < 8)
 else if k = 15 then bareR [83] n s c ty && decide ((l : Int) = 1) && (decide (s = [45]) || decide (s = [33]))
 else if k = 16 then bareR [83] n s c ty && decide ((l : Int) = 2) && opsL.contains s
 else if k = 17 ∨ k = 18 then bareR [84] n s c ty && decide ((l : Int) = 1) && valueTy ty.dim ty.base ty.name
 else if k = 19 ∨ k = 20 ∨ k = 21 then bareR [] n s c ty && decide ((l : Int) = 1)
 else false
theorem node_eq (k n : Int) (s c : List UInt8) (ty : Ty) (l : Nat) : nodeR k n s c ty l = nodeL k n s c ty.dim ty.base ty.name l := by
 have h1 : bareR [78] n s c ty = (decide (s = []) && decide (c = []) && Ty.eq ty zTy) := by simp [bareR]
 have h2 : bareR [83] n s c ty = (decide (n = 0) && decide (c = []) && Ty.eq ty zTy) := by simp [bareR]
 have h3 : bareR [] n s c ty = (decide (n = 0) && decide (s = []) && decide (c = []) && Ty.eq ty zTy) := by simp [bareR]
 have h4 : bareR [83, 67] n s c ty = (decide (n = 0) && Ty.eq ty zTy) := by simp [bareR]
 have h5 : bareR [67] n s c ty = (decide (n = 0) && decide (s = []) && Ty.eq ty zTy) := by simp [bareR]
 have h6 : bareR [84] n s c ty = (decide (n = 0) && decide (s = []) && decide (c = [])) := by simp [bareR]
 have ht : Ty.eq ty zTy = (decide (ty.dim = 0) && (decide (ty.base = 0) && decide (ty.name = []))) := rfl
 by_cases hk : isKind k = true
 ·have hk' := kinds hk
  rw [nodeL, hk]
  generalize hg1 : printL s = g1
  generalize hg2 : opsL.contains s = g2
  generalize hg3 : identL s = g3
  generalize hg4 : isCls c = g4
  generalize hg5 : valueTy ty.dim ty.base ty.name = g5
  rcases hk' with rfl | rfl | rfl | rfl | rfl | rfl | rfl | rfl | rfl | rfl | rfl | rfl | rfl | rfl | rfl | rfl | rfl | rfl | rfl | rfl | rfl <;>
   simp only [nodeR, shapeL, litL, Int.reduceEq, if_true, if_false, or_true, or_false, true_or, false_or, h1, h2, h3, h4, h5, h6, hg1, hg2, hg3, hg4, hg5, ht, Bool.false_eq_true, Bool.true_and] <;> grind
 ·rw [Bool.not_eq_true] at hk
  rw [nodeL, hk]
  have : ∀ j : Int, 1 ≤ j → j ≤ 21 → ¬ k = j := fun j h1 h2 h => by rw [h] at hk; simp [isKind, h1, h2] at hk
  simp only [nodeR, this 1 (by decide) (by decide), this 2 (by decide) (by decide), this 3 (by decide) (by decide), this 4 (by decide) (by decide), this 5 (by decide) (by decide), this 6 (by decide) (by decide), this 7 (by decide) (by decide), this 8 (by decide) (by decide), this 9 (by decide) (by decide), this 10 (by decide) (by decide), this 11 (by decide) (by decide), this 12 (by decide) (by decide), this 13 (by decide) (by decide), this 14 (by decide) (by decide), this 15 (by decide) (by decide), this 16 (by decide) (by decide), this 17 (by decide) (by decide), this 18 (by decide) (by decide), this 19 (by decide) (by decide), this 20 (by decide) (by decide), this 21 (by decide) (by decide), or_false, if_false, Bool.false_and]
theorem badN_spec (d : Md) (cs : List Value) (m : Mem) (hg : Glob m) (h : mdRep m d cs) : Ans 70 [.v (.agg ⟨cs⟩)] m (.bool (!methodL d)) := by
 have hM := method_spec d cs m hg h
 obtain ⟨x, rfl⟩ := mdRep_mc h
 refine enter cfN puN Tryz.func70 rfl rfl (by kernel_rfl) rfl ?_ ?_
 ·simp only [go_sem, ↓tfi, ↓fti, ↓reduceIte, Mc.cs]
 ·simp only [go_sem, ↓tfi, ↓fti, ↓reduceIte, Mc.cs]
  refine cvl ((FnH_den hM (fun V => rfl)).mono ?_)
  rintro r H' m2 hm2 ⟨hle2, rfl, rfl⟩
  simp only [go_sem, ↓tfi, ↓fti, ↓reduceIte]
  exact hle2
theorem badI_of (d : Md) (cs : List Value) (m m' : Mem) (h : mdRep m d cs) : Ans 141 [.v (.agg ⟨cs⟩)] m' (.bool (badM d)) := by
 obtain ⟨x, ⟨rfl, h1, h2, h3, h4⟩, _⟩ := h
 have := badI_spec x m'
 rw [h1, h3] at this
 exact this
theorem ctM (f : FuncId) (p : Md → Bool) (l : List Md) (a : Option Addr) (n c : Nat) (xs : List Value) (m : Mem) (hl : n = l.length) (hr : Rds m a n 8 xs) (hs : lsRep (mdRep m) 8 l xs) (hn : n ≤ big) (hok : fnOk Tryz.prog f = true)
  (hf : ∀ d ∈ l, ∀ cs m', leM m m' → mdRep m' d cs → Ans f [.v (.agg ⟨cs⟩)] m' (.bool (p d))) :
  Ans 74 [.v (.slice a n c), .v (.func (.func f) ⟨[]⟩ ⟨[]⟩)] m (.bool (l.any p)) := by
 have := ctfMc f (atP p l) a n c xs m hr hn hok fun i hi => by
  have hil : i < l.length := by omega
  have hrep := ls_at hs hil
  obtain ⟨X, hX⟩ := mdRep_mc hrep
  rw [hX] at hrep
  refine ⟨X, hX, fun m' hle => ?_⟩
  rw [atP_at hil]
  exact hf _ (List.getElem_mem hil) _ m' hle (mdRep_up hle hrep)
 rw [any_of hl (p := p) fun i hi => atP_at hi] at this
 exact this
theorem ctF (f : FuncId) (p : Fc → Bool) (l : List Fc) (a : Option Addr) (n c : Nat) (m : Mem) (hl : n = l.length) (hr : Rds m a n 5 (flat Fc.cs l)) (hn : n ≤ big) (hok : fnOk Tryz.prog f = true)
  (hf : ∀ d ∈ l, ∀ m', leM m m' → Ans f [.v (.agg ⟨d.cs⟩)] m' (.bool (p d))) :
  Ans 73 [.v (.slice a n c), .v (.func (.func f) ⟨[]⟩ ⟨[]⟩)] m (.bool (l.any p)) := by
 have := ctfFc f (atP p l) a n c _ m hr hn hok fun i hi => by
  have hil : i < l.length := by omega
  refine ⟨l[i], flat_at (f := Fc.cs) (sz := 5) (fun _ => rfl) hil, fun m' hle => ?_⟩
  rw [atP_at hil]
  exact hf _ (List.getElem_mem hil) m' hle
 rw [any_of hl (p := p) fun i hi => atP_at hi] at this
 exact this
theorem ctS (f : FuncId) (p : List UInt8 → Bool) (l : List (List UInt8)) (a : Option Addr) (n c : Nat) (m : Mem) (hl : n = l.length) (hr : Rds m a n 1 (strs l)) (hn : n ≤ big) (hok : fnOk Tryz.prog f = true)
  (hf : ∀ d ∈ l, ∀ m', leM m m' → Ans f [.v (.string (bs d))] m' (.bool (p d))) :
  Ans 72 [.v (.slice a n c), .v (.func (.func f) ⟨[]⟩ ⟨[]⟩)] m (.bool (l.any p)) := by
 have := ctfS f (atP p l) a n c _ m hr hn hok fun i hi => by
  have hil : i < l.length := by omega
  refine ⟨l[i], ?_, fun m' hle => ?_⟩
  ·rw [strs, List.getElem?_map, List.getElem?_eq_getElem hil]; rfl
  ·rw [atP_at hil]
   exact hf _ (List.getElem_mem hil) m' hle
 rw [any_of hl (p := p) fun i hi => atP_at hi] at this
 exact this
theorem iface_spec (d : Cd) (cs : List Value) (m : Mem) (h : cdRep m d cs) : Ans 64 [.v (.agg ⟨cs⟩)] m (.bool (ifaceL d)) := by
 obtain ⟨fl, name, super, ifs, fields, methods, init⟩ := d
 obtain ⟨x, ⟨rfl, rfl, rfl, rfl⟩, ⟨hil, hic, hfn, hfc, hml, hmc, hsl, hsc⟩, hok, r1, r2, xs, ys, r3, s3, r4, s4⟩ := h
 simp only at hil hfn hml hsl r1 r2 s3 s4
 have hM := ctM 141 badM methods x.ma x.ml x.mc xs m hml r3 s3 (by rw [hml]; exact hok.ml) (by kernel_rfl) fun d _ cs m' hle hrep => badI_of d cs m' m' hrep
 have b1 := hok.fn
 have b2 := hok.l
 clear s3 s4
 refine enter cfF puF Tryz.func64 rfl rfl (by kernel_rfl) rfl ?_ ?_
 ·simp only [go_sem, ↓tfi, ↓fti, ↓reduceIte, Cc.cs]
 ·simp only [go_sem, ↓tfi, ↓fti, ↓reduceIte, Cc.cs]
  have e0 : ifaceL ⟨x.fl, x.name, x.super, ifs, fields, methods, init⟩ = (onlyL x.fl 1537 && hasB x.fl 1024 && decide (x.super = objS) && decide (fields.length + init.length = 0) && !(methods.any badM)) := rfl
  simp only at b1 b2
  refine ⟨fun _ => by clear hM; unfold I64; simp only [big] at b1 b2; omega, fun c => cvl (hM.mono ?_), fun c => ?_⟩
  ·have g : fields.length + init.length = 0 := by clear hM; omega
   clear hM
   rintro r H' m2 hm2 ⟨hle2, rfl, rfl⟩
   simp only [go_sem, ↓tfi, ↓fti, ↓reduceIte, Cc.cs]
   refine ⟨hle2, ?_⟩
   rw [e0, c.1.1.1, hasB, decide_eq_false c.1.1.2, decide_eq_true (show x.super = objS from c.1.2), decide_eq_true g]
   rfl
  ·clear hM
   rw [e0]
   rcases c with ((c | c) | c) | c
   ·simp [c]
   ·simp [hasB, c]
   ·rw [decide_eq_false (show ¬ x.super = objS from c)]; simp
   ·rw [decide_eq_false (by omega : ¬ fields.length + init.length = 0)]; simp
theorem class_spec2 (d : Cd) (cs : List Value) (m : Mem) (hg : Glob m) (h : cdRep m d cs) : Ans 32 [.v (.agg ⟨cs⟩)] m (.bool (classL d)) := by
 have hI := iface_spec d cs m h
 obtain ⟨fl, name, super, ifs, fields, methods, init⟩ := d
 obtain ⟨x, ⟨rfl, rfl, rfl, rfl⟩, ⟨hil, hic, hfn, hfc, hml, hmc, hsl, hsc⟩, hok, r1, r2, xs, ys, r3, s3, r4, s4⟩ := h
 simp only at hil hfn hml hsl r1 r2 s3 s4
 have hM := fun m' (hle : leM m m') => ctM 70 (fun d => !methodL d) methods x.ma x.ml x.mc xs m' hml (Rds_upM hle r3) (ls_up (fun _ _ => mdRep_up hle) s3) (by rw [hml]; exact hok.ml) (by kernel_rfl) fun d _ cs m2 hle2 hrep => badN_spec d cs m2 (hg.upM (leM_tr hle hle2)) hrep
 have hF := fun m' (hle : leM m m') => ctF 68 (fun d => !fieldL d) fields x.fa x.fn x.fc m' hfn (Rds_upM hle r2) (by rw [hfn]; exact hok.fn) (by kernel_rfl) fun d hd m2 hle2 => badF_spec d m2 (hok.fs d hd)
 have hS := fun m' (hle : leM m m') => ctS 66 (fun d => !isCls d) ifs x.ia x.il x.ic m' hil (Rds_upM hle r1) (by rw [hil]; exact hok.il) (by kernel_rfl) fun d hd m2 hle2 => badS_spec d m2 (Nat.le_trans (hok.ifs d hd) (by decide))
 have hB := fun m' (hle : leM m m') => block_all false init x.sa x.sl x.sc ys m' (hg.upM hle) hsl (Rds_upM hle r4) (stsRep_upM hle s4) (by rw [hsl]; exact hok.l)
 have h1 : BL x.name := Nat.le_trans hok.name (by decide)
 have h2 : BL x.super := Nat.le_trans hok.super (by decide)
 clear s3 s4
 refine enter cfF puF Tryz.func32 rfl rfl (by kernel_rfl) rfl ?_ ?_
 ·simp only [go_sem, ↓tfi, ↓fti, ↓reduceIte, Cc.cs]
 ·simp only [go_sem, ↓tfi, ↓fti, ↓reduceIte, Cc.cs]
  have e0 : cHead ⟨x.fl, x.name, x.super, ifs, fields, methods, init⟩ = true → classL ⟨x.fl, x.name, x.super, ifs, fields, methods, init⟩ = (cNames ⟨x.fl, x.name, x.super, ifs, fields, methods, init⟩ && !(ifs.any fun s => !isCls s) && cLens ⟨x.fl, x.name, x.super, ifs, fields, methods, init⟩ && !(fields.any fun f => !fieldL f) && !(methods.any fun f => !methodL f) && blockL false init) := fun h => by rw [classL, h]; rfl
  refine ⟨fun b => cvl ((FnH_den hI (fun V => rfl)).mono ?_), fun b => ⟨fun c => ?_, fun c => ?_⟩⟩
  ·clear hI
   rintro r H' m1 hm1 ⟨l1, rfl, rfl⟩
   simp only [go_sem, ↓tfi, ↓fti, ↓reduceIte, Cc.cs]
   have g : hasB x.fl 512 = true := by rw [hasB, decide_eq_false b]; rfl
   refine ⟨fun c => ?_, fun c => ?_⟩
   ·refine ⟨l1, ?_⟩
    rw [classL, cHead, if_pos g, c]; rfl
   ·have hH : cHead ⟨x.fl, x.name, x.super, ifs, fields, methods, init⟩ = true := by rw [cHead, if_pos g, c]
    refine ⟨h1, fun _ => h2, fun c => cvl ((hS m1 l1).mono ?_), fun c => ?_⟩
    ·clear hS
     rintro r H' n1 hn1 ⟨k1, rfl, rfl⟩
     simp only [go_sem, ↓tfi, ↓fti, ↓reduceIte, Cc.cs]
     have hN : cNames ⟨x.fl, x.name, x.super, ifs, fields, methods, init⟩ = true := by clear hF hM hB; simp only [cNames, c.1.1, c.1.2, decide_eq_true (by omega : ifs.length ≤ 8)]; rfl
     refine ⟨fun d => cvl ((hF n1 (leM_tr l1 k1)).mono ?_), fun d => ?_⟩
     ·clear hF
      rintro r H' n2 hn2 ⟨k2, rfl, rfl⟩
      simp only [go_sem, ↓tfi, ↓fti, ↓reduceIte, Cc.cs]
      have hL : cLens ⟨x.fl, x.name, x.super, ifs, fields, methods, init⟩ = true := by clear hM hB; simp only [cLens, decide_eq_true (by omega : fields.length ≤ 64), decide_eq_true (by omega : methods.length ≤ 64)]; rfl
      refine ⟨fun e => cvl ((hM n2 (leM_tr (leM_tr l1 k1) k2)).mono ?_), fun e => ?_⟩
      ·clear hM
       rintro r H' n3 hn3 ⟨k3, rfl, rfl⟩
       simp only [go_sem, ↓tfi, ↓fti, ↓reduceIte, Cc.cs]
       refine ⟨fun f => cvl ((hB n3 (leM_tr (leM_tr (leM_tr l1 k1) k2) k3)).mono ?_), fun f => ?_⟩
       ·clear hB
        rintro r H' n4 hn4 ⟨k4, rfl, rfl⟩
        simp only [go_sem, ↓tfi, ↓fti, ↓reduceIte, Cc.cs]
        refine ⟨leM_tr (leM_tr (leM_tr (leM_tr l1 k1) k2) k3) k4, ?_⟩
        rw [e0 hH, hN, d.1.1, hL, e, f]
        rfl
       ·refine ⟨leM_tr (leM_tr (leM_tr l1 k1) k2) k3, ?_⟩
        rw [e0 hH, f]; simp
      ·refine ⟨leM_tr (leM_tr l1 k1) k2, ?_⟩
       rw [e0 hH, e]; simp
     ·refine ⟨leM_tr l1 k1, ?_⟩
      clear hF hM hB
      rw [e0 hH]
      rcases d with (d | d) | d
      ·rw [d]; simp
      ·simp only [cLens, decide_eq_false (by omega : ¬ fields.length ≤ 64), Bool.false_and, Bool.and_false]
      ·simp only [cLens, decide_eq_false (by omega : ¬ methods.length ≤ 64), Bool.false_and, Bool.and_false]
    ·clear hS hF hM hB
     refine ⟨l1, ?_⟩
     rw [e0 hH]
     rcases c with (c | c) | c
     ·simp only [cNames, c, Bool.false_and]
     ·simp only [cNames, c, Bool.false_and, Bool.and_false]
     ·simp only [cNames, decide_eq_false (by omega : ¬ ifs.length ≤ 8), Bool.false_and, Bool.and_false]
  ·clear hI hM hF hS hB
   have g : ¬ hasB x.fl 512 = true := by rw [hasB, decide_eq_true b]; decide
   have : cHead ⟨x.fl, x.name, x.super, ifs, fields, methods, init⟩ = false := by
    rw [cHead, if_neg g]
    rcases c with c | c
    ·simp [c]
    ·simp [hasB, c]
   rw [classL, this]; rfl
  ·clear hI
   have g : ¬ hasB x.fl 512 = true := by rw [hasB, decide_eq_true b]; decide
   have hH : cHead ⟨x.fl, x.name, x.super, ifs, fields, methods, init⟩ = true := by
    clear hM hF hS hB
    rw [cHead, if_neg g]
    rcases c with ⟨c1, c | c⟩ <;> simp [hasB, c1, c]
   clear c
   refine ⟨h1, fun _ => h2, fun c => cvl ((hS m (.inl rfl : leM m m)).mono ?_), fun c => ?_⟩
   ·clear hS
    rintro r H' n1 hn1 ⟨k1, rfl, rfl⟩
    simp only [go_sem, ↓tfi, ↓fti, ↓reduceIte, Cc.cs]
    have hN : cNames ⟨x.fl, x.name, x.super, ifs, fields, methods, init⟩ = true := by clear hF hM hB; simp only [cNames, c.1.1, c.1.2, decide_eq_true (by omega : ifs.length ≤ 8)]; rfl
    refine ⟨fun d => cvl ((hF n1 (leM_tr (.inl rfl : leM m m) k1)).mono ?_), fun d => ?_⟩
    ·clear hF
     rintro r H' n2 hn2 ⟨k2, rfl, rfl⟩
     simp only [go_sem, ↓tfi, ↓fti, ↓reduceIte, Cc.cs]
     have hL : cLens ⟨x.fl, x.name, x.super, ifs, fields, methods, init⟩ = true := by clear hM hB; simp only [cLens, decide_eq_true (by omega : fields.length ≤ 64), decide_eq_true (by omega : methods.length ≤ 64)]; rfl
     refine ⟨fun e => cvl ((hM n2 (leM_tr (leM_tr (.inl rfl : leM m m) k1) k2)).mono ?_), fun e => ?_⟩
     ·clear hM
      rintro r H' n3 hn3 ⟨k3, rfl, rfl⟩
      simp only [go_sem, ↓tfi, ↓fti, ↓reduceIte, Cc.cs]
      refine ⟨fun f => cvl ((hB n3 (leM_tr (leM_tr (leM_tr (.inl rfl : leM m m) k1) k2) k3)).mono ?_), fun f => ?_⟩
      ·clear hB
       rintro r H' n4 hn4 ⟨k4, rfl, rfl⟩
       simp only [go_sem, ↓tfi, ↓fti, ↓reduceIte, Cc.cs]
       refine ⟨leM_tr (leM_tr (leM_tr (leM_tr (.inl rfl : leM m m) k1) k2) k3) k4, ?_⟩
       rw [e0 hH, hN, d.1.1, hL, e, f]
       rfl
      ·refine ⟨leM_tr (leM_tr (leM_tr (.inl rfl : leM m m) k1) k2) k3, ?_⟩
       rw [e0 hH, f]; simp
     ·refine ⟨leM_tr (leM_tr (.inl rfl : leM m m) k1) k2, ?_⟩
      rw [e0 hH, e]; simp
    ·refine ⟨leM_tr (.inl rfl : leM m m) k1, ?_⟩
     clear hF hM hB
     rw [e0 hH]
     rcases d with (d | d) | d
     ·rw [d]; simp
     ·simp only [cLens, decide_eq_false (by omega : ¬ fields.length ≤ 64), Bool.false_and, Bool.and_false]
     ·simp only [cLens, decide_eq_false (by omega : ¬ methods.length ≤ 64), Bool.false_and, Bool.and_false]
   ·clear hS hF hM hB
    rw [e0 hH]
    rcases c with (c | c) | c
    ·simp only [cNames, c, Bool.false_and]
    ·simp only [cNames, c, Bool.false_and, Bool.and_false]
    ·simp only [cNames, decide_eq_false (by omega : ¬ ifs.length ≤ 8), Bool.false_and, Bool.and_false]
def argsD : Ex → Nat | .mk _ _ _ _ _ args => depthL args
mutual
def exprD : St → Nat
 | .mk k _ _ tg ex body alt => max (max (exprDs body) (exprDs alt)) (max (depthE tg) (if k = 11 then argsD ex else depthE ex))
def exprDs : List St → Nat
 | [] => 0
 | e :: r => max (exprD e) (exprDs r)
end
theorem depthSs_take : ∀ {l : List St} {k : Nat} (hk : k < l.length), depthSs (l.take (k + 1)) = max (depthSs (l.take k)) (depthS l[k])
 | [], _, hk => absurd hk (Nat.not_lt_zero _)
 | e :: r, 0, _ => by simp [depthSs]
 | e :: r, k + 1, hk => by
  have := depthSs_take (l := r) (k := k) (by simpa using hk)
  simp only [List.take_succ_cons, depthSs, this, List.getElem_cons_succ, Nat.max_assoc]
theorem exprDs_take : ∀ {l : List St} {k : Nat} (hk : k < l.length), exprDs (l.take (k + 1)) = max (exprDs (l.take k)) (exprD l[k])
 | [], _, hk => absurd hk (Nat.not_lt_zero _)
 | e :: r, 0, _ => by simp [exprDs]
 | e :: r, k + 1, hk => by
  have := exprDs_take (l := r) (k := k) (by simpa using hk)
  simp only [List.take_succ_cons, exprDs, this, List.getElem_cons_succ, Nat.max_assoc]
theorem depthSs_le : ∀ (l : List St) (k : Nat), depthSs (l.take k) ≤ depthSs l
 | [], k => by simp
 | e :: r, 0 => by simp [depthSs]
 | e :: r, k + 1 => by
  have := depthSs_le r k
  simp only [List.take_succ_cons, depthSs]
  omega
theorem exprDs_le : ∀ (l : List St) (k : Nat), exprDs (l.take k) ≤ exprDs l
 | [], k => by simp
 | e :: r, 0 => by simp [exprDs]
 | e :: r, k + 1 => by
  have := exprDs_le r k
  simp only [List.take_succ_cons, exprDs]
  omega
theorem exprDs_mem : ∀ {l : List St} {e : St}, e ∈ l → exprD e ≤ exprDs l
 | [], e, he => by cases he
 | x :: r, e, he => by
  simp only [exprDs]
  rcases List.mem_cons.1 he with rfl | he
  ·omega
  ·have := exprDs_mem he; omega
def DepR (args : List SV) (m : Mem) (v1 v2 : Nat) : Prop := FnH Tryz.prog 75 args ⟨[], []⟩ m fun r H' m' => leM m m' ∧ H' = ⟨[], []⟩ ∧ r = .tup [.v (.int .i64 v1), .v (.int .i64 v2)]
structure DepN where
 b1 : Nat
 b2 : Nat
 a1 : Nat
 a2 : Nat
 t : Nat
 x : Nat
 dl : Nat → Nat
structure DepIt (X : Sd) (N : DepN) (mm : Mem) : Prop where
 body : ∀ m', leM mm m' → DepR [.v (.slice X.a X.l X.cp)] m' N.b1 N.b2
 alt : ∀ m', leM mm m' → DepR [.v (.slice X.b X.l2 X.cp2)] m' N.a1 N.a2
 tg : ∀ m', leM mm m' → Ans 23 [.v (.agg ⟨X.tg.cs⟩)] m' (.int .i64 N.t)
 ex : ¬ X.k = 11 → ∀ m', leM mm m' → Ans 23 [.v (.agg ⟨X.ex.cs⟩)] m' (.int .i64 N.x)
 arg : X.k = 11 → ∀ m', leM mm m' → ∀ j, j < X.ex.l → ∃ (Y : Nd) (d : Nat), (Rd m' (ptrAt X.ex.a (j * 8)) Y.cs ∧ X.ex.a ≠ none) ∧ Ans 23 [.v (.agg ⟨Y.cs⟩)] m' (.int .i64 d) ∧ N.dl (j + 1) = max (N.dl j) d
 dl0 : N.dl 0 = 0
 ln : X.ex.l ≤ big
theorem dep_it {h : Nat} (ih : ∀ h', h' < h → ∀ (l : List St) (a : Option Addr) (n c : Nat) (xs : List Value) (m : Mem), depthSs l ≤ h' → h' ≤ big → exprDs l ≤ big → n = l.length → n ≤ big → Rds m a n 23 xs → stsRep m l xs → DepR [.v (.slice a n c)] m (depthSs l) (exprDs l))
  {e : St} {cs : List Value} {mm : Mem} (hd : depthS e ≤ h) (hb : h ≤ big) (hx : exprD e ≤ big) (hrep : stRep mm e cs) :
  ∃ (X : Sd) (N : DepN), cs = X.cs ∧ DepIt X N mm ∧ depthS e = max N.b1 N.a1 + 1 ∧ exprD e = max (max N.b2 N.a2) (max N.t (if X.k = 11 then N.dl X.ex.l else N.x)) := by
 cases e with
 | mk k nm ty tg ex body alt =>
  obtain ⟨X, rfl, rfl, rfl, rfl, htg, hex, hl, hcp, hl2, hcp2, hok, xs, ys, r1, r2, s1, s2⟩ := st_parts hrep
  simp only [depthS] at hd
  simp only [exprD] at hx
  cases ex with
  | mk xk xn xss xc xty args =>
   obtain ⟨y, hy, h1, h2, h3, h4, h5, h6, h7, h8, zs, r3, s3⟩ := ex_parts hex
   have hy := nd_inj hy
   subst hy
   refine ⟨X, ⟨depthSs body, exprDs body, depthSs alt, exprDs alt, depthE tg, depthE (.mk xk xn xss xc xty args), fun j => depthL (args.take j)⟩, rfl, ⟨fun m' hle => ?_, fun m' hle => ?_, fun m' hle => ?_, fun hk m' hle => ?_, fun hk m' hle j hj => ?_, by simp [depthL], h8⟩, by simp only [depthS], ?_⟩
   ·exact ih (depthSs body) (by omega) body X.a X.l X.cp xs m' (Nnr _) (by omega) (by omega) hl (by rw [hl]; exact hok.l) (Rds_upM hle r1) (stsRep_upM hle s1)
   ·exact ih (depthSs alt) (by omega) alt X.b X.l2 X.cp2 ys m' (Nnr _) (by omega) (by omega) hl2 (by rw [hl2]; exact hok.l2) (Rds_upM hle r2) (stsRep_upM hle s2)
   ·exact depth_all _ tg _ m' (Nnr _) (by omega) (exRep_upM hle htg)
   ·rw [if_neg hk] at hx
    exact depth_all _ _ _ m' (Nnr _) (by omega) (exRep_upM hle hex)
   ·rw [if_pos hk] at hx
    simp only [argsD] at hx
    have hja : j < args.length := by omega
    have hrepj := exRep_upM hle (exs_at s3 hja)
    obtain ⟨Y, hY⟩ := exRep_nd hrepj
    have hrd := Rds_cells (Rds_upM hle r3) hj
    rw [hY] at hrd hrepj
    exact ⟨Y, depthE args[j], hrd, depth_all _ _ _ m' (Nnr _) (by have := depth_mem hja; omega) hrepj, depth_take hja⟩
   ·simp only [exprD, argsD]
    rw [List.take_of_length_le (by omega : args.length ≤ X.ex.l)]
theorem depths_all : ∀ (h : Nat) (l : List St) (a : Option Addr) (n c : Nat) (xs : List Value) (m : Mem), depthSs l ≤ h → h ≤ big → exprDs l ≤ big → n = l.length → n ≤ big → Rds m a n 23 xs → stsRep m l xs → DepR [.v (.slice a n c)] m (depthSs l) (exprDs l) := by
 intro h
 induction h using Nat.strongRecOn with
 | ind h ih =>
  intro l a n c xs m hd hb hx hl hn hr hs
  refine enter cfN puN Tryz.func75 rfl rfl (by kernel_rfl) rfl ?_ ?_
  ·simp only [go_sem, ↓tfi, ↓fti, ↓reduceIte]
  ·simp only [go_sem, ↓tfi, ↓fti, ↓reduceIte]
   refine WP_loop puN (fun x : Nat × Int × Int × Mem => ⟨[⟨4, [], .v (.int .i64 x.2.1)⟩, ⟨5, [], .v (.int .i64 x.2.2.1)⟩, ⟨14, [], .v (.slice a n c)⟩, ⟨15, [], .v (.int .i64 n)⟩, ⟨16, [], .v (.int .i64 x.1)⟩], [], [], [], 0, x.2.2.2⟩)
    (fun x => leM m x.2.2.2 ∧ x.1 ≤ n ∧ x.2.1 = depthSs (l.take x.1) ∧ x.2.2.1 = exprDs (l.take x.1)) (fun x => n - x.1) (0, 0, 0, m) (by kernel_rfl) (fun _ _ => Nnr _) (fun x hx => hx.1) (fun _ => ?_) ?_ ?_ ?_
   ·simp only [go_sem, ↓tfi, ↓fti, ↓reduceIte]
   ·simp only [go_sem, ↓tfi, ↓fti, ↓reduceIte]
    rfl
   ·exact ⟨.inl rfl, Nat.zero_le _, by simp [depthSs], by simp [exprDs]⟩
   ·rintro ⟨k, s, e, mm⟩ ⟨h1, h2, h3, h4⟩
    simp only at h1 h2 h3 h4
    have hy : ∀ (hk : k < l.length), ∃ (X : Sd) (N : DepN), (Rd mm (ptrAt a (k * 23)) X.cs ∧ a ≠ none) ∧ DepIt X N mm ∧ depthS l[k] = max N.b1 N.a1 + 1 ∧ exprD l[k] = max (max N.b2 N.a2) (max N.t (if X.k = 11 then N.dl X.ex.l else N.x)) := fun hk => by
     have hrep := stRep_upM h1 (sts_at hs hk)
     have q1 := depthSs_mem (List.getElem_mem hk)
     have q2 := exprDs_mem (List.getElem_mem hk)
     obtain ⟨X, N, hX, hD, e1, e2⟩ := dep_it ih (by omega) hb (by omega) hrep
     have hrd := Rds_cells (Rds_upM h1 hr) (by omega : k < n)
     rw [hX] at hrd
     exact ⟨X, N, hrd, hD, e1, e2⟩
    have hq1 := depthSs_le l k
    have hq2 := exprDs_le l k
    have hq3 : ∀ (hk : k < l.length), depthSs (l.take (k + 1)) = max (depthSs (l.take k)) (depthS l[k]) ∧ depthSs (l.take (k + 1)) ≤ depthSs l := fun hk => ⟨depthSs_take hk, depthSs_le l _⟩
    have hq4 : ∀ (hk : k < l.length), exprDs (l.take (k + 1)) = max (exprDs (l.take k)) (exprD l[k]) ∧ exprDs (l.take (k + 1)) ≤ exprDs l := fun hk => ⟨exprDs_take hk, exprDs_le l _⟩
    clear ih
    simp only [go_sem, ↓tfi, ↓fti, ↓reduceIte]
    refine ⟨fun hlt => ?_, fun hge => ?_⟩
    ·have hk : k < l.length := by clear hy; omega
     have g3 := hq3 hk
     have g4 := hq4 hk
     refine Exists.elim (hy hk) fun X hy' => Exists.elim hy' fun N hy'' => ⟨⟨by clear hy hy' hy''; omega, hlt, hy''.1.2⟩, X.cs, ⟨hy''.1.1, rfl⟩, ?_⟩
     clear hy hy'
     have hD := hy''.2.1
     have e1 := hy''.2.2.1
     have e2 := hy''.2.2.2
     rw [e1] at g3
     rw [e2] at g4
     clear hy'' e1 e2
     simp only [go_sem, ↓tfi, ↓fti, ↓reduceIte, Sd.cs, Nd.cs]
     refine cvl ((hD.body mm (.inl rfl)).mono ?_)
     rintro r H' n1 hn1 ⟨k1, rfl, rfl⟩
     simp only [go_sem, ↓tfi, ↓fti, ↓reduceIte, Sd.cs, Nd.cs]
     refine cvl ((hD.alt n1 k1).mono ?_)
     rintro r H' n2 hn2 ⟨k2, rfl, rfl⟩
     have kk2 := leM_tr k1 k2
     simp only [go_sem, ↓tfi, ↓fti, ↓reduceIte, Sd.cs, Nd.cs]
     refine ⟨by clear hD; unfold I64; simp only [big] at hb; split <;> omega, by kernel_rfl, FnV_of ((FnH_den (hD.tg n2 kk2) (fun V => rfl)).mono ?_)⟩
     rintro r H' n3 hn3 ⟨k3, rfl, rfl⟩
     have kk3 := leM_tr kk2 k3
     simp only [go_sem, ↓tfi, ↓fti, ↓reduceIte, Sd.cs, Nd.cs]
     have hS : (if s < 1 + (if (N.b1 : Int) < N.a1 then (N.a1 : Int) else N.b1) then 1 + (if (N.b1 : Int) < N.a1 then (N.a1 : Int) else N.b1) else s) = ((depthSs (l.take (k + 1)) : Nat) : Int) := by
      clear hD hq3 hq4
      rw [g3.1, h3]
      split <;> split <;> omega
     have hB0 : mx (mx (mx e N.b2) N.a2) N.t = ((max (max (max (exprDs (l.take k)) N.b2) N.a2) N.t : Nat) : Int) := by
      clear hD hq3 hq4 hS
      simp only [mx, h4]
      (repeat' split) <;> omega
     refine Exists.elim (Exists.intro (max (max (max (exprDs (l.take k)) N.b2) N.a2) N.t) rfl : ∃ B0 : Nat, max (max (max (exprDs (l.take k)) N.b2) N.a2) N.t = B0) fun B0 hB => ?_
     rw [hB] at hB0
     refine ⟨fun hk11 => ?_, fun hk11 => ?_⟩
     ·refine cvl ((FnH_den (hD.ex hk11 n3 kk3) (fun V => rfl)).mono ?_)
      clear hD
      rintro r H' n4 hn4 ⟨k4, rfl, rfl⟩
      simp only [go_sem, ↓tfi, ↓fti, ↓reduceIte, Sd.cs, Nd.cs]
      rw [if_neg hk11] at g4
      refine ⟨by unfold I64; simp only [big] at hn; omega, (k + 1, ((depthSs (l.take (k + 1)) : Nat) : Int), ((exprDs (l.take (k + 1)) : Nat) : Int), n4), ⟨⟨hS, ?_, by simp⟩, .inl rfl⟩, ⟨leM_tr h1 (leM_tr kk3 k4), by simp only; omega, rfl, rfl⟩, by simp only; omega⟩
      simp only
      rw [hB0, g4.1]
      clear hS hB0 hq3 hq4 g3 h3 h4
      split <;> omega
     ·rw [if_pos hk11] at g4
      refine WP_loop puN (fun x' : Nat × Int × Mem => ⟨[⟨4, [], .v (.int .i64 (depthSs (l.take (k + 1)) : Nat))⟩, ⟨5, [], .v (.int .i64 x'.2.1)⟩, ⟨14, [], .v (.slice a n c)⟩, ⟨15, [], .v (.int .i64 n)⟩, ⟨16, [], .v (.int .i64 k)⟩, ⟨55, [], .v (.slice X.ex.a X.ex.l X.ex.cp)⟩, ⟨56, [], .v (.int .i64 X.ex.l)⟩, ⟨57, [], .v (.int .i64 x'.1)⟩], [], [], [], 1, x'.2.2⟩)
       (fun x' => leM n3 x'.2.2 ∧ x'.1 ≤ X.ex.l ∧ x'.2.1 = ((max B0 (N.dl x'.1) : Nat) : Int)) (fun x' => X.ex.l - x'.1) (0, (B0 : Int), n3) (by kernel_rfl) (fun _ _ => Nnr _) (fun x hx => hx.1) (fun _ => ?_) ?_ ?_ ?_
      ·simp only [go_sem, ↓tfi, ↓fti, ↓reduceIte]
      ·simp only [go_sem, ↓tfi, ↓fti, ↓reduceIte]
       exact ⟨hS, hB0, rfl⟩
      ·exact ⟨.inl rfl, Nat.zero_le _, by rw [hD.dl0, Nat.max_zero]⟩
      ·rintro ⟨j, e', mj⟩ ⟨q1, q2, q3⟩
       simp only at q1 q2 q3
       have hz := hD.arg hk11 mj (leM_tr kk3 q1) j
       have hln := hD.ln
       clear hD
       simp only [go_sem, ↓tfi, ↓fti, ↓reduceIte]
       refine ⟨fun hlt' => ?_, fun hge' => ?_⟩
       ·refine Exists.elim (hz (by clear hz; omega)) fun Y hz1 => Exists.elim hz1 fun dj hz2 => ⟨⟨by clear hz hz1 hz2; omega, hlt', hz2.1.2⟩, Y.cs, ⟨hz2.1.1, rfl⟩, ?_⟩
        clear hz hz1
        have hDj := hz2.2.1
        have hdj := hz2.2.2
        clear hz2
        simp only [go_sem, ↓tfi, ↓fti, ↓reduceIte, Nd.cs]
        refine cvl ((FnH_den hDj (fun V => rfl)).mono ?_)
        clear hDj
        rintro r H' n5 hn5 ⟨k5, rfl, rfl⟩
        simp only [go_sem, ↓tfi, ↓fti, ↓reduceIte]
        refine ⟨by unfold I64; simp only [big] at hln; omega, (j + 1, ((max B0 (N.dl (j + 1)) : Nat) : Int), n5), ⟨⟨?_, by simp⟩, .inl rfl⟩, ⟨leM_tr q1 k5, by simp only; omega, by simp only [Nat.max_def]⟩, by simp only; omega⟩
        simp only
        rw [hdj, q3]
        clear hS hB0 hq3 hq4 g3 g4 h3 h4 hB
        (repeat' split) <;> omega
       ·clear hz
        have hj : j = X.ex.l := by omega
        refine ⟨by unfold I64; simp only [big] at hn; omega, (k + 1, ((depthSs (l.take (k + 1)) : Nat) : Int), ((exprDs (l.take (k + 1)) : Nat) : Int), mj), ⟨⟨rfl, ?_, by simp⟩, .inl rfl⟩, ⟨leM_tr h1 (leM_tr kk3 q1), by simp only; omega, rfl, rfl⟩, by simp only; omega⟩
        simp only
        rw [q3, g4.1, hj]
        clear hS hB0 hq3 hq4 g3 h3 h4
        (repeat' split) <;> omega
    ·clear hy hq3 hq4
     have : l.take k = l := List.take_of_length_le (by omega)
     rw [this] at h3 h4
     rw [h3, h4]
     exact ⟨h1, rfl⟩
def mdsS : List Md → Nat
 | [] => 0
 | e :: r => max (depthSs e.body) (mdsS r)
def mdsE : List Md → Nat
 | [] => 0
 | e :: r => max (exprDs e.body) (mdsE r)
def deepL (d : Cd) : Bool := decide (24 < max (depthSs d.init) (mdsS d.methods)) || decide (24 < max (exprDs d.init) (mdsE d.methods))
structure CdB (d : Cd) : Prop where
 s : depthSs d.init ≤ big
 e : exprDs d.init ≤ big
 ms : mdsS d.methods ≤ big
 me : mdsE d.methods ≤ big
theorem mdsS_take : ∀ {l : List Md} {k : Nat} (hk : k < l.length), mdsS (l.take (k + 1)) = max (mdsS (l.take k)) (depthSs l[k].body)
 | [], _, hk => absurd hk (Nat.not_lt_zero _)
 | e :: r, 0, _ => by simp [mdsS]
 | e :: r, k + 1, hk => by
  have := mdsS_take (l := r) (k := k) (by simpa using hk)
  simp only [List.take_succ_cons, mdsS, this, List.getElem_cons_succ, Nat.max_assoc]
theorem mdsE_take : ∀ {l : List Md} {k : Nat} (hk : k < l.length), mdsE (l.take (k + 1)) = max (mdsE (l.take k)) (exprDs l[k].body)
 | [], _, hk => absurd hk (Nat.not_lt_zero _)
 | e :: r, 0, _ => by simp [mdsE]
 | e :: r, k + 1, hk => by
  have := mdsE_take (l := r) (k := k) (by simpa using hk)
  simp only [List.take_succ_cons, mdsE, this, List.getElem_cons_succ, Nat.max_assoc]
theorem mdsS_mem : ∀ {l : List Md} {e : Md}, e ∈ l → depthSs e.body ≤ mdsS l
 | [], e, he => by cases he
 | x :: r, e, he => by
  simp only [mdsS]
  rcases List.mem_cons.1 he with rfl | he
  ·omega
  ·have := mdsS_mem he; omega
theorem mdsE_mem : ∀ {l : List Md} {e : Md}, e ∈ l → exprDs e.body ≤ mdsE l
 | [], e, he => by cases he
 | x :: r, e, he => by
  simp only [mdsE]
  rcases List.mem_cons.1 he with rfl | he
  ·omega
  ·have := mdsE_mem he; omega
theorem deep_spec (d : Cd) (cs : List Value) (m : Mem) (hB : CdB d) (h : cdRep m d cs) : Ans 33 [.v (.agg ⟨cs⟩)] m (.bool (deepL d)) := by
 obtain ⟨fl, name, super, ifs, fields, methods, init⟩ := d
 obtain ⟨x, ⟨rfl, rfl, rfl, rfl⟩, ⟨hil, hic, hfn, hfc, hml, hmc, hsl, hsc⟩, hok, r1, r2, xs, ys, r3, s3, r4, s4⟩ := h
 simp only at hil hfn hml hsl r1 r2 s3 s4
 obtain ⟨b1, b2, b3, b4⟩ := hB
 simp only at b1 b2 b3 b4
 have hI := depths_all (depthSs init) init x.sa x.sl x.sc ys m (Nnr _) b1 b2 hsl (by rw [hsl]; exact hok.l) r4 s4
 have hmb : x.ml ≤ big := by rw [hml]; exact hok.ml
 refine enter cfN puN Tryz.func33 rfl rfl (by kernel_rfl) rfl ?_ ?_
 ·simp only [go_sem, ↓tfi, ↓fti, ↓reduceIte, Cc.cs]
 ·simp only [go_sem, ↓tfi, ↓fti, ↓reduceIte, Cc.cs]
  refine cvl (hI.mono ?_)
  clear hI
  rintro r H' m1 hm1 ⟨l1, rfl, rfl⟩
  simp only [go_sem, ↓tfi, ↓fti, ↓reduceIte, Cc.cs]
  refine WP_loop puN (fun x' : Nat × Int × Int × Mem => ⟨[⟨3, [], .v (.int .i64 x'.2.1)⟩, ⟨4, [], .v (.int .i64 x'.2.2.1)⟩, ⟨16, [], .v (.slice x.ma x.ml x.mc)⟩, ⟨17, [], .v (.int .i64 x.ml)⟩, ⟨18, [], .v (.int .i64 x'.1)⟩], [], [], [], 1, x'.2.2.2⟩)
   (fun x' => leM m1 x'.2.2.2 ∧ x'.1 ≤ x.ml ∧ x'.2.1 = max (depthSs init) (mdsS (methods.take x'.1)) ∧ x'.2.2.1 = max (exprDs init) (mdsE (methods.take x'.1))) (fun x' => x.ml - x'.1) (0, depthSs init, exprDs init, m1) (by kernel_rfl) (fun _ _ => Nnr _) (fun x hx => hx.1) (fun _ => ?_) ?_ ?_ ?_
  ·simp only [go_sem, ↓tfi, ↓fti, ↓reduceIte]
  ·simp only [go_sem, ↓tfi, ↓fti, ↓reduceIte]
   rfl
  ·exact ⟨.inl rfl, Nat.zero_le _, by simp [mdsS], by simp [mdsE]⟩
  ·rintro ⟨k, s, e, mm⟩ ⟨h1, h2, h3, h4⟩
   simp only at h1 h2 h3 h4
   have hy : ∀ (hk : k < methods.length), ∃ (X : Mc) (v1 v2 : Nat), (Rd mm (ptrAt x.ma (k * 8)) X.cs ∧ x.ma ≠ none) ∧ DepR [.v (.slice X.a X.l X.cp)] mm v1 v2 ∧ (mdsS (methods.take (k + 1)) = max (mdsS (methods.take k)) v1 ∧ mdsE (methods.take (k + 1)) = max (mdsE (methods.take k)) v2) ∧ v1 ≤ big ∧ v2 ≤ big := fun hk => by
    have hrep := mdRep_up (leM_tr l1 h1) (ls_at s3 hk)
    have q1 := mdsS_mem (List.getElem_mem hk)
    have q2 := mdsE_mem (List.getElem_mem hk)
    have hrd := Rds_cells (Rds_upM (leM_tr l1 h1) r3) (by omega : k < x.ml)
    have t1 := mdsS_take hk
    have t2 := mdsE_take hk
    obtain ⟨X, ⟨e1, _⟩, ⟨e2, e3, e4, e5⟩, hk2, _, zs, r5, s5⟩ := md_parts hrep
    rw [e1] at hrd
    exact ⟨X, _, _, hrd, depths_all _ _ X.a X.l X.cp zs mm (Nnr _) (by omega) (by omega) e4 (by rw [e4]; exact hk2.l) r5 s5, ⟨t1, t2⟩, by omega, by omega⟩
   simp only [go_sem, ↓tfi, ↓fti, ↓reduceIte]
   refine ⟨fun hlt => ?_, fun hge => ?_⟩
   ·have hk : k < methods.length := by clear hy; omega
    refine Exists.elim (hy hk) fun X hy1 => Exists.elim hy1 fun v1 hy2 => Exists.elim hy2 fun v2 hy3 => ⟨⟨by clear hy hy1 hy2 hy3; omega, hlt, hy3.1.2⟩, X.cs, ⟨hy3.1.1, rfl⟩, ?_⟩
    clear hy hy1 hy2
    have hD := hy3.2.1
    have e1 := hy3.2.2.1.1
    have e2 := hy3.2.2.1.2
    clear hy3
    simp only [go_sem, ↓tfi, ↓fti, ↓reduceIte, Mc.cs]
    refine cvl (hD.mono ?_)
    clear hD
    rintro r H' m2 hm2 ⟨l2, rfl, rfl⟩
    simp only [go_sem, ↓tfi, ↓fti, ↓reduceIte]
    refine ⟨by unfold I64; simp only [big] at hmb; omega, (k + 1, ((max (depthSs init) (mdsS (methods.take (k + 1))) : Nat) : Int), ((max (exprDs init) (mdsE (methods.take (k + 1))) : Nat) : Int), m2), ⟨⟨?_, ?_, by simp⟩, .inl rfl⟩, ⟨leM_tr h1 l2, by simp only; omega, by simp only [Nat.max_def], by simp only [Nat.max_def]⟩, by simp only; omega⟩
    ·simp only
     rw [e1, h3]
     clear h3 h4 e1 e2
     (repeat' split) <;> omega
    ·simp only
     rw [e2, h4]
     clear h3 h4 e1 e2
     (repeat' split) <;> omega
   ·clear hy
    have : methods.take k = methods := List.take_of_length_le (by omega)
    rw [this] at h3 h4
    have e0 : deepL ⟨x.fl, x.name, x.super, ifs, fields, methods, init⟩ = (decide (24 < max (depthSs init) (mdsS methods)) || decide (24 < max (exprDs init) (mdsE methods))) := rfl
    refine ⟨leM_tr l1 h1, ?_⟩
    rw [e0]
    congr 1
    ·rw [decide_eq_decide]; omega
    ·rw [decide_eq_decide]; omega
def dupB {α : Type} [BEq α] : List α → List α → Bool
 | _, [] => false
 | seen, a :: r => seen.contains a || dupB (seen ++ [a]) r
def dupL (d : Cd) : Bool := dupB [] d.ifs || dupB [] (d.fields.map (·.name)) || dupB [] (d.methods.map fun m => (m.name, m.params.length))
def entS (l : List (List UInt8)) : List Value := (l.map fun s => [.string (bs s), .bool true]).flatten
theorem plains_map : ∀ (l : List Value), plains (l.map .v) = some l
 | [] => rfl
 | x :: r => by simp [plains, plain, plains_map r]
theorem okL_map {n : Nat} {vc : List Vc} : ∀ (l : List Value), okL n vc (l.map .v) = True
 | [] => rfl
 | x :: r => by simp [okL, okA, okL_map r]
theorem str_eq {a b : List UInt8} : (Value.string (bs a) = Value.string (bs b)) = (a = b) := propext ⟨fun h => bs_inj (Value.string.inj h), fun h => by rw [h]⟩
theorem findE_seen (s : List UInt8) : ∀ (l : List (List UInt8)), isT (findE (entS l) (.string (bs s))) = l.contains s
 | [] => rfl
 | a :: r => by
  have e : entS (a :: r) = .string (bs a) :: .bool true :: entS r := rfl
  rw [e, findE, str_eq, List.contains_cons]
  by_cases h : a = s
  ·rw [if_pos h]; subst h; simp [isT]
  ·rw [if_neg h, findE_seen s r, (beq_eq_false_iff_ne.2 fun e => h e.symm : (s == a) = false), Bool.false_or]
theorem putE_new (s : List UInt8) : ∀ (l : List (List UInt8)), l.contains s = false → putE (entS l) (.string (bs s)) (.bool true) = entS (l ++ [s])
 | [], _ => rfl
 | a :: r, h => by
  have e : entS (a :: r) = .string (bs a) :: .bool true :: entS r := rfl
  rw [List.contains_cons, Bool.or_eq_false_iff] at h
  have hn : ¬ a = s := fun e => (beq_eq_false_iff_ne.1 h.1) e.symm
  rw [e, putE, str_eq, if_neg hn, putE_new s r h.2]
  rfl
abbrev MKey := List UInt8 × Nat
def keyV (k : MKey) : Value := .agg ⟨[.string (bs k.1), .int .i64 k.2]⟩
theorem keyG_k (k : MKey) : keyG 1000001 (keyV k) = True := keyG_1 _ _
def entK (l : List MKey) : List Value := (l.map fun k => [keyV k, .bool true]).flatten
theorem keyV_eq {a b : MKey} : (keyV a = keyV b) = (a = b) := propext ⟨fun h => by
 obtain ⟨a1, a2⟩ := a
 obtain ⟨b1, b2⟩ := b
 simp only [keyV, Value.agg.injEq, Array.mk.injEq, List.cons.injEq, Value.string.injEq, Value.int.injEq, true_and, and_true] at h
 rw [bs_inj h.1, show a2 = b2 by omega], fun h => by rw [h]⟩
theorem findE_keys (k : MKey) : ∀ (l : List MKey), isT (findE (entK l) (keyV k)) = l.contains k
 | [] => rfl
 | a :: r => by
  have e : entK (a :: r) = keyV a :: .bool true :: entK r := rfl
  rw [e, findE, keyV_eq, List.contains_cons]
  by_cases h : a = k
  ·rw [if_pos h]; subst h; simp [isT]
  ·rw [if_neg h, findE_keys k r, (beq_eq_false_iff_ne.2 fun e => h e.symm : (k == a) = false), Bool.false_or]
theorem putE_keys (k : MKey) : ∀ (l : List MKey), l.contains k = false → putE (entK l) (keyV k) (.bool true) = entK (l ++ [k])
 | [], _ => rfl
 | a :: r, h => by
  have e : entK (a :: r) = keyV a :: .bool true :: entK r := rfl
  rw [List.contains_cons, Bool.or_eq_false_iff] at h
  have hn : ¬ a = k := fun e => (beq_eq_false_iff_ne.1 h.1) e.symm
  rw [e, putE, keyV_eq, if_neg hn, putE_keys k r h.2]
  rfl
theorem Rds_take {m : Mem} {a : Option Addr} {n k c : Nat} {l : List (List UInt8)} (h : Rds m a n 1 (strs l)) (hk : k ≤ n) : Rds m (if c = 0 then a else a.map (·.add (0 * 1))) (k - 0) 1 (strs (l.take k)) := by
 have hl := h.1
 simp only [strs, List.length_map, Nat.mul_one] at hl
 refine ⟨by simp [strs]; omega, fun h0 => ?_⟩
 obtain ⟨ad, rfl, hs, hcell⟩ := h.2 (by omega)
 have e : (if c = 0 then some ad else (some ad).map (·.add (0 * 1))) = some ad := by
  by_cases hc : c = 0
  ·rw [if_pos hc]
  ·rw [if_neg hc]; rfl
 refine ⟨ad, e, hs, fun j hj => ?_⟩
 obtain ⟨h1, h2⟩ := hcell j (by omega)
 refine ⟨?_, h2⟩
 rw [h1]
 simp only [strs, List.getElem?_map, List.getElem?_take]
 rw [if_pos (by omega)]
theorem dup_step {α : Type} [BEq α] {l : List α} {k : Nat} (hk : k < l.length) : dupB (l.take k) (l.drop k) = ((l.take k).contains l[k] || dupB (l.take (k + 1)) (l.drop (k + 1))) := by
 rw [List.drop_eq_getElem_cons hk, dupB, List.take_succ_eq_append_getElem hk]
/-! The types of the maps. -/
theorem mapD60 : mapD Tryz.prog 60 = (1000000, none) := by kernel_rfl
theorem mapD95 : mapD Tryz.prog 95 = (1000001, none) := by kernel_rfl
theorem mapOk60 : MapOk Tryz.prog 60 :=
 mapOk_str (k := 9) (e := 4) (by kernel_rfl) (by kernel_rfl) (by rw [mapD60]; decide) fun w => by
  rw [mapD60]
  exact zeroV_run (i := (Tryz.prog.info? 4).getD default) (by kernel_rfl) (by kernel_rfl) w
theorem zeroSg : zeroO Tryz.prog 97 = some [.v (.string (bs [])), .v (.int .i64 0)] := by kernel_rfl
theorem aggSg : aggN Tryz.prog 97 = some (some 2) := by kernel_rfl
theorem szSg : szT Tryz.prog 97 = 2 := by kernel_rfl
theorem fldSg_0 : fldO Tryz.prog 97 0 = some (0, none, 1) := by kernel_rfl
theorem fldSg_1 : fldO Tryz.prog 97 1 = some (1, none, 1) := by kernel_rfl
theorem bldSg : bldOk Tryz.prog 97 = true := by kernel_rfl
theorem eqOkSg : EqOk Tryz.prog 97 := eqOk_of zeroSg (by kernel_rfl) (by kernel_rfl) (by kernel_rfl) rfl (by kernel_rfl)
attribute [go_sem] mapD60 mapD95 zeroSg aggSg szSg fldSg_0 fldSg_1 bldSg
theorem tl_iff {a b : ByteArray} : tl a = tl b ↔ a = b := ⟨fun h => by have := congrArg bs h; rwa [bs_tl, bs_tl] at this, fun h => by rw [h]⟩
theorem findAsk {s : ByteArray} {n : Int} (w : World) : ∀ (es : List MapEntry) (i : Nat), (∀ x ∈ es, ∃ a k, x.key = .agg ⟨[.string a, .int .i64 k]⟩) →
  (Instr.findAsking 97 (.agg ⟨[.string s, .int .i64 n]⟩) es i).run Tryz.prog w = .ok (ixE es (.agg ⟨[.string s, .int .i64 n]⟩) i) w
 | [], _, _ => rfl
 | e :: es, i, h => by
  obtain ⟨a, k, ha⟩ := h e (List.mem_cons_self ..)
  have ih := findAsk (s := s) (n := n) w es (i + 1) fun x hx => h x (List.mem_cons_of_mem _ hx)
  have he := (eqOkSg [.string s, .int .i64 n] [.string a, .int .i64 k] (decide (tl s = tl a) && (decide (n = k) && true)) w (.const undef) (.const undef) .eql rfl (by rw [zeroSg]; rfl)).2
  simp only [Instr.findAsking, Sem.run_bind, ha, ixE]
  rw [show (Array.mk [Value.string s, Value.int .i64 n]) = [Value.string s, Value.int .i64 n].toArray from rfl, show (Array.mk [Value.string a, Value.int .i64 k]) = [Value.string a, Value.int .i64 k].toArray from rfl, he]
  simp only [Result.andThen_ok]
  by_cases hk : (Value.agg [Value.string a, Value.int .i64 k].toArray = Value.agg [Value.string s, Value.int .i64 n].toArray)
  ·rw [if_pos (ha.trans hk)]
   simp only [Value.agg.injEq, Array.mk.injEq, List.cons.injEq, Value.string.injEq, Value.int.injEq, true_and, and_true] at hk
   obtain ⟨rfl, rfl⟩ := hk
   simp
  ·rw [if_neg fun e => hk (ha.symm.trans e)]
   have : (decide (tl s = tl a) && (decide (n = k) && true)) = false := by
    simp only [Value.agg.injEq, Array.mk.injEq, List.cons.injEq, Value.string.injEq, Value.int.injEq, true_and, and_true] at hk
    simp only [Bool.and_true, Bool.and_eq_false_iff, decide_eq_false_iff_not, tl_iff]
    by_cases h1 : s = a
    ·exact .inr fun h2 => hk ⟨h1.symm, h2.symm⟩
    ·exact .inl h1
   rw [this]
   exact ih
theorem mapOk95 : MapOk Tryz.prog 95 := by
 refine ⟨by rw [mapD95]; decide, 97, 4, by kernel_rfl, fun w key em n hk => ?_, fun w key es hk hes => ?_, fun w => ?_⟩
 ·rw [mapD95] at hk
  unfold keyG at hk
  rw [if_pos rfl] at hk
  obtain ⟨s, k, rfl⟩ := hk
  have hu : Tryz.prog.underlying 97 = some (.struct (Tryz.prog.fieldsOf 97)) := by kernel_rfl
  have hfs : Tryz.prog.fieldsOf 97 = #[(Tryz.prog.fieldsOf 97).getD 0 default, (Tryz.prog.fieldsOf 97).getD 1 default] := by kernel_rfl
  rw [hfs] at hu
  have n0 : ((Tryz.prog.fieldsOf 97).getD 0 default).name = "name" := by kernel_rfl
  have n1 : ((Tryz.prog.fieldsOf 97).getD 1 default).name = "params" := by kernel_rfl
  have t0 : ((Tryz.prog.fieldsOf 97).getD 0 default).type = 9 := by kernel_rfl
  have t1 : ((Tryz.prog.fieldsOf 97).getD 1 default).type = 3 := by kernel_rfl
  have o0 : ((Tryz.prog.fieldsOf 97).getD 0 default).offset = 0 := by kernel_rfl
  have o1 : ((Tryz.prog.fieldsOf 97).getD 1 default).offset = 1 := by kernel_rfl
  have p0 := run_part_plain (P := Tryz.prog) (w := w) (e := 9) (by kernel_rfl) (xs := #[.string s, .int .i64 k]) (off := 0) (v := .string s) rfl
  have p1 := run_part_plain (P := Tryz.prog) (w := w) (e := 3) (by kernel_rfl) (xs := #[.string s, .int .i64 k]) (off := 1) (v := .int .i64 k) rfl
  have c0 := MapKept.run_checkKey (P := Tryz.prog) (w := w) (kt := 9) (d := .string) (k := .string s) (by kernel_rfl) (by simp [MapKept.IsKey]) em n
  have c1 := MapKept.run_checkKey (P := Tryz.prog) (w := w) (kt := 3) (d := .int .i64) (k := .int .i64 k) (by kernel_rfl) (by simp [MapKept.IsKey]) em n
  generalize (Tryz.prog.fieldsOf 97).getD 0 default = f0 at *
  generalize (Tryz.prog.fieldsOf 97).getD 1 default = f1 at *
  rw [Instr.checkKey]
  simp [run_underlying hu, Result.andThen, n0, n1, t0, t1, o0, o1, p0, p1, c0, c1]
 ·rw [mapD95] at hk hes
  unfold keyG at hk hes
  simp only [if_true] at hk hes
  obtain ⟨s, k, rfl⟩ := hk
  rw [run_findKey_eq w (by kernel_rfl)]
  exact findAsk w es 0 hes
 ·rw [mapD95]
  exact zeroV_run (i := (Tryz.prog.info? 4).getD default) (by kernel_rfl) (by kernel_rfl) w
attribute [go_sem] mapOk60 mapOk95
theorem dup_spec (d : Cd) (cs : List Value) (m : Mem) (h : cdRep m d cs) : Ans 34 [.v (.agg ⟨cs⟩)] m (.bool (dupL d)) := by
 obtain ⟨fl, name, super, ifs, fields, methods, init⟩ := d
 obtain ⟨x, ⟨rfl, rfl, rfl, rfl⟩, ⟨hil, hic, hfn, hfc, hml, hmc, hsl, hsc⟩, hok, r1, r2, xs, ys, r3, s3, r4, s4⟩ := h
 simp only at hil hfn hml hsl r1 r2 r3 s3 r4 s4
 have hib : x.il ≤ big := by rw [hil]; exact hok.il
 have hfb : x.fn ≤ big := by rw [hfn]; exact hok.fn
 have hmb : x.ml ≤ big := by rw [hml]; exact hok.ml
 clear r4 s4
 refine enter cfN puN Tryz.func34 rfl rfl (by kernel_rfl) rfl ?_ ?_
 ·simp only [go_sem, ↓tfi, ↓fti, ↓reduceIte, Cc.cs]
 ·simp only [go_sem, ↓tfi, ↓fti, ↓reduceIte, Cc.cs]
  refine WP_loop puN (fun x' : Nat × Mem => ⟨[⟨1, [], .box 0 0⟩, ⟨13, [], .v (.slice x.ia x.il x.ic)⟩, ⟨14, [], .v (.int .i64 x.il)⟩, ⟨15, [], .v (.int .i64 x'.1)⟩], [], [⟨0, 55, x.cs.map .v⟩], [], 1, x'.2⟩)
   (fun x' => leM m x'.2 ∧ x'.1 ≤ x.il ∧ dupB [] ifs = dupB (ifs.take x'.1) (ifs.drop x'.1)) (fun x' => x.il - x'.1) (0, m) (by kernel_rfl) (fun _ _ => Nnr _) (fun x hx => hx.1) (fun _ => ?_) ?_ ?_ ?_
  ·simp only [go_sem, ↓tfi, ↓fti, ↓reduceIte, Cc.cs]
  ·simp only [go_sem, ↓tfi, ↓fti, ↓reduceIte, Cc.cs]
   rfl
  ·exact ⟨.inl rfl, Nat.zero_le _, rfl⟩
  ·rintro ⟨k, mm⟩ ⟨h1, h2, h3⟩
   simp only at h1 h2 h3
   have hy : ∀ (hk : k < ifs.length), (Rd mm (ptrAt x.ia k) [.string (bs ifs[k])] ∧ x.ia ≠ none) ∧ FnH Tryz.prog 76 [.v (slv x.ia x.ic 0 k 1), .v (.string (bs ifs[k]))] ⟨[], []⟩ mm fun r H' _ => r = .v (.bool ((ifs.take k).contains ifs[k])) ∧ H' = ⟨[], []⟩ := fun hk =>
    ⟨strs_rd (Rds_upM h1 r1) hk, contains_spec (ifs.take k) ifs[k] _ (k - 0) (x.ic - 0) mm (Rds_take (Rds_upM h1 r1) (by omega)) (by simp only [big] at hib; omega)⟩
   simp only [go_sem, ↓tfi, ↓fti, ↓reduceIte, Cc.cs]
   refine ⟨fun hlt => ?_, fun hge => ?_⟩
   ·have hk : k < ifs.length := by clear hy; omega
    have hy' := hy hk
    clear hy
    refine ⟨⟨by clear hy'; omega, hlt, hy'.1.2⟩, _, hy'.1.1, ?_⟩
    simp only [go_sem, ↓tfi, ↓fti, ↓reduceIte, Cc.cs]
    have hds := dup_step hk
    refine ⟨⟨Int.le_refl _, by clear hy'; omega, by clear hy'; omega⟩, by kernel_rfl, FnV_of (hy'.2.mono ?_)⟩
    clear hy'
    rintro r H' m2 hm2 ⟨rfl, rfl⟩
    simp only [go_sem, ↓tfi, ↓fti, ↓reduceIte, Cc.cs]
    refine ⟨fun hc => ⟨leM_tr h1 (.inr hm2), ?_⟩, fun hc => ⟨by unfold I64; simp only [big] at hib; omega, (k + 1, m2), ⟨by simp, .inl rfl⟩, ⟨leM_tr h1 (.inr hm2), by simp only; omega, ?_⟩, by simp only; omega⟩⟩
    ·simp only [dupL, h3, hds, hc, Bool.true_or]
    ·simp only
     rw [h3, hds, hc, Bool.false_or]
   ·clear hy
    have hI : dupB [] ifs = false := by
     rw [h3, List.drop_of_length_le (by omega)]
     rfl
    refine WP_loop puN (fun x' : Nat × Mem => ⟨[⟨1, [], .box 0 0⟩, ⟨5, [], .mp 1⟩, ⟨29, [], .v (.slice x.fa x.fn x.fc)⟩, ⟨30, [], .v (.int .i64 x.fn)⟩, ⟨31, [], .v (.int .i64 x'.1)⟩], [], [⟨1, 1000000, (entS ((fields.map (·.name)).take x'.1)).map .v⟩, ⟨0, 55, x.cs.map .v⟩], [], 2, x'.2⟩)
     (fun x' => leM mm x'.2 ∧ x'.1 ≤ x.fn ∧ dupB [] (fields.map (·.name)) = dupB ((fields.map (·.name)).take x'.1) ((fields.map (·.name)).drop x'.1)) (fun x' => x.fn - x'.1) (0, mm) (by kernel_rfl) (fun _ _ => Nnr _) (fun x hx => ?_) (fun _ => ?_) ?_ ?_ ?_
    ·exact hx.1
    ·simp only [go_sem, ↓tfi, ↓fti, ↓reduceIte, Cc.cs, okL_map]
    ·simp only [go_sem, ↓tfi, ↓fti, ↓reduceIte, Cc.cs]
     exact ⟨rfl, rfl⟩
    ·exact ⟨.inl rfl, Nat.zero_le _, rfl⟩
    ·rintro ⟨j, mj⟩ ⟨q1, q2, q3⟩
     simp only at q1 q2 q3
     have hy : ∀ (hj : j < fields.length), Rd mj (ptrAt x.fa (j * 5)) (fields[j]).cs ∧ x.fa ≠ none := fun hj => by
      have := Rds_cells (Rds_upM (leM_tr h1 q1) r2) (by omega : j < x.fn)
      rw [flat_at (f := Fc.cs) (sz := 5) (fun _ => rfl) hj] at this
      exact this
     simp only [go_sem, ↓tfi, ↓fti, ↓reduceIte, Cc.cs]
     refine ⟨fun hlt => ?_, fun hge => ?_⟩
     ·have hj : j < fields.length := by omega
      refine ⟨⟨by omega, hlt, (hy hj).2⟩, (fields[j]).cs, ⟨(hy hj).1, rfl⟩, ?_⟩
      simp only [go_sem, ↓tfi, ↓fti, ↓reduceIte, Cc.cs, Fc.cs, plains_map, findE_seen]
      have hjl : j < (fields.map (·.name)).length := by simpa using hj
      have hds := dup_step hjl
      have hget : (fields.map (·.name))[j] = fields[j].name := by simp
      rw [hget] at hds
      refine ⟨fun hc => ⟨leM_tr h1 q1, ?_⟩, fun hc => ⟨by unfold I64; simp only [big] at hfb; omega, (j + 1, mj), ⟨by simp, ?_, .inl rfl⟩, ⟨q1, by simp only; omega, ?_⟩, by simp only; omega⟩⟩
      ·simp only [dupL, q3, hds, hc, Bool.true_or, Bool.or_true]
      ·simp only
       rw [putE_new _ _ hc, List.take_succ_eq_append_getElem hjl, hget]
      ·simp only
       rw [q3, hds, hc, Bool.false_or]
     ·have hF : dupB [] (fields.map (·.name)) = false := by
       rw [q3, List.drop_of_length_le (by simp; omega)]
       rfl
      refine WP_loop puN (fun x' : Nat × Mem => ⟨[⟨1, [], .box 0 0⟩, ⟨8, [], .mp 2⟩, ⟨45, [], .v (.slice x.ma x.ml x.mc)⟩, ⟨46, [], .v (.int .i64 x.ml)⟩, ⟨47, [], .v (.int .i64 x'.1)⟩], [], [⟨2, 1000001, (entK ((methods.map fun m => (m.name, m.params.length)).take x'.1)).map .v⟩, ⟨0, 55, x.cs.map .v⟩], [], 3, x'.2⟩)
       (fun x' => leM mj x'.2 ∧ x'.1 ≤ x.ml ∧ dupB [] (methods.map fun m => (m.name, m.params.length)) = dupB ((methods.map fun m => (m.name, m.params.length)).take x'.1) ((methods.map fun m => (m.name, m.params.length)).drop x'.1)) (fun x' => x.ml - x'.1) (0, mj) (by kernel_rfl) (fun _ _ => Nnr _) (fun x hx => hx.1) (fun _ => ?_) ?_ ?_ ?_
      ·simp only [go_sem, ↓tfi, ↓fti, ↓reduceIte, Cc.cs, okL_map]
      ·simp only [go_sem, ↓tfi, ↓fti, ↓reduceIte, Cc.cs]
       exact ⟨rfl, rfl⟩
      ·exact ⟨.inl rfl, Nat.zero_le _, rfl⟩
      ·rintro ⟨k, mk⟩ ⟨p1, p2, p3⟩
       simp only at p1 p2 p3
       have hy : ∀ (hj : k < methods.length), ∃ X : Mc, (Rd mk (ptrAt x.ma (k * 8)) X.cs ∧ x.ma ≠ none) ∧ X.name = methods[k].name ∧ X.pl = methods[k].params.length := fun hj => by
        have hrep := mdRep_up (leM_tr h1 (leM_tr q1 p1)) (ls_at s3 hj)
        have hrd := Rds_cells (Rds_upM (leM_tr h1 (leM_tr q1 p1)) r3) (by omega : k < x.ml)
        obtain ⟨X, e1, e2, _⟩ := hrep
        rw [e1.1] at hrd
        exact ⟨X, hrd, e1.2.2.2.1, e2.1⟩
       simp only [go_sem, ↓tfi, ↓fti, ↓reduceIte, Cc.cs]
       refine ⟨fun hlt => ?_, fun hge => ?_⟩
       ·have hj : k < methods.length := by omega
        refine Exists.elim (hy hj) fun X hX => ⟨⟨by clear hX hy; omega, hlt, hX.1.2⟩, X.cs, ⟨hX.1.1, rfl⟩, ?_⟩
        clear hy
        have hnm := hX.2.1
        have hpl := hX.2.2
        clear hX
        have hkv : Value.agg ⟨[.string (bs X.name), .int .i64 X.pl]⟩ = keyV (X.name, X.pl) := rfl
        simp only [go_sem, ↓tfi, ↓fti, ↓reduceIte, Cc.cs, Mc.cs, plains_map, hkv, keyG_k, findE_keys]
        have hjl : k < (methods.map fun m => (m.name, m.params.length)).length := by simpa using hj
        have hds := dup_step hjl
        have hget : (methods.map fun m => (m.name, m.params.length))[k] = (X.name, X.pl) := by simp [hnm, hpl]
        rw [hget] at hds
        refine ⟨fun hc => ⟨leM_tr h1 (leM_tr q1 p1), ?_⟩, fun hc => ⟨by unfold I64; simp only [big] at hmb; omega, (k + 1, mk), ⟨by simp, ?_, .inl rfl⟩, ⟨p1, by simp only; omega, ?_⟩, by simp only; omega⟩⟩
        ·simp only [dupL, p3, hds, hc, Bool.true_or, Bool.or_true]
        ·simp only
         rw [putE_keys _ _ hc, List.take_succ_eq_append_getElem hjl, hget]
        ·simp only
         rw [p3, hds, hc, Bool.false_or]
       ·have hM : dupB [] (methods.map fun m => (m.name, m.params.length)) = false := by
         rw [p3, List.drop_of_length_le (by simp; omega)]
         rfl
        exact ⟨leM_tr h1 (leM_tr q1 p1), by simp only [dupL, hI, hF, hM, Bool.or_false]⟩
def checkL : List (List UInt8) → List Cd → List UInt8 × Int
 | _, [] => ([], 0)
 | seen, d :: r => if classL d = true then (if deepL d = true then (d.name, 9) else if (seen.contains d.name || dupL d) = true then (d.name, 6) else checkL (seen ++ [d.name]) r) else (d.name, 4)
theorem check_spec (l : List Cd) (p : Option Addr) (n c : Nat) (m : Mem) (hg : Glob m) (hC : ∀ d ∈ l, CdB d) (h : prRep m l p n c) :
  FnH Tryz.prog 11 [.v (.slice p n c)] ⟨[], []⟩ m fun r H' m' => leM m m' ∧ H' = ⟨[], []⟩ ∧ r = .tup [.v (.string (bs (checkL [] l).1)), .v (.int .i64 (checkL [] l).2)] := by
 obtain ⟨hl, hcp, hn, xs, r1, s1⟩ := h
 refine enter cfN puN Tryz.func11 rfl rfl (by kernel_rfl) rfl ?_ ?_
 ·simp only [go_sem, ↓tfi, ↓fti, ↓reduceIte]
 ·simp only [go_sem, ↓tfi, ↓fti, ↓reduceIte]
  refine WP_loop puN (fun x : Nat × Mem => ⟨[⟨4, [], .mp 0⟩, ⟨8, [], .v (.slice p n c)⟩, ⟨9, [], .v (.int .i64 n)⟩, ⟨10, [], .v (.int .i64 x.1)⟩], [], [⟨0, 1000000, (entS ((l.map (·.name)).take x.1)).map .v⟩], [], 1, x.2⟩)
   (fun x => leM m x.2 ∧ x.1 ≤ n ∧ checkL [] l = checkL ((l.map (·.name)).take x.1) (l.drop x.1)) (fun x => n - x.1) (0, m) (by kernel_rfl) (fun _ _ => Nnr _) (fun x hx => hx.1) (fun _ => ?_) ?_ ?_ ?_
  ·simp only [go_sem, ↓tfi, ↓fti, ↓reduceIte, okL_map]
  ·simp only [go_sem, ↓tfi, ↓fti, ↓reduceIte]
   exact ⟨rfl, rfl⟩
  ·exact ⟨.inl rfl, Nat.zero_le _, rfl⟩
  ·rintro ⟨k, mm⟩ ⟨h1, h2, h3⟩
   simp only at h1 h2 h3
   have hy : ∀ (hk : k < l.length), ∃ X : Cc, (Rd mm (ptrAt p (k * 7)) X.cs ∧ p ≠ none) ∧ X.name = l[k].name ∧
     (Ans 32 [.v (.agg ⟨X.cs⟩)] mm (.bool (classL l[k]))) ∧ (∀ m', leM mm m' → Ans 33 [.v (.agg ⟨X.cs⟩)] m' (.bool (deepL l[k]))) ∧ (∀ m', leM mm m' → Ans 34 [.v (.agg ⟨X.cs⟩)] m' (.bool (dupL l[k]))) := fun hk => by
    have hrep := cdRep_up h1 (ls_at s1 hk)
    have hrd := Rds_cells (Rds_upM h1 r1) (by omega : k < n)
    have hX : ∃ X : Cc, (xs.drop (k * 7)).take 7 = X.cs ∧ X.name = l[k].name := by
     obtain ⟨X, e1, _⟩ := hrep
     exact ⟨X, e1.1, e1.2.2.1⟩
    obtain ⟨X, e1, e2⟩ := hX
    rw [e1] at hrd hrep
    have hok := hC _ (List.getElem_mem hk)
    exact ⟨X, hrd, e2, class_spec2 _ _ mm (hg.upM h1) hrep, fun m' hle => deep_spec _ _ m' hok (cdRep_up hle hrep), fun m' hle => dup_spec _ _ m' (cdRep_up hle hrep)⟩
   have hst : ∀ (hk : k < l.length), checkL [] l = (if classL l[k] = true then (if deepL l[k] = true then (l[k].name, 9) else if (((l.map (·.name)).take k).contains l[k].name || dupL l[k]) = true then (l[k].name, 6) else checkL ((l.map (·.name)).take (k + 1)) (l.drop (k + 1))) else (l[k].name, 4)) := fun hk => by
    rw [h3, List.drop_eq_getElem_cons hk, checkL]
    have : (l.map (·.name)).take (k + 1) = (l.map (·.name)).take k ++ [l[k].name] := by
     rw [List.take_succ_eq_append_getElem (by simpa using hk)]
     simp
    rw [this]
   clear hC
   simp only [go_sem, ↓tfi, ↓fti, ↓reduceIte]
   refine ⟨fun hlt => ?_, fun hge => ?_⟩
   ·have hk : k < l.length := by clear hy; omega
    have hst' := hst hk
    clear hst
    refine Exists.elim (hy hk) fun X hy' => ⟨⟨by clear hy hy'; omega, hlt, hy'.1.2⟩, X.cs, ⟨hy'.1.1, rfl⟩, ?_⟩
    clear hy
    have hnm := hy'.2.1
    have hV := hy'.2.2.1
    have hDp := hy'.2.2.2.1
    have hDu := hy'.2.2.2.2
    clear hy'
    simp only [go_sem, ↓tfi, ↓fti, ↓reduceIte, Cc.cs]
    refine cvl ((FnH_den hV (fun V => rfl)).mono ?_)
    clear hV
    rintro r H' m2 hm2 ⟨l2, rfl, rfl⟩
    simp only [go_sem, ↓tfi, ↓fti, ↓reduceIte, Cc.cs]
    refine ⟨fun b1 => ⟨leM_tr h1 l2, ?_⟩, fun b1 => cvl ((FnH_den (hDp m2 l2) (fun V => rfl)).mono ?_)⟩
    ·clear hDp hDu
     rw [hst', if_neg (by rw [b1]; decide), hnm]
    ·clear hDp
     rw [if_pos b1] at hst'
     rintro r H' m3 hm3 ⟨l3, rfl, rfl⟩
     have l23 := leM_tr l2 l3
     simp only [go_sem, ↓tfi, ↓fti, ↓reduceIte, Cc.cs, plains_map, findE_seen]
     refine ⟨fun b2 => ⟨leM_tr h1 l23, ?_⟩, fun b2 => ?_⟩
     ·clear hDu
      rw [hst', if_pos b2, hnm]
     ·rw [if_neg (by rw [b2]; decide)] at hst'
      refine ⟨fun b3 => cvl ((FnH_den (hDu m3 l23) (fun V => rfl)).mono ?_), fun b3 => ⟨leM_tr h1 l23, ?_⟩⟩
      ·clear hDu
       rw [← hnm, b3, Bool.false_or] at hst'
       rintro r H' m4 hm4 ⟨l4, rfl, rfl⟩
       have l24 := leM_tr l23 l4
       simp only [go_sem, ↓tfi, ↓fti, ↓reduceIte, Cc.cs, plains_map, findE_seen]
       refine ⟨fun b4 => ⟨leM_tr h1 l24, ?_⟩, fun b4 => ⟨by unfold I64; simp only [big] at hn; omega, (k + 1, m4), ⟨by simp, ?_, .inl rfl⟩, ⟨leM_tr h1 l24, by simp only; omega, ?_⟩, by simp only; omega⟩⟩
       ·rw [hst', if_pos b4]
       ·have hkl : k < (l.map (·.name)).length := by simpa using hk
        simp only
        rw [putE_new _ _ b3, List.take_succ_eq_append_getElem hkl, hnm]
        simp
       ·simp only
        rw [hst', if_neg (by rw [b4]; decide)]
      ·clear hDu
       rw [hst', ← hnm, b3, if_pos (by simp)]
   ·clear hy
    rw [h3, List.drop_of_length_le (by omega), checkL]
    exact ⟨h1, rfl⟩
def modsL : List (Int × List UInt8) := [(1, [112, 117, 98, 108, 105, 99]), (2, [112, 114, 105, 118, 97, 116, 101]), (4, [112, 114, 111, 116, 101, 99, 116, 101, 100]), (8, [115, 116, 97, 116, 105, 99]), (16, [102, 105, 110, 97, 108]), (32, [115, 121, 110, 99]), (1024, [97, 98, 115, 116, 114, 97, 99, 116])]
def modT (fl : Int) : List Tk := (modsL.filter fun p => hasB fl p.1).map fun p => kw p.2
def ifsT (w : List UInt8) : List (List UInt8) → List Tk
 | [] => []
 | s :: r => kw w :: nm1 s :: (r.map fun t => [sg [44], nm1 t]).flatten
theorem aggMo : aggN Tryz.prog 148 = some (some 2) := by kernel_rfl
theorem szMo : szT Tryz.prog 148 = 2 := by kernel_rfl
theorem zeroMo : zeroO Tryz.prog 148 = some [.v (.int .i64 0), .v (.string (bs []))] := by kernel_rfl
theorem bldMo : bldOk Tryz.prog 148 = true := by kernel_rfl
theorem fldMo_0 : fldO Tryz.prog 148 0 = some (0, none, 1) := by kernel_rfl
theorem fldMo_1 : fldO Tryz.prog 148 1 = some (1, none, 1) := by kernel_rfl
theorem elMo : elT Tryz.prog 149 = some 148 := by kernel_rfl
attribute [go_sem] aggMo szMo zeroMo bldMo fldMo_0 fldMo_1 elMo
def modC : List Value := (modsL.map fun p => [.int .i64 p.1, .string (bs p.2)]).flatten
theorem mod_at {k : Nat} (hk : k < 7) : (modC.drop (k * 2)).take 2 = [.int .i64 (modsL[k]'hk).1, .string (bs (modsL[k]'hk).2)] := by
 rcases (by omega : k = 0 ∨ k = 1 ∨ k = 2 ∨ k = 3 ∨ k = 4 ∨ k = 5 ∨ k = 6) with rfl | rfl | rfl | rfl | rfl | rfl | rfl <;> rfl
theorem mod_take (fl : Int) {k : Nat} (hk : k < 7) : ((modsL.take (k + 1)).filter fun p => hasB fl p.1).map (fun p => kw p.2) = ((modsL.take k).filter fun p => hasB fl p.1).map (fun p => kw p.2) ++ (if hasB fl (modsL[k]'hk).1 = true then [kw (modsL[k]'hk).2] else []) := by
 rw [List.take_succ_eq_append_getElem hk, List.filter_append, List.map_append]
 congr 1
 cases h : hasB fl (modsL[k]'hk).1 <;> simp [h]
theorem mod_len (fl : Int) (k : Nat) : (((modsL.take k).filter fun p => hasB fl p.1).map (fun p => kw p.2)).length ≤ 7 := by
 rw [List.length_map]
 refine Nat.le_trans (List.length_filter_le _ _) ?_
 rw [List.length_take]
 exact Nat.min_le_right _ _
theorem mods_spec (fl : Int) (m : Mem) (u : Nat) (acc : List Tk) (hb : acc.length ≤ cap) : WrT 83 [.v (.int .i64 fl)] m u acc (modT fl) := by
 refine enter cfW puW Tryz.func83 rfl rfl (by kernel_rfl) rfl ?_ ?_
 ·simp only [go_sem, ↓tfi, ↓fti, ↓reduceIte]
 ·simp only [go_sem, ↓tfi, ↓fti, ↓reduceIte]
  refine WP_loop puW (fun x : Nat × Nat × List Tk × Mem => ⟨[⟨0, [], .box 0 0⟩, ⟨1, [], .v (.int .i64 fl)⟩, ⟨13, [], .vec 2 0⟩, ⟨14, [], .v (.int .i64 7)⟩, ⟨15, [], .v (.int .i64 x.1)⟩], [], [⟨0, 64, [.vec 1 (u + x.2.1)]⟩], [⟨1, u + x.2.1, 79, 4, x.2.2.1.length, tkCells x.2.2.1⟩, ⟨2, 0, 148, 2, 7, modC⟩], 3, x.2.2.2⟩)
   (fun x => leM m x.2.2.2 ∧ x.1 ≤ 7 ∧ x.2.2.1 = acc ++ ((modsL.take x.1).filter fun p => hasB fl p.1).map (fun p => kw p.2)) (fun x => 7 - x.1) (0, 0, acc, m) (by kernel_rfl) (fun _ _ => Nnr _) (fun x hx => hx.1) (fun _ => ?_) ?_ ?_ ?_
  ·simp only [go_sem, ↓tfi, ↓fti, ↓reduceIte]
  ·simp only [go_sem, ↓tfi, ↓fti, ↓reduceIte]
   exact ⟨⟨rfl, rfl⟩, rfl, rfl, rfl⟩
  ·exact ⟨.inl rfl, Nat.zero_le _, by simp⟩
  ·rintro ⟨k, v, acc', mm⟩ ⟨h1, h2, h3⟩
   simp only at h1 h2 h3
   have hlen := mod_len fl k
   have hal : acc'.length = acc.length + (((modsL.take k).filter fun p => hasB fl p.1).map (fun p => kw p.2)).length := by rw [h3, Lla]
   have hw := fun (s : List UInt8) (a : Option Addr) (c : Nat) (m' : Mem) (hr : Rds m' a 1 1 (strs [s])) => word1 s a c m' (u + v) acc' hr (by simp only [cap] at hb; omega)
   simp only [go_sem, ↓tfi, ↓fti, ↓reduceIte]
   refine ⟨fun hlt => ?_, fun hge => ⟨h1, u + v, by clear hw; omega, ?_⟩⟩
   ·have hk : k < 7 := by clear hw; omega
    have e := mod_at hk
    have ht := mod_take fl hk
    simp only [go_sem, ↓tfi, ↓fti, ↓reduceIte, e]
    refine ⟨⟨by clear hw; omega, by clear hw; omega⟩, by clear hw; show k * 2 + 2 ≤ 14; omega, fun hb => ⟨by kernel_rfl, fun a c m1 hm1 hc hr => FnV_of ((hw _ a c m1 hr).mono ?_)⟩, fun hb => ?_⟩
    ·clear hw
     have hbb : hasB fl (modsL[k]'hk).1 = true := by rw [hasB, decide_eq_false hb]; rfl
     rw [if_pos hbb] at ht
     rintro r H' m2 hm2 ⟨l2, rfl, w, hw, rfl⟩
     simp only [go_sem, ↓tfi, ↓fti, ↓reduceIte]
     refine ⟨hw, by unfold I64; omega, (k + 1, w - u, acc' ++ [kw (modsL[k]'hk).2], m2), ⟨by simp, by rw [show u + (w - u) = w by omega], ⟨by simp only; omega, rfl, rfl⟩, .inl rfl⟩, ⟨leM_tr h1 (leM_tr (.inr hm1) l2), by simp only; omega, ?_⟩, by simp only; omega⟩
     simp only
     rw [ht, h3, List.append_assoc]
    ·clear hw
     have hbb : ¬ hasB fl (modsL[k]'hk).1 = true := by rw [hasB, decide_eq_true hb]; decide
     rw [if_neg hbb, List.append_nil] at ht
     refine ⟨by unfold I64; omega, (k + 1, v, acc', mm), ⟨by simp, rfl, ⟨rfl, rfl, rfl⟩, .inl rfl⟩, ⟨h1, by simp only; omega, ?_⟩, by simp only; omega⟩
     simp only
     rw [ht, h3]
   ·clear hw
    have hk : k = 7 := by omega
    subst hk
    have : acc' = acc ++ modT fl := by rw [h3]; rfl
    rw [this]
theorem modT_len (fl : Int) : (modT fl).length ≤ 7 := mod_len fl 7
theorem ifs_take (w : List UInt8) : ∀ {l : List (List UInt8)} {k : Nat} (hk : k < l.length), ifsT w (l.take (k + 1)) = ifsT w (l.take k) ++ (if k = 0 then [kw w] else [sg [44]]) ++ [nm1 l[k]]
 | [], _, hk => absurd hk (Nat.not_lt_zero _)
 | s :: r, 0, _ => by simp [ifsT]
 | s :: r, k + 1, hk => by
  have hk' : k < r.length := by simpa using hk
  simp only [List.take_succ_cons, ifsT, List.getElem_cons_succ, Nat.add_one_ne_zero, if_false]
  rw [List.take_succ_eq_append_getElem hk', List.map_append, List.flatten_append]
  simp only [List.map_cons, List.map_nil, List.flatten_cons, List.flatten_nil, List.append_nil, List.cons_append, List.nil_append, List.append_assoc]
theorem ifs_len (w : List UInt8) : ∀ (l : List (List UInt8)), (ifsT w l).length = l.length * 2
 | [] => rfl
 | s :: r => by
  simp only [ifsT, Llc]
  rw [show ((r.map fun t => [sg [44], nm1 t]).flatten).length = r.length * 2 by
   induction r with
   | nil => rfl
   | cons a r ih => simp only [List.map_cons, List.flatten_cons, Lla, Llc, Lln, ih]; omega]
  omega
theorem ifs_spec (w : List UInt8) (l : List (List UInt8)) (a : Option Addr) (n c : Nat) (m : Mem) (u : Nat) (acc : List Tk) (hl : n = l.length) (hr : Rds m a n 1 (strs l)) (hn : n ≤ big) (hb : acc.length + (ifsT w l).length ≤ cap) :
  WrT 86 [.v (.string (bs w)), .v (.slice a n c)] m u acc (ifsT w l) := by
 rw [ifs_len] at hb
 refine enter cfW puW Tryz.func86 rfl rfl (by kernel_rfl) rfl ?_ ?_
 ·simp only [go_sem, ↓tfi, ↓fti, ↓reduceIte]
 ·simp only [go_sem, ↓tfi, ↓fti, ↓reduceIte]
  refine WP_loop puW (fun x : Nat × Nat × List Tk × Mem => ⟨[⟨0, [], .box 0 0⟩, ⟨1, [], .v (.string (bs w))⟩, ⟨8, [], .v (.slice a n c)⟩, ⟨9, [], .v (.int .i64 n)⟩, ⟨10, [], .v (.int .i64 x.1)⟩], [], [⟨0, 64, [.vec 1 (u + x.2.1)]⟩], [⟨1, u + x.2.1, 79, 4, x.2.2.1.length, tkCells x.2.2.1⟩], 2, x.2.2.2⟩)
   (fun x => leM m x.2.2.2 ∧ x.1 ≤ n ∧ x.2.2.1 = acc ++ ifsT w (l.take x.1)) (fun x => n - x.1) (0, 0, acc, m) (by kernel_rfl) (fun _ _ => Nnr _) (fun x hx => hx.1) (fun _ => ?_) ?_ ?_ ?_
  ·simp only [go_sem, ↓tfi, ↓fti, ↓reduceIte]
  ·simp only [go_sem, ↓tfi, ↓fti, ↓reduceIte]
   exact ⟨rfl, rfl, rfl⟩
  ·exact ⟨.inl rfl, Nat.zero_le _, by simp [ifsT]⟩
  ·rintro ⟨k, v, acc', mm⟩ ⟨h1, h2, h3⟩
   simp only at h1 h2 h3
   have hal : acc'.length = acc.length + k * 2 := by rw [h3, Lla, ifs_len, List.length_take]; omega
   have hw := fun (s : List UInt8) (a : Option Addr) (c : Nat) (m' : Mem) (hr : Rds m' a 1 1 (strs [s])) => word1 s a c m' (u + v) acc' hr (by simp only [cap] at hb; omega)
   have hs := fun (s : List UInt8) (a : Option Addr) (c : Nat) (m' : Mem) (hr : Rds m' a 1 1 (strs [s])) => sign1 s a c m' (u + v) acc' hr (by simp only [cap] at hb; omega)
   have hnm := fun (s : List UInt8) (t : Tk) (m' : Mem) (u' : Nat) => name_spec s m' u' (acc' ++ [t]) (by simp only [room1, Lla, List.length_singleton]; simp only [cap] at hb; omega)
   have hrd := fun (hk : k < l.length) => strs_rd (Rds_upM h1 hr) hk
   have hct := fun (hk : k < l.length) => ifs_take w hk
   simp only [go_sem, ↓tfi, ↓fti, ↓reduceIte]
   refine ⟨fun hlt => ?_, fun hge => ⟨h1, u + v, by clear hw hs hnm; omega, ?_⟩⟩
   ·have hk : k < l.length := by clear hw hs hnm; omega
    refine ⟨⟨by clear hw hs hnm; omega, hlt, (hrd hk).2⟩, .string (bs l[k]), (hrd hk).1, ?_⟩
    have hct' := hct hk
    clear hct
    refine ⟨fun h0 => ⟨by kernel_rfl, fun a1 c1 m1 hm1 hc1 hr1 => FnV_of ((hw w a1 c1 m1 hr1).mono ?_)⟩, fun h0 => ⟨by kernel_rfl, fun a1 c1 m1 hm1 hc1 hr1 => FnV_of ((hs [44] a1 c1 m1 hr1).mono ?_)⟩⟩
    ·clear hw hs
     rw [if_pos (by clear hnm; omega)] at hct'
     rintro r H' m2 hm2 ⟨l2, rfl, y, hy, rfl⟩
     simp only [go_sem, ↓tfi, ↓fti, ↓reduceIte]
     refine ⟨hy, by kernel_rfl, FnV_of ((hnm l[k] (kw w) m2 y).mono ?_)⟩
     clear hnm
     rintro r H' m3 hm3 ⟨l3, rfl, z, hz, rfl⟩
     simp only [go_sem, ↓tfi, ↓fti, ↓reduceIte]
     refine ⟨hz, by unfold I64; simp only [big] at hn; omega, (k + 1, z - u, acc' ++ [kw w] ++ [nm1 l[k]], m3), ⟨by simp, by rw [show u + (z - u) = z by omega], ⟨by simp only; omega, rfl, rfl⟩, .inl rfl⟩, ⟨leM_tr h1 (leM_tr (.inr hm1) (leM_tr l2 l3)), by simp only; omega, ?_⟩, by simp only; omega⟩
     simp only
     rw [hct', h3]
     simp only [List.append_assoc]
    ·clear hw hs
     rw [if_neg (by clear hnm; omega)] at hct'
     rintro r H' m2 hm2 ⟨l2, rfl, y, hy, rfl⟩
     simp only [go_sem, ↓tfi, ↓fti, ↓reduceIte]
     refine ⟨hy, by kernel_rfl, FnV_of ((hnm l[k] (sg [44]) m2 y).mono ?_)⟩
     clear hnm
     rintro r H' m3 hm3 ⟨l3, rfl, z, hz, rfl⟩
     simp only [go_sem, ↓tfi, ↓fti, ↓reduceIte]
     refine ⟨hz, by unfold I64; simp only [big] at hn; omega, (k + 1, z - u, acc' ++ [sg [44]] ++ [nm1 l[k]], m3), ⟨by simp, by rw [show u + (z - u) = z by omega], ⟨by simp only; omega, rfl, rfl⟩, .inl rfl⟩, ⟨leM_tr h1 (leM_tr (.inr hm1) (leM_tr l2 l3)), by simp only; omega, ?_⟩, by simp only; omega⟩
     simp only
     rw [hct', h3]
     simp only [List.append_assoc]
   ·clear hw hs hnm
    have : acc' = acc ++ ifsT w l := by rw [h3, List.take_of_length_le (by omega)]
    rw [this]
def fieldT (f : Fc) : List Tk := modT f.fl ++ typT f.ty.dim f.ty.base f.ty.name ++ [nm1 f.name] ++ [sg [59]]
def headT (d : Cd) : List Tk :=
 if hasB d.fl 512 = true then modT (bits .andNot .i64 d.fl 1024) ++ [kw [105, 110, 116, 101, 114, 102, 97, 99, 101]] ++ [nm1 d.name] ++ ifsT [101, 120, 116, 101, 110, 100, 115] d.ifs
 else modT d.fl ++ [kw [99, 108, 97, 115, 115]] ++ [nm1 d.name] ++ [kw [101, 120, 116, 101, 110, 100, 115]] ++ [nm1 d.super] ++ ifsT [105, 109, 112, 108, 101, 109, 101, 110, 116, 115] d.ifs
def classT (IT : List Tk) (MT : Md → List Tk) (d : Cd) : List Tk :=
 headT d ++ [sg [123]] ++ (d.fields.map fieldT).flatten ++ (if 0 < d.init.length then [kw [115, 116, 97, 116, 105, 99]] ++ IT else []) ++ (d.methods.map MT).flatten ++ [sg [125]]
theorem flat_takeT {α : Type} {f : α → List Tk} : ∀ {l : List α} {k : Nat} (hk : k < l.length), ((l.take (k + 1)).map f).flatten = ((l.take k).map f).flatten ++ f l[k] := fun {l k} hk => by
 rw [List.take_succ_eq_append_getElem hk, List.map_append, List.flatten_append]
 simp
theorem flat_le {α : Type} {f : α → List Tk} : ∀ (l : List α) (k : Nat), ((l.take k).map f).flatten.length ≤ ((l.map f).flatten).length
 | [], k => by simp
 | x :: r, 0 => by simp
 | x :: r, k + 1 => by
  have := flat_le (f := f) r k
  simp only [List.take_succ_cons, List.map_cons, List.flatten_cons, Lla]
  omega
set_option maxHeartbeats 8000000 in
theorem classW_spec (IT : List Tk) (MT : Md → List Tk) (d : Cd) (cs : List Value) (m : Mem) (u : Nat) (acc : List Tk) (h : cdRep m d cs) (hdim : ∀ f ∈ d.fields, f.ty.dim ≤ 1000) (hb : acc.length + (classT IT MT d).length ≤ cap)
  (hI : 0 < d.init.length → ∀ a n c xs m' u acc, leM m m' → n = d.init.length → Rds m' a n 23 xs → stsRep m' d.init xs → acc.length + IT.length ≤ cap → WrT 89 [.v (.slice a n c)] m' u acc IT)
  (hM : ∀ e ∈ d.methods, ∀ cs m' u acc, leM m m' → mdRep m' e cs → acc.length + (MT e).length ≤ cap → WrT 90 [.v (.agg ⟨cs⟩)] m' u acc (MT e)) :
  WrT 38 [.v (.agg ⟨cs⟩)] m u acc (classT IT MT d) := by
 obtain ⟨fl, name, super, ifs, fields, methods, init⟩ := d
 obtain ⟨x, ⟨rfl, rfl, rfl, rfl⟩, ⟨hil, hic, hfn, hfc, hml, hmc, hsl, hsc⟩, hok, r1, r2, xs, ys, r3, s3, r4, s4⟩ := h
 simp only at hil hfn hml hsl r1 r2 s3 s4 hdim hI hM
 have hib : x.il ≤ big := by rw [hil]; exact hok.il
 have hfb : x.fn ≤ big := by rw [hfn]; exact hok.fn
 have hmb : x.ml ≤ big := by rw [hml]; exact hok.ml
 have hMd := fun (fl : Int) (m' : Mem) (u' : Nat) (acc' : List Tk) (hc : acc'.length ≤ cap) => mods_spec fl m' u' acc' hc
 have hW := fun (s : List UInt8) (u' : Nat) (acc' : List Tk) (hc : acc'.length ≤ cap) (a : Option Addr) (c : Nat) (m' : Mem) (hr : Rds m' a 1 1 (strs [s])) => word1 s a c m' u' acc' hr (by simp only [cap] at hc; omega)
 have hS := fun (s : List UInt8) (u' : Nat) (acc' : List Tk) (hc : acc'.length ≤ cap) (a : Option Addr) (c : Nat) (m' : Mem) (hr : Rds m' a 1 1 (strs [s])) => sign1 s a c m' u' acc' hr (by simp only [cap] at hc; omega)
 have hN := fun (s : List UInt8) (m' : Mem) (u' : Nat) (acc' : List Tk) (hc : acc'.length ≤ cap) => name_spec s m' u' acc' (by simp only [cap, room1, List.length_singleton] at hc ⊢; omega)
 have hT := fun (t : Ty) (hd : t.dim ≤ 1000) (m' : Mem) (u' : Nat) (acc' : List Tk) (hc : acc'.length ≤ cap) => typ_spec t.dim t.base t.name m' u' acc' hd (by simp only [cap] at hc; omega)
 have hIf := fun (w : List UInt8) (m' : Mem) (hle : leM m m') (u' : Nat) (acc' : List Tk) (hc : acc'.length + (ifsT w ifs).length ≤ cap) => ifs_spec w ifs x.ia x.il x.ic m' u' acc' hil (Rds_upM hle r1) hib hc
 have hlen : (classT IT MT ⟨x.fl, x.name, x.super, ifs, fields, methods, init⟩).length = (headT ⟨x.fl, x.name, x.super, ifs, fields, methods, init⟩).length + 1 + ((fields.map fieldT).flatten).length + (if 0 < init.length then [kw [115, 116, 97, 116, 105, 99]] ++ IT else []).length + ((methods.map MT).flatten).length + 1 := by
  simp only [classT, Lla, List.length_singleton]
 rw [hlen] at hb
 refine enter cfW puW Tryz.func38 rfl rfl (by kernel_rfl) rfl ?_ ?_
 ·simp only [go_sem, ↓tfi, ↓fti, ↓reduceIte, Cc.cs]
 ·simp only [go_sem, ↓tfi, ↓fti, ↓reduceIte, Cc.cs]
  -- the walk
  refine ⟨fun hbit => ?_, fun hbit => ?_⟩
  ·have hB : hasB x.fl 512 = true := by rw [hasB, decide_eq_false hbit]; rfl
   have hH : headT ⟨x.fl, x.name, x.super, ifs, fields, methods, init⟩ = modT (bits .andNot .i64 x.fl 1024) ++ [kw [105, 110, 116, 101, 114, 102, 97, 99, 101]] ++ [nm1 x.name] ++ ifsT [101, 120, 116, 101, 110, 100, 115] ifs := by rw [headT, if_pos hB]
   have hHl := congrArg List.length hH
   simp only [Lla, Llc, Lln] at hHl
   refine cvl ((hMd (bits .andNot .i64 x.fl 1024) m u (acc) (by clear hMd hW hS hN hT hIf hI hM; first | omega | (simp only [Lla, Llc, Lln]; omega))).mono ?_)
   rintro r H' m1 hm1 ⟨l1, rfl, u1, hu1, rfl⟩
   simp only [go_sem, ↓tfi, ↓fti, ↓reduceIte, Cc.cs]
   refine ⟨hu1, by kernel_rfl, fun a2 c2 w2 hw2 hc2 rr2 => FnV_of ((hW [105, 110, 116, 101, 114, 102, 97, 99, 101] u1 (acc ++ modT (bits .andNot .i64 x.fl 1024)) (by clear hMd hW hS hN hT hIf hI hM; first | omega | (simp only [Lla, Llc, Lln]; omega)) a2 c2 w2 rr2).mono ?_)⟩
   rintro r H' m2 hm2 ⟨l2, rfl, u2, hu2, rfl⟩
   simp only [go_sem, ↓tfi, ↓fti, ↓reduceIte, Cc.cs]
   refine ⟨hu2, by kernel_rfl, FnV_of ((hN x.name m2 u2 (acc ++ modT (bits .andNot .i64 x.fl 1024) ++ [kw [105, 110, 116, 101, 114, 102, 97, 99, 101]]) (by clear hMd hW hS hN hT hIf hI hM; first | omega | (simp only [Lla, Llc, Lln]; omega))).mono ?_)⟩
   rintro r H' m3 hm3 ⟨l3, rfl, u3, hu3, rfl⟩
   simp only [go_sem, ↓tfi, ↓fti, ↓reduceIte, Cc.cs]
   refine ⟨hu3, by kernel_rfl, FnV_of ((hIf [101, 120, 116, 101, 110, 100, 115] m3 (leM_tr (leM_tr (leM_tr (leM_tr (.inl rfl : leM m m) l1) (.inr hw2)) l2) l3) u3 (acc ++ modT (bits .andNot .i64 x.fl 1024) ++ [kw [105, 110, 116, 101, 114, 102, 97, 99, 101]] ++ [nm1 x.name]) (by clear hMd hW hS hN hT hIf hI hM; first | omega | (simp only [Lla, Llc, Lln]; omega))).mono ?_)⟩
   rintro r H' m4 hm4 ⟨l4, rfl, u4, hu4, rfl⟩
   simp only [go_sem, ↓tfi, ↓fti, ↓reduceIte, Cc.cs]
   refine ⟨hu4, by kernel_rfl, fun a5 c5 w5 hw5 hc5 rr5 => FnV_of ((hS [123] u4 (acc ++ modT (bits .andNot .i64 x.fl 1024) ++ [kw [105, 110, 116, 101, 114, 102, 97, 99, 101]] ++ [nm1 x.name] ++ ifsT [101, 120, 116, 101, 110, 100, 115] ifs) (by clear hMd hW hS hN hT hIf hI hM; first | omega | (simp only [Lla, Llc, Lln]; omega)) a5 c5 w5 rr5).mono ?_)⟩
   rintro r H' m5 hm5 ⟨l5, rfl, u5, hu5, rfl⟩
   simp only [go_sem, ↓tfi, ↓fti, ↓reduceIte, Cc.cs]
   refine ⟨hu5, ?_⟩
   have hlf := (leM_tr (leM_tr (leM_tr (leM_tr (leM_tr (leM_tr (leM_tr (.inl rfl : leM m m) l1) (.inr hw2)) l2) l3) l4) (.inr hw5)) l5)
   refine WP_loop puW (fun y : Nat × Nat × List Tk × Mem => ⟨[⟨0, [], .box 0 0⟩, ⟨3, [], .box 2 0⟩, ⟨54, [], .v (.slice x.fa x.fn x.fc)⟩, ⟨55, [], .v (.int .i64 x.fn)⟩, ⟨56, [], .v (.int .i64 y.1)⟩], [], [⟨0, 64, [.vec 1 (u5 + y.2.1)]⟩, ⟨2, 55, x.cs.map .v⟩], [⟨1, u5 + y.2.1, 79, 4, y.2.2.1.length, tkCells y.2.2.1⟩], 100, y.2.2.2⟩)
    (fun y => leM m5 y.2.2.2 ∧ y.1 ≤ x.fn ∧ y.2.2.1 = acc ++ modT (bits .andNot .i64 x.fl 1024) ++ [kw [105, 110, 116, 101, 114, 102, 97, 99, 101]] ++ [nm1 x.name] ++ ifsT [101, 120, 116, 101, 110, 100, 115] ifs ++ [sg [123]] ++ ((fields.take y.1).map fieldT).flatten) (fun y => x.fn - y.1) (0, 0, acc ++ modT (bits .andNot .i64 x.fl 1024) ++ [kw [105, 110, 116, 101, 114, 102, 97, 99, 101]] ++ [nm1 x.name] ++ ifsT [101, 120, 116, 101, 110, 100, 115] ifs ++ [sg [123]], m5) (by kernel_rfl) (fun _ _ => nbl rfl) (fun y hy => hy.1) (fun _ => ?_) ?_ ?_ ?_
   ·simp only [go_sem, ↓tfi, ↓fti, ↓reduceIte, Cc.cs]
   ·simp only [go_sem, ↓tfi, ↓fti, ↓reduceIte, Cc.cs]
    exact ⟨rfl, rfl, rfl⟩
   ·exact ⟨.inl rfl, Nat.zero_le _, by simp⟩
   ·rintro ⟨k, v, accf, mf⟩ ⟨f1, f2, f3⟩
    simp only at f1 f2 f3
    have hal := congrArg List.length f3
    simp only [Lla, Llc, Lln] at hal
    have hle := flat_le (f := fieldT) fields k
    have hft := fun (hk : k < fields.length) => And.intro (flat_takeT (f := fieldT) hk) (flat_le (f := fieldT) fields (k + 1))
    have hy : ∀ (hk : k < fields.length), Rd mf (ptrAt x.fa (k * 5)) (fields[k]).cs ∧ x.fa ≠ none := fun hk => by
     have := Rds_cells (Rds_upM (leM_tr hlf f1) r2) (by omega : k < x.fn)
     rw [flat_at (f := Fc.cs) (sz := 5) (fun _ => rfl) hk] at this
     exact this
    simp only [go_sem, ↓tfi, ↓fti, ↓reduceIte, Cc.cs]
    refine ⟨fun hlt => ?_, fun hge => ?_⟩
    ·have hk : k < fields.length := by clear hMd hW hS hN hT hIf hI hM; omega
     have hft' := hft hk
     clear hft
     have hsz := congrArg List.length hft'.1
     rw [Lla] at hsz
     have hsz2 : (fieldT fields[k]).length = (modT fields[k].fl).length + (typT fields[k].ty.dim fields[k].ty.base fields[k].ty.name).length + 1 + 1 := by simp only [fieldT, Lla, Llc, Lln]
     have hfm : fields[k] ∈ fields := List.getElem_mem hk
     refine ⟨⟨by clear hMd hW hS hN hT hIf hI hM; omega, hlt, (hy hk).2⟩, (fields[k]).cs, ⟨(hy hk).1, rfl⟩, ?_⟩
     simp only [go_sem, ↓tfi, ↓fti, ↓reduceIte, Cc.cs, Fc.cs]
     refine cvl ((hMd fields[k].fl mf (u5 + v) (accf) (by clear hMd hW hS hN hT hIf hI hM; first | omega | (simp only [Lla, Llc, Lln]; omega))).mono ?_)
     rintro r H' m7 hm7 ⟨l7, rfl, u7, hu7, rfl⟩
     simp only [go_sem, ↓tfi, ↓fti, ↓reduceIte, Cc.cs, Fc.cs]
     refine ⟨hu7, by kernel_rfl, FnV_of ((FnH_den (hT fields[k].ty (hdim _ hfm) m7 u7 (accf ++ modT fields[k].fl) (by clear hMd hW hS hN hT hIf hI hM; first | omega | (simp only [Lla, Llc, Lln]; omega))) (fun V => rfl)).mono ?_)⟩
     rintro r H' m8 hm8 ⟨l8, rfl, u8, hu8, rfl⟩
     simp only [go_sem, ↓tfi, ↓fti, ↓reduceIte, Cc.cs, Fc.cs]
     refine ⟨hu8, by kernel_rfl, FnV_of ((hN fields[k].name m8 u8 (accf ++ modT fields[k].fl ++ typT fields[k].ty.dim fields[k].ty.base fields[k].ty.name) (by clear hMd hW hS hN hT hIf hI hM; first | omega | (simp only [Lla, Llc, Lln]; omega))).mono ?_)⟩
     rintro r H' m9 hm9 ⟨l9, rfl, u9, hu9, rfl⟩
     simp only [go_sem, ↓tfi, ↓fti, ↓reduceIte, Cc.cs, Fc.cs]
     refine ⟨hu9, by kernel_rfl, fun a10 c10 w10 hw10 hc10 rr10 => FnV_of ((hS [59] u9 (accf ++ modT fields[k].fl ++ typT fields[k].ty.dim fields[k].ty.base fields[k].ty.name ++ [nm1 fields[k].name]) (by clear hMd hW hS hN hT hIf hI hM; first | omega | (simp only [Lla, Llc, Lln]; omega)) a10 c10 w10 rr10).mono ?_)⟩
     rintro r H' m10 hm10 ⟨l10, rfl, u10, hu10, rfl⟩
     simp only [go_sem, ↓tfi, ↓fti, ↓reduceIte, Cc.cs, Fc.cs]
     refine ⟨hu10, by clear hMd hW hS hN hT hIf hI hM; unfold I64; simp only [big] at hfb; omega, (k + 1, u10 - u5, accf ++ modT fields[k].fl ++ typT fields[k].ty.dim fields[k].ty.base fields[k].ty.name ++ [nm1 fields[k].name] ++ [sg [59]], m10), ⟨by simp, by rw [show u5 + (u10 - u5) = u10 by clear hMd hW hS hN hT hIf hI hM; omega], ⟨by clear hMd hW hS hN hT hIf hI hM; simp only; omega, rfl, rfl⟩, .inl rfl⟩, ⟨leM_tr f1 (leM_tr (leM_tr (leM_tr (leM_tr (leM_tr (.inl rfl : leM mf mf) l7) l8) l9) (.inr hw10)) l10), by clear hMd hW hS hN hT hIf hI hM; simp only; omega, ?_⟩, by clear hMd hW hS hN hT hIf hI hM; simp only; omega⟩
     simp only
     rw [hft'.1, f3]
     simp only [fieldT, List.append_assoc]
    ·clear hy hft
     have hkk : fields.take k = fields := List.take_of_length_le (by clear hMd hW hS hN hT hIf hI hM; omega)
     rw [hkk] at f3 hal
     refine ⟨fun hi => ?_, fun hi => ?_⟩
     ·have hi0 : 0 < init.length := by clear hMd hW hS hN hT hIf hI hM; omega
      rw [if_pos hi0] at hb
      simp only [Lla, Llc, Lln] at hb
      have hini : (if 0 < init.length then [kw [115, 116, 97, 116, 105, 99]] ++ IT else []) = [kw [115, 116, 97, 116, 105, 99]] ++ IT := if_pos hi0
      refine ⟨by kernel_rfl, fun a11 c11 w11 hw11 hc11 rr11 => FnV_of ((hW [115, 116, 97, 116, 105, 99] (u5 + v) (accf) (by clear hMd hW hS hN hT hIf hI hM; first | omega | (simp only [Lla, Llc, Lln]; omega)) a11 c11 w11 rr11).mono ?_)⟩
      rintro r H' m11 hm11 ⟨l11, rfl, u11, hu11, rfl⟩
      simp only [go_sem, ↓tfi, ↓fti, ↓reduceIte, Cc.cs]
      refine ⟨hu11, by kernel_rfl, FnV_of ((hI hi0 x.sa x.sl x.sc ys m11 u11 (accf ++ [kw [115, 116, 97, 116, 105, 99]]) (leM_tr (leM_tr (leM_tr hlf f1) (.inr hw11)) l11) hsl (Rds_upM (leM_tr (leM_tr (leM_tr hlf f1) (.inr hw11)) l11) r4) (stsRep_upM (leM_tr (leM_tr (leM_tr hlf f1) (.inr hw11)) l11) s4) (by clear hMd hW hS hN hT hIf hI hM; first | omega | (simp only [Lla, Llc, Lln]; omega))).mono ?_)⟩
      rintro r H' m12 hm12 ⟨l12, rfl, u12, hu12, rfl⟩
      simp only [go_sem, ↓tfi, ↓fti, ↓reduceIte, Cc.cs]
      refine ⟨hu12, ?_⟩
      have hlm := (leM_tr (leM_tr (leM_tr (leM_tr hlf f1) (.inr hw11)) l11) l12)
      refine WP_loop puW (fun y : Nat × Nat × List Tk × Mem => ⟨[⟨0, [], .box 0 0⟩, ⟨88, [], .v (.slice x.ma x.ml x.mc)⟩, ⟨89, [], .v (.int .i64 x.ml)⟩, ⟨90, [], .v (.int .i64 y.1)⟩], [], [⟨0, 64, [.vec 1 (u12 + y.2.1)]⟩], [⟨1, u12 + y.2.1, 79, 4, y.2.2.1.length, tkCells y.2.2.1⟩], 200, y.2.2.2⟩)
       (fun y => leM m12 y.2.2.2 ∧ y.1 ≤ x.ml ∧ y.2.2.1 = accf ++ [kw [115, 116, 97, 116, 105, 99]] ++ IT ++ ((methods.take y.1).map MT).flatten) (fun y => x.ml - y.1) (0, 0, accf ++ [kw [115, 116, 97, 116, 105, 99]] ++ IT, m12) (by kernel_rfl) (fun _ _ => nbl rfl) (fun y hy => hy.1) (fun _ => ?_) ?_ ?_ ?_
      ·simp only [go_sem, ↓tfi, ↓fti, ↓reduceIte]
      ·simp only [go_sem, ↓tfi, ↓fti, ↓reduceIte]
       exact ⟨rfl, rfl, rfl⟩
      ·exact ⟨.inl rfl, Nat.zero_le _, by simp⟩
      ·rintro ⟨k, vm, acc', mm⟩ ⟨h1, h2, h3⟩
       simp only at h1 h2 h3
       have hal := congrArg List.length h3
       simp only [Lla, Llc, Lln] at hal
       have hle := flat_le (f := MT) methods k
       have hy : ∀ (hk : k < methods.length), ∃ X : Mc, (Rd mm (ptrAt x.ma (k * 8)) X.cs ∧ x.ma ≠ none) ∧ WrT 90 [.v (.agg ⟨X.cs⟩)] mm (u12 + vm) acc' (MT methods[k]) := fun hk => by
        have hrep := mdRep_up (leM_tr hlm h1) (ls_at s3 hk)
        have hrd := Rds_cells (Rds_upM (leM_tr hlm h1) r3) (by omega : k < x.ml)
        obtain ⟨X, hX⟩ := mdRep_mc hrep
        rw [hX] at hrep hrd
        have hsz := flat_le (f := MT) methods (k + 1)
        have hst := congrArg List.length (flat_takeT (f := MT) hk)
        rw [Lla] at hst
        exact ⟨X, hrd, hM _ (List.getElem_mem hk) X.cs mm _ acc' (leM_tr hlm h1) hrep (by clear hMd hW hS hN hT hIf hI hM; omega)⟩
       have hft := fun (hk : k < methods.length) => flat_takeT (f := MT) hk
       clear hM
       simp only [go_sem, ↓tfi, ↓fti, ↓reduceIte]
       refine ⟨fun hlt => ?_, fun hge => ?_⟩
       ·have hk : k < methods.length := by clear hMd hW hS hN hT hIf hI hy; omega
        have hft' := hft hk
        clear hft
        refine Exists.elim (hy hk) fun X hy' => ⟨⟨by clear hMd hW hS hN hT hIf hI hy hy'; omega, hlt, hy'.1.2⟩, X.cs, ⟨hy'.1.1, rfl⟩, ?_⟩
        clear hy
        have hD := hy'.2
        clear hy'
        simp only [go_sem, ↓tfi, ↓fti, ↓reduceIte, Mc.cs]
        refine cvl ((FnH_den hD (fun V => rfl)).mono ?_)
        clear hD
        rintro r H' mz hmz ⟨lz, rfl, uz, huz, rfl⟩
        simp only [go_sem, ↓tfi, ↓fti, ↓reduceIte, Mc.cs]
        refine ⟨huz, by clear hMd hW hS hN hT hIf hI; unfold I64; simp only [big] at hmb; omega, (k + 1, uz - u12, acc' ++ MT methods[k], mz), ⟨by simp, by rw [show u12 + (uz - u12) = uz by omega], ⟨by simp only; omega, rfl, rfl⟩, .inl rfl⟩, ⟨leM_tr h1 lz, by simp only; omega, ?_⟩, by simp only; omega⟩
        simp only
        rw [hft', h3, List.append_assoc]
       ·clear hy hft
        have hkk : methods.take k = methods := List.take_of_length_le (by clear hMd hW hS hN hT hIf hI; omega)
        rw [hkk] at h3 hal
        refine ⟨by kernel_rfl, fun az cz wz hwz hcz rz => FnV_of ((hS [125] (u12 + vm) acc' (by clear hMd hW hS hN hT hIf hI; omega) az cz wz rz).mono ?_)⟩
        clear hMd hW hS hN hT hIf hI
        rintro r H' mz hmz ⟨lz, rfl, uz, huz, rfl⟩
        simp only [go_sem, ↓tfi, ↓fti, ↓reduceIte]
        refine ⟨huz, leM_tr hlm (leM_tr h1 (leM_tr (.inr hwz) lz)), uz, by omega, ?_⟩
        have hfin : acc' ++ [sg [125]] = acc ++ classT IT MT ⟨x.fl, x.name, x.super, ifs, fields, methods, init⟩ := by
         rw [h3, f3, classT]
         dsimp only
         rw [hH, hini]
         simp only [List.append_assoc, List.cons_append, List.nil_append, List.append_nil]
        rw [hfin]
     ·have hi0 : ¬ 0 < init.length := by clear hMd hW hS hN hT hIf hI hM; omega
      rw [if_neg hi0] at hb
      simp only [Lln] at hb
      have hini : (if 0 < init.length then [kw [115, 116, 97, 116, 105, 99]] ++ IT else []) = [] := if_neg hi0
      have hlm := (leM_tr hlf f1)
      refine WP_loop puW (fun y : Nat × Nat × List Tk × Mem => ⟨[⟨0, [], .box 0 0⟩, ⟨88, [], .v (.slice x.ma x.ml x.mc)⟩, ⟨89, [], .v (.int .i64 x.ml)⟩, ⟨90, [], .v (.int .i64 y.1)⟩], [], [⟨0, 64, [.vec 1 ((u5 + v) + y.2.1)]⟩], [⟨1, (u5 + v) + y.2.1, 79, 4, y.2.2.1.length, tkCells y.2.2.1⟩], 200, y.2.2.2⟩)
       (fun y => leM mf y.2.2.2 ∧ y.1 ≤ x.ml ∧ y.2.2.1 = accf ++ ((methods.take y.1).map MT).flatten) (fun y => x.ml - y.1) (0, 0, accf, mf) (by kernel_rfl) (fun _ _ => nbl rfl) (fun y hy => hy.1) (fun _ => ?_) ?_ ?_ ?_
      ·simp only [go_sem, ↓tfi, ↓fti, ↓reduceIte]
      ·simp only [go_sem, ↓tfi, ↓fti, ↓reduceIte]
       exact ⟨rfl, rfl, rfl⟩
      ·exact ⟨.inl rfl, Nat.zero_le _, by simp⟩
      ·rintro ⟨k, vm, acc', mm⟩ ⟨h1, h2, h3⟩
       simp only at h1 h2 h3
       have hal := congrArg List.length h3
       simp only [Lla, Llc, Lln] at hal
       have hle := flat_le (f := MT) methods k
       have hy : ∀ (hk : k < methods.length), ∃ X : Mc, (Rd mm (ptrAt x.ma (k * 8)) X.cs ∧ x.ma ≠ none) ∧ WrT 90 [.v (.agg ⟨X.cs⟩)] mm ((u5 + v) + vm) acc' (MT methods[k]) := fun hk => by
        have hrep := mdRep_up (leM_tr hlm h1) (ls_at s3 hk)
        have hrd := Rds_cells (Rds_upM (leM_tr hlm h1) r3) (by omega : k < x.ml)
        obtain ⟨X, hX⟩ := mdRep_mc hrep
        rw [hX] at hrep hrd
        have hsz := flat_le (f := MT) methods (k + 1)
        have hst := congrArg List.length (flat_takeT (f := MT) hk)
        rw [Lla] at hst
        exact ⟨X, hrd, hM _ (List.getElem_mem hk) X.cs mm _ acc' (leM_tr hlm h1) hrep (by clear hMd hW hS hN hT hIf hI hM; omega)⟩
       have hft := fun (hk : k < methods.length) => flat_takeT (f := MT) hk
       clear hM
       simp only [go_sem, ↓tfi, ↓fti, ↓reduceIte]
       refine ⟨fun hlt => ?_, fun hge => ?_⟩
       ·have hk : k < methods.length := by clear hMd hW hS hN hT hIf hI hy; omega
        have hft' := hft hk
        clear hft
        refine Exists.elim (hy hk) fun X hy' => ⟨⟨by clear hMd hW hS hN hT hIf hI hy hy'; omega, hlt, hy'.1.2⟩, X.cs, ⟨hy'.1.1, rfl⟩, ?_⟩
        clear hy
        have hD := hy'.2
        clear hy'
        simp only [go_sem, ↓tfi, ↓fti, ↓reduceIte, Mc.cs]
        refine cvl ((FnH_den hD (fun V => rfl)).mono ?_)
        clear hD
        rintro r H' mz hmz ⟨lz, rfl, uz, huz, rfl⟩
        simp only [go_sem, ↓tfi, ↓fti, ↓reduceIte, Mc.cs]
        refine ⟨huz, by clear hMd hW hS hN hT hIf hI; unfold I64; simp only [big] at hmb; omega, (k + 1, uz - (u5 + v), acc' ++ MT methods[k], mz), ⟨by simp, by rw [show (u5 + v) + (uz - (u5 + v)) = uz by omega], ⟨by simp only; omega, rfl, rfl⟩, .inl rfl⟩, ⟨leM_tr h1 lz, by simp only; omega, ?_⟩, by simp only; omega⟩
        simp only
        rw [hft', h3, List.append_assoc]
       ·clear hy hft
        have hkk : methods.take k = methods := List.take_of_length_le (by clear hMd hW hS hN hT hIf hI; omega)
        rw [hkk] at h3 hal
        refine ⟨by kernel_rfl, fun az cz wz hwz hcz rz => FnV_of ((hS [125] ((u5 + v) + vm) acc' (by clear hMd hW hS hN hT hIf hI; omega) az cz wz rz).mono ?_)⟩
        clear hMd hW hS hN hT hIf hI
        rintro r H' mz hmz ⟨lz, rfl, uz, huz, rfl⟩
        simp only [go_sem, ↓tfi, ↓fti, ↓reduceIte]
        refine ⟨huz, leM_tr hlm (leM_tr h1 (leM_tr (.inr hwz) lz)), uz, by omega, ?_⟩
        have hfin : acc' ++ [sg [125]] = acc ++ classT IT MT ⟨x.fl, x.name, x.super, ifs, fields, methods, init⟩ := by
         rw [h3, f3, classT]
         dsimp only
         rw [hH, hini]
         simp only [List.append_assoc, List.cons_append, List.nil_append, List.append_nil]
        rw [hfin]
  ·have hB : ¬ hasB x.fl 512 = true := by rw [hasB, decide_eq_true hbit]; decide
   have hH : headT ⟨x.fl, x.name, x.super, ifs, fields, methods, init⟩ = modT x.fl ++ [kw [99, 108, 97, 115, 115]] ++ [nm1 x.name] ++ [kw [101, 120, 116, 101, 110, 100, 115]] ++ [nm1 x.super] ++ ifsT [105, 109, 112, 108, 101, 109, 101, 110, 116, 115] ifs := by rw [headT, if_neg hB]
   have hHl := congrArg List.length hH
   simp only [Lla, Llc, Lln] at hHl
   refine cvl ((hMd x.fl m u (acc) (by clear hMd hW hS hN hT hIf hI hM; first | omega | (simp only [Lla, Llc, Lln]; omega))).mono ?_)
   rintro r H' m15 hm15 ⟨l15, rfl, u15, hu15, rfl⟩
   simp only [go_sem, ↓tfi, ↓fti, ↓reduceIte, Cc.cs]
   refine ⟨hu15, by kernel_rfl, fun a16 c16 w16 hw16 hc16 rr16 => FnV_of ((hW [99, 108, 97, 115, 115] u15 (acc ++ modT x.fl) (by clear hMd hW hS hN hT hIf hI hM; first | omega | (simp only [Lla, Llc, Lln]; omega)) a16 c16 w16 rr16).mono ?_)⟩
   rintro r H' m16 hm16 ⟨l16, rfl, u16, hu16, rfl⟩
   simp only [go_sem, ↓tfi, ↓fti, ↓reduceIte, Cc.cs]
   refine ⟨hu16, by kernel_rfl, FnV_of ((hN x.name m16 u16 (acc ++ modT x.fl ++ [kw [99, 108, 97, 115, 115]]) (by clear hMd hW hS hN hT hIf hI hM; first | omega | (simp only [Lla, Llc, Lln]; omega))).mono ?_)⟩
   rintro r H' m17 hm17 ⟨l17, rfl, u17, hu17, rfl⟩
   simp only [go_sem, ↓tfi, ↓fti, ↓reduceIte, Cc.cs]
   refine ⟨hu17, by kernel_rfl, fun a18 c18 w18 hw18 hc18 rr18 => FnV_of ((hW [101, 120, 116, 101, 110, 100, 115] u17 (acc ++ modT x.fl ++ [kw [99, 108, 97, 115, 115]] ++ [nm1 x.name]) (by clear hMd hW hS hN hT hIf hI hM; first | omega | (simp only [Lla, Llc, Lln]; omega)) a18 c18 w18 rr18).mono ?_)⟩
   rintro r H' m18 hm18 ⟨l18, rfl, u18, hu18, rfl⟩
   simp only [go_sem, ↓tfi, ↓fti, ↓reduceIte, Cc.cs]
   refine ⟨hu18, by kernel_rfl, FnV_of ((hN x.super m18 u18 (acc ++ modT x.fl ++ [kw [99, 108, 97, 115, 115]] ++ [nm1 x.name] ++ [kw [101, 120, 116, 101, 110, 100, 115]]) (by clear hMd hW hS hN hT hIf hI hM; first | omega | (simp only [Lla, Llc, Lln]; omega))).mono ?_)⟩
   rintro r H' m19 hm19 ⟨l19, rfl, u19, hu19, rfl⟩
   simp only [go_sem, ↓tfi, ↓fti, ↓reduceIte, Cc.cs]
   refine ⟨hu19, by kernel_rfl, FnV_of ((hIf [105, 109, 112, 108, 101, 109, 101, 110, 116, 115] m19 (leM_tr (leM_tr (leM_tr (leM_tr (leM_tr (leM_tr (leM_tr (.inl rfl : leM m m) l15) (.inr hw16)) l16) l17) (.inr hw18)) l18) l19) u19 (acc ++ modT x.fl ++ [kw [99, 108, 97, 115, 115]] ++ [nm1 x.name] ++ [kw [101, 120, 116, 101, 110, 100, 115]] ++ [nm1 x.super]) (by clear hMd hW hS hN hT hIf hI hM; first | omega | (simp only [Lla, Llc, Lln]; omega))).mono ?_)⟩
   rintro r H' m20 hm20 ⟨l20, rfl, u20, hu20, rfl⟩
   simp only [go_sem, ↓tfi, ↓fti, ↓reduceIte, Cc.cs]
   refine ⟨hu20, by kernel_rfl, fun a21 c21 w21 hw21 hc21 rr21 => FnV_of ((hS [123] u20 (acc ++ modT x.fl ++ [kw [99, 108, 97, 115, 115]] ++ [nm1 x.name] ++ [kw [101, 120, 116, 101, 110, 100, 115]] ++ [nm1 x.super] ++ ifsT [105, 109, 112, 108, 101, 109, 101, 110, 116, 115] ifs) (by clear hMd hW hS hN hT hIf hI hM; first | omega | (simp only [Lla, Llc, Lln]; omega)) a21 c21 w21 rr21).mono ?_)⟩
   rintro r H' m21 hm21 ⟨l21, rfl, u21, hu21, rfl⟩
   simp only [go_sem, ↓tfi, ↓fti, ↓reduceIte, Cc.cs]
   refine ⟨hu21, ?_⟩
   have hlf := (leM_tr (leM_tr (leM_tr (leM_tr (leM_tr (leM_tr (leM_tr (leM_tr (leM_tr (leM_tr (.inl rfl : leM m m) l15) (.inr hw16)) l16) l17) (.inr hw18)) l18) l19) l20) (.inr hw21)) l21)
   refine WP_loop puW (fun y : Nat × Nat × List Tk × Mem => ⟨[⟨0, [], .box 0 0⟩, ⟨3, [], .box 2 0⟩, ⟨54, [], .v (.slice x.fa x.fn x.fc)⟩, ⟨55, [], .v (.int .i64 x.fn)⟩, ⟨56, [], .v (.int .i64 y.1)⟩], [], [⟨0, 64, [.vec 1 (u21 + y.2.1)]⟩, ⟨2, 55, x.cs.map .v⟩], [⟨1, u21 + y.2.1, 79, 4, y.2.2.1.length, tkCells y.2.2.1⟩], 100, y.2.2.2⟩)
    (fun y => leM m21 y.2.2.2 ∧ y.1 ≤ x.fn ∧ y.2.2.1 = acc ++ modT x.fl ++ [kw [99, 108, 97, 115, 115]] ++ [nm1 x.name] ++ [kw [101, 120, 116, 101, 110, 100, 115]] ++ [nm1 x.super] ++ ifsT [105, 109, 112, 108, 101, 109, 101, 110, 116, 115] ifs ++ [sg [123]] ++ ((fields.take y.1).map fieldT).flatten) (fun y => x.fn - y.1) (0, 0, acc ++ modT x.fl ++ [kw [99, 108, 97, 115, 115]] ++ [nm1 x.name] ++ [kw [101, 120, 116, 101, 110, 100, 115]] ++ [nm1 x.super] ++ ifsT [105, 109, 112, 108, 101, 109, 101, 110, 116, 115] ifs ++ [sg [123]], m21) (by kernel_rfl) (fun _ _ => nbl rfl) (fun y hy => hy.1) (fun _ => ?_) ?_ ?_ ?_
   ·simp only [go_sem, ↓tfi, ↓fti, ↓reduceIte, Cc.cs]
   ·simp only [go_sem, ↓tfi, ↓fti, ↓reduceIte, Cc.cs]
    exact ⟨rfl, rfl, rfl⟩
   ·exact ⟨.inl rfl, Nat.zero_le _, by simp⟩
   ·rintro ⟨k, v, accf, mf⟩ ⟨f1, f2, f3⟩
    simp only at f1 f2 f3
    have hal := congrArg List.length f3
    simp only [Lla, Llc, Lln] at hal
    have hle := flat_le (f := fieldT) fields k
    have hft := fun (hk : k < fields.length) => And.intro (flat_takeT (f := fieldT) hk) (flat_le (f := fieldT) fields (k + 1))
    have hy : ∀ (hk : k < fields.length), Rd mf (ptrAt x.fa (k * 5)) (fields[k]).cs ∧ x.fa ≠ none := fun hk => by
     have := Rds_cells (Rds_upM (leM_tr hlf f1) r2) (by omega : k < x.fn)
     rw [flat_at (f := Fc.cs) (sz := 5) (fun _ => rfl) hk] at this
     exact this
    simp only [go_sem, ↓tfi, ↓fti, ↓reduceIte, Cc.cs]
    refine ⟨fun hlt => ?_, fun hge => ?_⟩
    ·have hk : k < fields.length := by clear hMd hW hS hN hT hIf hI hM; omega
     have hft' := hft hk
     clear hft
     have hsz := congrArg List.length hft'.1
     rw [Lla] at hsz
     have hsz2 : (fieldT fields[k]).length = (modT fields[k].fl).length + (typT fields[k].ty.dim fields[k].ty.base fields[k].ty.name).length + 1 + 1 := by simp only [fieldT, Lla, Llc, Lln]
     have hfm : fields[k] ∈ fields := List.getElem_mem hk
     refine ⟨⟨by clear hMd hW hS hN hT hIf hI hM; omega, hlt, (hy hk).2⟩, (fields[k]).cs, ⟨(hy hk).1, rfl⟩, ?_⟩
     simp only [go_sem, ↓tfi, ↓fti, ↓reduceIte, Cc.cs, Fc.cs]
     refine cvl ((hMd fields[k].fl mf (u21 + v) (accf) (by clear hMd hW hS hN hT hIf hI hM; first | omega | (simp only [Lla, Llc, Lln]; omega))).mono ?_)
     rintro r H' m23 hm23 ⟨l23, rfl, u23, hu23, rfl⟩
     simp only [go_sem, ↓tfi, ↓fti, ↓reduceIte, Cc.cs, Fc.cs]
     refine ⟨hu23, by kernel_rfl, FnV_of ((FnH_den (hT fields[k].ty (hdim _ hfm) m23 u23 (accf ++ modT fields[k].fl) (by clear hMd hW hS hN hT hIf hI hM; first | omega | (simp only [Lla, Llc, Lln]; omega))) (fun V => rfl)).mono ?_)⟩
     rintro r H' m24 hm24 ⟨l24, rfl, u24, hu24, rfl⟩
     simp only [go_sem, ↓tfi, ↓fti, ↓reduceIte, Cc.cs, Fc.cs]
     refine ⟨hu24, by kernel_rfl, FnV_of ((hN fields[k].name m24 u24 (accf ++ modT fields[k].fl ++ typT fields[k].ty.dim fields[k].ty.base fields[k].ty.name) (by clear hMd hW hS hN hT hIf hI hM; first | omega | (simp only [Lla, Llc, Lln]; omega))).mono ?_)⟩
     rintro r H' m25 hm25 ⟨l25, rfl, u25, hu25, rfl⟩
     simp only [go_sem, ↓tfi, ↓fti, ↓reduceIte, Cc.cs, Fc.cs]
     refine ⟨hu25, by kernel_rfl, fun a26 c26 w26 hw26 hc26 rr26 => FnV_of ((hS [59] u25 (accf ++ modT fields[k].fl ++ typT fields[k].ty.dim fields[k].ty.base fields[k].ty.name ++ [nm1 fields[k].name]) (by clear hMd hW hS hN hT hIf hI hM; first | omega | (simp only [Lla, Llc, Lln]; omega)) a26 c26 w26 rr26).mono ?_)⟩
     rintro r H' m26 hm26 ⟨l26, rfl, u26, hu26, rfl⟩
     simp only [go_sem, ↓tfi, ↓fti, ↓reduceIte, Cc.cs, Fc.cs]
     refine ⟨hu26, by clear hMd hW hS hN hT hIf hI hM; unfold I64; simp only [big] at hfb; omega, (k + 1, u26 - u21, accf ++ modT fields[k].fl ++ typT fields[k].ty.dim fields[k].ty.base fields[k].ty.name ++ [nm1 fields[k].name] ++ [sg [59]], m26), ⟨by simp, by rw [show u21 + (u26 - u21) = u26 by clear hMd hW hS hN hT hIf hI hM; omega], ⟨by clear hMd hW hS hN hT hIf hI hM; simp only; omega, rfl, rfl⟩, .inl rfl⟩, ⟨leM_tr f1 (leM_tr (leM_tr (leM_tr (leM_tr (leM_tr (.inl rfl : leM mf mf) l23) l24) l25) (.inr hw26)) l26), by clear hMd hW hS hN hT hIf hI hM; simp only; omega, ?_⟩, by clear hMd hW hS hN hT hIf hI hM; simp only; omega⟩
     simp only
     rw [hft'.1, f3]
     simp only [fieldT, List.append_assoc]
    ·clear hy hft
     have hkk : fields.take k = fields := List.take_of_length_le (by clear hMd hW hS hN hT hIf hI hM; omega)
     rw [hkk] at f3 hal
     refine ⟨fun hi => ?_, fun hi => ?_⟩
     ·have hi0 : 0 < init.length := by clear hMd hW hS hN hT hIf hI hM; omega
      rw [if_pos hi0] at hb
      simp only [Lla, Llc, Lln] at hb
      have hini : (if 0 < init.length then [kw [115, 116, 97, 116, 105, 99]] ++ IT else []) = [kw [115, 116, 97, 116, 105, 99]] ++ IT := if_pos hi0
      refine ⟨by kernel_rfl, fun a27 c27 w27 hw27 hc27 rr27 => FnV_of ((hW [115, 116, 97, 116, 105, 99] (u21 + v) (accf) (by clear hMd hW hS hN hT hIf hI hM; first | omega | (simp only [Lla, Llc, Lln]; omega)) a27 c27 w27 rr27).mono ?_)⟩
      rintro r H' m27 hm27 ⟨l27, rfl, u27, hu27, rfl⟩
      simp only [go_sem, ↓tfi, ↓fti, ↓reduceIte, Cc.cs]
      refine ⟨hu27, by kernel_rfl, FnV_of ((hI hi0 x.sa x.sl x.sc ys m27 u27 (accf ++ [kw [115, 116, 97, 116, 105, 99]]) (leM_tr (leM_tr (leM_tr hlf f1) (.inr hw27)) l27) hsl (Rds_upM (leM_tr (leM_tr (leM_tr hlf f1) (.inr hw27)) l27) r4) (stsRep_upM (leM_tr (leM_tr (leM_tr hlf f1) (.inr hw27)) l27) s4) (by clear hMd hW hS hN hT hIf hI hM; first | omega | (simp only [Lla, Llc, Lln]; omega))).mono ?_)⟩
      rintro r H' m28 hm28 ⟨l28, rfl, u28, hu28, rfl⟩
      simp only [go_sem, ↓tfi, ↓fti, ↓reduceIte, Cc.cs]
      refine ⟨hu28, ?_⟩
      have hlm := (leM_tr (leM_tr (leM_tr (leM_tr hlf f1) (.inr hw27)) l27) l28)
      refine WP_loop puW (fun y : Nat × Nat × List Tk × Mem => ⟨[⟨0, [], .box 0 0⟩, ⟨88, [], .v (.slice x.ma x.ml x.mc)⟩, ⟨89, [], .v (.int .i64 x.ml)⟩, ⟨90, [], .v (.int .i64 y.1)⟩], [], [⟨0, 64, [.vec 1 (u28 + y.2.1)]⟩], [⟨1, u28 + y.2.1, 79, 4, y.2.2.1.length, tkCells y.2.2.1⟩], 200, y.2.2.2⟩)
       (fun y => leM m28 y.2.2.2 ∧ y.1 ≤ x.ml ∧ y.2.2.1 = accf ++ [kw [115, 116, 97, 116, 105, 99]] ++ IT ++ ((methods.take y.1).map MT).flatten) (fun y => x.ml - y.1) (0, 0, accf ++ [kw [115, 116, 97, 116, 105, 99]] ++ IT, m28) (by kernel_rfl) (fun _ _ => nbl rfl) (fun y hy => hy.1) (fun _ => ?_) ?_ ?_ ?_
      ·simp only [go_sem, ↓tfi, ↓fti, ↓reduceIte]
      ·simp only [go_sem, ↓tfi, ↓fti, ↓reduceIte]
       exact ⟨rfl, rfl, rfl⟩
      ·exact ⟨.inl rfl, Nat.zero_le _, by simp⟩
      ·rintro ⟨k, vm, acc', mm⟩ ⟨h1, h2, h3⟩
       simp only at h1 h2 h3
       have hal := congrArg List.length h3
       simp only [Lla, Llc, Lln] at hal
       have hle := flat_le (f := MT) methods k
       have hy : ∀ (hk : k < methods.length), ∃ X : Mc, (Rd mm (ptrAt x.ma (k * 8)) X.cs ∧ x.ma ≠ none) ∧ WrT 90 [.v (.agg ⟨X.cs⟩)] mm (u28 + vm) acc' (MT methods[k]) := fun hk => by
        have hrep := mdRep_up (leM_tr hlm h1) (ls_at s3 hk)
        have hrd := Rds_cells (Rds_upM (leM_tr hlm h1) r3) (by omega : k < x.ml)
        obtain ⟨X, hX⟩ := mdRep_mc hrep
        rw [hX] at hrep hrd
        have hsz := flat_le (f := MT) methods (k + 1)
        have hst := congrArg List.length (flat_takeT (f := MT) hk)
        rw [Lla] at hst
        exact ⟨X, hrd, hM _ (List.getElem_mem hk) X.cs mm _ acc' (leM_tr hlm h1) hrep (by clear hMd hW hS hN hT hIf hI hM; omega)⟩
       have hft := fun (hk : k < methods.length) => flat_takeT (f := MT) hk
       clear hM
       simp only [go_sem, ↓tfi, ↓fti, ↓reduceIte]
       refine ⟨fun hlt => ?_, fun hge => ?_⟩
       ·have hk : k < methods.length := by clear hMd hW hS hN hT hIf hI hy; omega
        have hft' := hft hk
        clear hft
        refine Exists.elim (hy hk) fun X hy' => ⟨⟨by clear hMd hW hS hN hT hIf hI hy hy'; omega, hlt, hy'.1.2⟩, X.cs, ⟨hy'.1.1, rfl⟩, ?_⟩
        clear hy
        have hD := hy'.2
        clear hy'
        simp only [go_sem, ↓tfi, ↓fti, ↓reduceIte, Mc.cs]
        refine cvl ((FnH_den hD (fun V => rfl)).mono ?_)
        clear hD
        rintro r H' mz hmz ⟨lz, rfl, uz, huz, rfl⟩
        simp only [go_sem, ↓tfi, ↓fti, ↓reduceIte, Mc.cs]
        refine ⟨huz, by clear hMd hW hS hN hT hIf hI; unfold I64; simp only [big] at hmb; omega, (k + 1, uz - u28, acc' ++ MT methods[k], mz), ⟨by simp, by rw [show u28 + (uz - u28) = uz by omega], ⟨by simp only; omega, rfl, rfl⟩, .inl rfl⟩, ⟨leM_tr h1 lz, by simp only; omega, ?_⟩, by simp only; omega⟩
        simp only
        rw [hft', h3, List.append_assoc]
       ·clear hy hft
        have hkk : methods.take k = methods := List.take_of_length_le (by clear hMd hW hS hN hT hIf hI; omega)
        rw [hkk] at h3 hal
        refine ⟨by kernel_rfl, fun az cz wz hwz hcz rz => FnV_of ((hS [125] (u28 + vm) acc' (by clear hMd hW hS hN hT hIf hI; omega) az cz wz rz).mono ?_)⟩
        clear hMd hW hS hN hT hIf hI
        rintro r H' mz hmz ⟨lz, rfl, uz, huz, rfl⟩
        simp only [go_sem, ↓tfi, ↓fti, ↓reduceIte]
        refine ⟨huz, leM_tr hlm (leM_tr h1 (leM_tr (.inr hwz) lz)), uz, by omega, ?_⟩
        have hfin : acc' ++ [sg [125]] = acc ++ classT IT MT ⟨x.fl, x.name, x.super, ifs, fields, methods, init⟩ := by
         rw [h3, f3, classT]
         dsimp only
         rw [hH, hini]
         simp only [List.append_assoc, List.cons_append, List.nil_append, List.append_nil]
        rw [hfin]
     ·have hi0 : ¬ 0 < init.length := by clear hMd hW hS hN hT hIf hI hM; omega
      rw [if_neg hi0] at hb
      simp only [Lln] at hb
      have hini : (if 0 < init.length then [kw [115, 116, 97, 116, 105, 99]] ++ IT else []) = [] := if_neg hi0
      have hlm := (leM_tr hlf f1)
      refine WP_loop puW (fun y : Nat × Nat × List Tk × Mem => ⟨[⟨0, [], .box 0 0⟩, ⟨88, [], .v (.slice x.ma x.ml x.mc)⟩, ⟨89, [], .v (.int .i64 x.ml)⟩, ⟨90, [], .v (.int .i64 y.1)⟩], [], [⟨0, 64, [.vec 1 ((u21 + v) + y.2.1)]⟩], [⟨1, (u21 + v) + y.2.1, 79, 4, y.2.2.1.length, tkCells y.2.2.1⟩], 200, y.2.2.2⟩)
       (fun y => leM mf y.2.2.2 ∧ y.1 ≤ x.ml ∧ y.2.2.1 = accf ++ ((methods.take y.1).map MT).flatten) (fun y => x.ml - y.1) (0, 0, accf, mf) (by kernel_rfl) (fun _ _ => nbl rfl) (fun y hy => hy.1) (fun _ => ?_) ?_ ?_ ?_
      ·simp only [go_sem, ↓tfi, ↓fti, ↓reduceIte]
      ·simp only [go_sem, ↓tfi, ↓fti, ↓reduceIte]
       exact ⟨rfl, rfl, rfl⟩
      ·exact ⟨.inl rfl, Nat.zero_le _, by simp⟩
      ·rintro ⟨k, vm, acc', mm⟩ ⟨h1, h2, h3⟩
       simp only at h1 h2 h3
       have hal := congrArg List.length h3
       simp only [Lla, Llc, Lln] at hal
       have hle := flat_le (f := MT) methods k
       have hy : ∀ (hk : k < methods.length), ∃ X : Mc, (Rd mm (ptrAt x.ma (k * 8)) X.cs ∧ x.ma ≠ none) ∧ WrT 90 [.v (.agg ⟨X.cs⟩)] mm ((u21 + v) + vm) acc' (MT methods[k]) := fun hk => by
        have hrep := mdRep_up (leM_tr hlm h1) (ls_at s3 hk)
        have hrd := Rds_cells (Rds_upM (leM_tr hlm h1) r3) (by omega : k < x.ml)
        obtain ⟨X, hX⟩ := mdRep_mc hrep
        rw [hX] at hrep hrd
        have hsz := flat_le (f := MT) methods (k + 1)
        have hst := congrArg List.length (flat_takeT (f := MT) hk)
        rw [Lla] at hst
        exact ⟨X, hrd, hM _ (List.getElem_mem hk) X.cs mm _ acc' (leM_tr hlm h1) hrep (by clear hMd hW hS hN hT hIf hI hM; omega)⟩
       have hft := fun (hk : k < methods.length) => flat_takeT (f := MT) hk
       clear hM
       simp only [go_sem, ↓tfi, ↓fti, ↓reduceIte]
       refine ⟨fun hlt => ?_, fun hge => ?_⟩
       ·have hk : k < methods.length := by clear hMd hW hS hN hT hIf hI hy; omega
        have hft' := hft hk
        clear hft
        refine Exists.elim (hy hk) fun X hy' => ⟨⟨by clear hMd hW hS hN hT hIf hI hy hy'; omega, hlt, hy'.1.2⟩, X.cs, ⟨hy'.1.1, rfl⟩, ?_⟩
        clear hy
        have hD := hy'.2
        clear hy'
        simp only [go_sem, ↓tfi, ↓fti, ↓reduceIte, Mc.cs]
        refine cvl ((FnH_den hD (fun V => rfl)).mono ?_)
        clear hD
        rintro r H' mz hmz ⟨lz, rfl, uz, huz, rfl⟩
        simp only [go_sem, ↓tfi, ↓fti, ↓reduceIte, Mc.cs]
        refine ⟨huz, by clear hMd hW hS hN hT hIf hI; unfold I64; simp only [big] at hmb; omega, (k + 1, uz - (u21 + v), acc' ++ MT methods[k], mz), ⟨by simp, by rw [show (u21 + v) + (uz - (u21 + v)) = uz by omega], ⟨by simp only; omega, rfl, rfl⟩, .inl rfl⟩, ⟨leM_tr h1 lz, by simp only; omega, ?_⟩, by simp only; omega⟩
        simp only
        rw [hft', h3, List.append_assoc]
       ·clear hy hft
        have hkk : methods.take k = methods := List.take_of_length_le (by clear hMd hW hS hN hT hIf hI; omega)
        rw [hkk] at h3 hal
        refine ⟨by kernel_rfl, fun az cz wz hwz hcz rz => FnV_of ((hS [125] ((u21 + v) + vm) acc' (by clear hMd hW hS hN hT hIf hI; omega) az cz wz rz).mono ?_)⟩
        clear hMd hW hS hN hT hIf hI
        rintro r H' mz hmz ⟨lz, rfl, uz, huz, rfl⟩
        simp only [go_sem, ↓tfi, ↓fti, ↓reduceIte]
        refine ⟨huz, leM_tr hlm (leM_tr h1 (leM_tr (.inr hwz) lz)), uz, by omega, ?_⟩
        have hfin : acc' ++ [sg [125]] = acc ++ classT IT MT ⟨x.fl, x.name, x.super, ifs, fields, methods, init⟩ := by
         rw [h3, f3, classT]
         dsimp only
         rw [hH, hini]
         simp only [List.append_assoc, List.cons_append, List.nil_append, List.append_nil]
        rw [hfin]
def brT (l : List Tk) : List Tk := sg [123] :: (l ++ [sg [125]])
def Ex.args : Ex → List Ex | .mk _ _ _ _ _ args => args
def stT (k : Int) (nm : List UInt8) (ty : Ty) (tg ex : Ex) (B A : List Tk) (al : Nat) : List Tk :=
 if k = 4 then [kw [105, 102]] ++ listT [exprT ex] ++ brT B ++ (if 0 < al then [kw [101, 108, 115, 101]] ++ brT A else [])
 else if k = 5 then [kw [119, 104, 105, 108, 101]] ++ listT [exprT ex] ++ brT B
 else if k = 8 then [kw [116, 114, 121]] ++ brT B ++ [kw [99, 97, 116, 99, 104]] ++ [sg [40]] ++ typT ty.dim ty.base ty.name ++ [nm1 nm] ++ [sg [41]] ++ brT A
 else if k = 9 then [kw [115, 121, 110, 99]] ++ listT [exprT ex] ++ brT B
 else if k = 10 then brT B
 else (if k = 1 then typT ty.dim ty.base ty.name ++ [nm1 nm] ++ [sg [61]] ++ exprT ex
  else if k = 2 then exprT tg ++ [sg [61]] ++ exprT ex
  else if k = 3 then exprT ex
  else if k = 6 then [kw [114, 101, 116, 117, 114, 110]] ++ (if ex.k ≠ 0 then exprT ex else [])
  else if k = 7 then [kw [116, 104, 114, 111, 119]] ++ exprT ex
  else if k = 11 then [kw [115, 117, 112, 101, 114]] ++ listT (ex.args.map exprT)
  else []) ++ [sg [59]]
mutual
def stmtT : St → List Tk
 | .mk k nm ty tg ex body alt => stT k nm ty tg ex (stmtsT body) (stmtsT alt) alt.length
def stmtsT : List St → List Tk
 | [] => []
 | e :: r => stmtT e ++ stmtsT r
end
def paramT (p : Pc) : List Tk := typT p.ty.dim p.ty.base p.ty.name ++ [nm1 p.name]
def methodT (d : Md) : List Tk :=
 modT d.fl ++ (if d.name = initS then [kw [110, 101, 119]] else typT d.res.dim d.res.base d.res.name ++ [nm1 d.name]) ++ listT (d.params.map paramT) ++ (if d.hb = true then brT (stmtsT d.body) else [sg [59]])
def clsT (d : Cd) : List Tk := classT (brT (stmtsT d.init)) methodT d
def progT (l : List Cd) : List Tk := (l.map clsT).flatten
def fmtP (l : List Cd) : List UInt8 × Int := if (checkL [] l).2 = 0 then joinL (progT l) else ([], (checkL [] l).2)
structure WrOk (d : Cd) (m : Mem) : Prop where
 dim : ∀ f ∈ d.fields, f.ty.dim ≤ 1000
 blk : 0 < d.init.length → ∀ a n c xs m' u acc, leM m m' → n = d.init.length → Rds m' a n 23 xs → stsRep m' d.init xs → acc.length + (brT (stmtsT d.init)).length ≤ cap → WrT 89 [.v (.slice a n c)] m' u acc (brT (stmtsT d.init))
 mth : ∀ e ∈ d.methods, ∀ cs m' u acc, leM m m' → mdRep m' e cs → acc.length + (methodT e).length ≤ cap → WrT 90 [.v (.agg ⟨cs⟩)] m' u acc (methodT e)
theorem formatP_spec (l : List Cd) (p : Option Addr) (n c : Nat) (m : Mem) (hg : Glob m) (hC : ∀ d ∈ l, CdB d) (hW : (checkL [] l).2 = 0 → ∀ d ∈ l, WrOk d m) (hT : (checkL [] l).2 = 0 → (progT l).length ≤ cap ∧ AllT TkOk (progT l)) (h : prRep m l p n c) :
  FnH Tryz.prog 13 [.v (.slice p n c)] ⟨[], []⟩ m fun r H' m' => leM m m' ∧ H' = ⟨[], []⟩ ∧ r = .tup [.v (.string (bs (fmtP l).1)), .v (.int .i64 (fmtP l).2)] := by
 have hCk := check_spec l p n c m hg hC h
 obtain ⟨hl, hcp, hn, xs, r1, s1⟩ := h
 have hJ := fun (h0 : (checkL [] l).2 = 0) (m' : Mem) (hle : leM m m') (a : Option Addr) (c : Nat) (hr : Rds m' a (progT l).length 4 (tkCells (progT l))) => joinT_spec (progT l) a _ c m' (hg.upM hle) hr (hT h0).2 (by have := (hT h0).1; simp only [cap] at this; omega)
 have hJ0 := fun (m' : Mem) (hle : leM m m') => joinT_spec [] none 0 0 m' (hg.upM hle) Rds_nil (fun t ht => by cases ht) (by omega)
 have hX : ∀ (h0 : (checkL [] l).2 = 0) (mm : Mem) (hle : leM m mm) (k : Nat) (hk : k < l.length), ∃ X : Cc, (Rd mm (ptrAt p (k * 7)) X.cs ∧ p ≠ none) ∧ ∀ u acc, acc.length + (clsT l[k]).length ≤ cap → WrT 38 [.v (.agg ⟨X.cs⟩)] mm u acc (clsT l[k]) := fun h0 mm hle k hk => by
  have hrep := cdRep_up hle (ls_at s1 hk)
  have hrd := Rds_cells (Rds_upM hle r1) (by omega : k < n)
  obtain ⟨X, hX⟩ := cdRep_cc hrep
  rw [hX] at hrep hrd
  have w := hW h0 _ (List.getElem_mem hk)
  exact ⟨X, hrd, fun u acc hb => classW_spec (brT (stmtsT l[k].init)) methodT l[k] X.cs mm u acc hrep w.dim hb (fun h1 a n c xs m' u acc hle2 => w.blk h1 a n c xs m' u acc (leM_tr hle hle2)) (fun e he cs m' u acc hle2 => w.mth e he cs m' u acc (leM_tr hle hle2))⟩
 clear hC hW
 refine enter cfW puW Tryz.func13 rfl rfl (by kernel_rfl) rfl ?_ ?_
 ·simp only [go_sem, ↓tfi, ↓fti, ↓reduceIte]
 ·simp only [go_sem, ↓tfi, ↓fti, ↓reduceIte]
  refine cvl (hCk.mono ?_)
  clear hCk
  rintro r H' m1 hm1 ⟨l1, rfl, rfl⟩
  simp only [go_sem, ↓tfi, ↓fti, ↓reduceIte]
  refine ⟨fun hne => ⟨l1, ?_⟩, fun h0 => ?_⟩
  ·clear hJ hJ0 hX
   rw [fmtP, if_neg hne]
  ·have hf : fmtP l = joinL (progT l) := by rw [fmtP, if_pos h0]
   have hTl := (hT h0).1
   have hJ1 := hJ h0
   have hX1 := hX h0
   clear hJ hX hT
   refine WP_loop puW (fun x : Mem ⊕ (Nat × Nat × List Tk × Mem) => match x with
     | .inl mm => ⟨[⟨6, [], .box 0 0⟩, ⟨19, [], .v (.slice p n c)⟩, ⟨20, [], .v (.int .i64 n)⟩, ⟨21, [], .v (.int .i64 0)⟩], [], [⟨0, 64, [.v (.slice none 0 0)]⟩], [], 50, mm⟩
     | .inr y => ⟨[⟨6, [], .box 0 0⟩, ⟨19, [], .v (.slice p n c)⟩, ⟨20, [], .v (.int .i64 n)⟩, ⟨21, [], .v (.int .i64 y.1)⟩], [], [⟨0, 64, [.vec 52 y.2.1]⟩], [⟨52, y.2.1, 79, 4, y.2.2.1.length, tkCells y.2.2.1⟩], 100, y.2.2.2⟩)
    (fun x => match x with
     | .inl mm => leM m1 mm
     | .inr y => leM m1 y.2.2.2 ∧ 1 ≤ y.1 ∧ y.1 ≤ n ∧ y.2.2.1 = progT (l.take y.1)) (fun x => match x with | .inl _ => n + 1 | .inr y => n - y.1) (.inl m1) (by kernel_rfl) ?_ ?_ (fun x => ?_) ?_ ?_ ?_
   ·rintro (mm | y) _ <;> exact nbl rfl
   ·rintro (mm | y) h
    ·exact h
    ·exact h.1
   ·cases x
    ·simp only [go_sem, ↓tfi, ↓fti, ↓reduceIte]
    ·simp only [go_sem, ↓tfi, ↓fti, ↓reduceIte]
   ·simp only [go_sem, ↓tfi, ↓fti, ↓reduceIte]
   ·exact .inl rfl
   ·rintro (mm | ⟨k, v, acc', mm⟩) hI
    ·have hI : leM m1 mm := hI
     have hX2 := hX1 mm (leM_tr l1 hI) 0
     rw [Nat.zero_mul] at hX2
     have hJ2 := hJ0 mm (leM_tr l1 hI)
     clear hJ1 hX1 hJ0
     simp only [go_sem, ↓tfi, ↓fti, ↓reduceIte]
     refine ⟨fun hlt => ?_, fun hge => cvl (hJ2.mono ?_)⟩
     ·clear hJ2
      have hk : 0 < l.length := by clear hX2; omega
      refine Exists.elim (hX2 hk) fun X hX3 => ⟨⟨by clear hX2 hX3; omega, hlt, hX3.1.2⟩, X.cs, ⟨hX3.1.1, rfl⟩, ?_⟩
      clear hX2
      have hD := FnH_adopt (tW := 64) (el := 79) (sz := 4) (by decide) (by decide) (fun V V' h => by simp [den, denB, denA, h]) (hX3.2 0 [] (by
       clear hX3
       have := flat_le (f := clsT) l 1
       rw [flat_takeT hk] at this
       simp only [progT] at hTl
       simp only [List.take_zero, List.map_nil, List.flatten_nil, List.nil_append, Lln] at this ⊢
       omega))
      clear hX3
      simp only [go_sem, ↓tfi, ↓fti, ↓reduceIte, Cc.cs]
      refine cvl ((FnH_den hD (fun V => rfl)).mono ?_)
      clear hD
      rintro r H' m2 hm2 ⟨l2, rfl, w, hw, rfl⟩
      simp only [go_sem, ↓tfi, ↓fti, ↓reduceIte, Cc.cs]
      refine ⟨by unfold I64; omega, .inr (1, w, clsT l[0], m2), ?_⟩
      simp only [go_sem, ↓tfi, ↓fti, ↓reduceIte]
      refine ⟨by simp, ⟨leM_tr hI l2, by omega, ?_⟩, by omega⟩
      have := flat_takeT (f := clsT) hk
      rw [progT, this]
      simp
     ·clear hX2
      rintro r H' m2 hm2 ⟨l2, rfl, rfl⟩
      simp only [go_sem, ↓tfi, ↓fti, ↓reduceIte]
      have : l = [] := List.length_eq_zero_iff.1 (by omega)
      rw [hf, this]
      exact ⟨leM_tr (leM_tr l1 hI) l2, rfl⟩
    ·have hI : leM m1 mm ∧ 1 ≤ k ∧ k ≤ n ∧ acc' = progT (l.take k) := hI
     have q1 := hI.1
     have q2 := hI.2.1
     have q3 := hI.2.2.1
     have q4 := hI.2.2.2
     have hX2 := hX1 mm (leM_tr l1 q1) k
     have hle := fun (hk : k < l.length) => And.intro (flat_le (f := clsT) l (k + 1)) (flat_takeT (f := clsT) hk)
     clear hX1 hJ0
     simp only [go_sem, ↓tfi, ↓fti, ↓reduceIte]
     refine ⟨fun hlt => ?_, fun hge => ⟨by kernel_rfl, fun a1 c1 w1 hw1 hc1 rr1 => ?_⟩⟩
     ·clear hJ1
      have hk : k < l.length := by clear hX2; omega
      have hle' := hle hk
      clear hle
      refine Exists.elim (hX2 hk) fun X hX3 => ⟨⟨by clear hX2 hX3; omega, hlt, hX3.1.2⟩, X.cs, ⟨hX3.1.1, rfl⟩, ?_⟩
      clear hX2
      have hD := hX3.2 v acc' (by
       clear hX3
       have h1 := hle'.1
       rw [hle'.2] at h1
       simp only [progT] at hTl q4
       rw [q4]
       simp only [Lla] at h1
       omega)
      clear hX3
      simp only [go_sem, ↓tfi, ↓fti, ↓reduceIte, Cc.cs]
      refine cvl ((FnH_den hD (fun V => rfl)).mono ?_)
      clear hD
      rintro r H' m2 hm2 ⟨l2, rfl, w, hw, rfl⟩
      simp only [go_sem, ↓tfi, ↓fti, ↓reduceIte, Cc.cs]
      refine ⟨hw, by unfold I64; simp only [big] at hn; omega, .inr (k + 1, w, acc' ++ clsT l[k], m2), ?_⟩
      simp only [go_sem, ↓tfi, ↓fti, ↓reduceIte]
      refine ⟨by simp, ⟨leM_tr q1 l2, by omega, ?_⟩, by omega⟩
      rw [q4, progT, progT, hle'.2]
     ·clear hX2
      have hkk : acc' = progT l := by rw [q4, List.take_of_length_le (by clear hJ1; omega)]
      subst hkk
      refine FnV_of ((hJ1 w1 (leM_tr (leM_tr l1 q1) (.inr hw1)) a1 c1 rr1).mono ?_)
      clear hJ1
      rintro r H' m2 hm2 ⟨l2, rfl, rfl⟩
      rw [← hf]
      simp only [go_sem, ↓tfi, ↓fti, ↓reduceIte]
      exact leM_tr (leM_tr (leM_tr l1 q1) (.inr hw1)) l2
end Go.Proofs.YtalalcpefggniaaGreatDoor.E
